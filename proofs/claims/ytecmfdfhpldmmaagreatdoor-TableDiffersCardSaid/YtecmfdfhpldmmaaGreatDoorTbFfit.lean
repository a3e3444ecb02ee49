import Derived.Test.YtecmfdfhpldmmaaGreatDoorProg
import Derived.Test.YtecmfdfhpldmmaaGreatDoorShEight
/- Shallow texts of functions, printed by program, each checked by the kernel against the loaded code. No condition. -/
set_option maxRecDepth 100000
set_option linter.unusedVariables false
namespace Go.Proofs.YtecmfdfhpldmmaaGreatDoor
open Go.Sh
/-! function 13: cabinetry/table.Fit -/
noncomputable def c13_0 : Code := itemAt (flat (bodyOf Tryz.f13)) 0
noncomputable def c13_1 : Code := itemAt (flat (bodyOf Tryz.f13)) 1
noncomputable def c13_2 : Code := itemAt (flat (bodyOf Tryz.f13)) 2
noncomputable def c13_3 : Code := itemAt (flat (bodyOf Tryz.f13)) 3
noncomputable def c13_4 : Code := itemAt (flat (bodyOf Tryz.f13)) 4
noncomputable def c13_5 : Code := itemAt (flat (bodyOf Tryz.f13)) 5
noncomputable def c13_6 : Code := itemAt (flat (bodyOf Tryz.f13)) 6
noncomputable def c13_7 : Code := itemAt (flat (bodyOf Tryz.f13)) 7
noncomputable def c13_8 : Code := itemAt (flat (bodyOf Tryz.f13)) 8
noncomputable def c13_9 : Code := itemAt (flat (bodyOf Tryz.f13)) 9
noncomputable def c13_10 : Code := itemAt (flat (bodyOf Tryz.f13)) 10
noncomputable def c13_11 : Code := itemAt (flat (bodyOf Tryz.f13)) 11
noncomputable def c13_12 : Code := itemAt (flat (bodyOf Tryz.f13)) 12
noncomputable def c13_13 : Code := itemAt (flat (bodyOf Tryz.f13)) 13
def F13_q1 (R : Rt) : EQ := endQ Tryz.prog Tryz.f13.results.toList R
def F13_1 (R : Rt) (n1 : Int) (p3 : Option Addr) (p5 : Option Addr) (p6 : Option Addr) (n42 : Int) (ds : Ds) (w : World) : Prop :=
 Br (n42 == 4) (
 ptrE p5 fun a1 =>
 ∃ s46 : ByteArray, w.cell? (a1.add 2) = some (.string s46) ∧
 ptrE p5 fun a2 =>
 ∃ s48 : ByteArray, w.cell? (a2.add 2) = some (.string s48) ∧
 ptrE p3 fun a3 =>
 ∃ n51 : Int, w.cell? (a3.add 2) = some (.int .i64 n51) ∧
 ∃ n52 : Int, ∃ w4 : World, (Builtin.min_ #[3, 3] 3 #[.int .i64 ((s48.size : Nat) : Int), .int .i64 n51]).run Tryz.prog w = .ok (.int .i64 n52) w4 ∧
 0 ≤ n52 ∧ n52.toNat ≤ s46.size ∧ 0 ≤ n52.toNat ∧
 Calls Tryz.prog 51 #[.string (s46.extract 0 n52.toNat), .string (⟨#[32]⟩ : ByteArray)] w4 fun e w5 =>
 ∃ s54 : ByteArray, e = .returned (.string s54) ∧
 ptrE p5 fun a6 =>
 st1 (a6.add 2) (.string s54) w5 fun w7 =>
 ptrE p5 fun a8 =>
 ∃ s57 : ByteArray, w7.cell? (a8.add 2) = some (.string s57) ∧
 Calls Tryz.prog 52 #[.string s57, .int .i64 n1] w7 fun e w9 =>
 ∃ b59 : Bool, e = .returned (.bool b59) ∧
 Br (!b59) (
 ptrE p6 fun a10 =>
 stA Tryz.prog 25 a10 #[.int .i64 0, .int .i64 0, .string (⟨#[]⟩ : ByteArray)] w9 fun w11 =>
 runD Tryz.prog ds w11 fun w12 =>
 ptrE p6 fun a13 =>
 ∃ nR0_0 : Int, w12.cell? (a13.add 0) = some (.int .i64 nR0_0) ∧
 ∃ nR0_1 : Int, w12.cell? (a13.add 1) = some (.int .i64 nR0_1) ∧
 ∃ sR0_2 : ByteArray, w12.cell? (a13.add 2) = some (.string sR0_2) ∧
 R (.returned (.tuple #[.agg #[.int .i64 nR0_0, .int .i64 nR0_1, .string sR0_2], .int .i64 10])) w12) (
 ptrE p5 fun a14 =>
 ∃ n90_0 : Int, w9.cell? (a14.add 0) = some (.int .i64 n90_0) ∧
 ∃ n90_1 : Int, w9.cell? (a14.add 1) = some (.int .i64 n90_1) ∧
 ∃ s90_2 : ByteArray, w9.cell? (a14.add 2) = some (.string s90_2) ∧
 ptrE p6 fun a15 =>
 stA Tryz.prog 25 a15 #[.int .i64 n90_0, .int .i64 n90_1, .string s90_2] w9 fun w16 =>
 runD Tryz.prog ds w16 fun w17 =>
 ptrE p6 fun a18 =>
 ∃ nR0_0 : Int, w17.cell? (a18.add 0) = some (.int .i64 nR0_0) ∧
 ∃ nR0_1 : Int, w17.cell? (a18.add 1) = some (.int .i64 nR0_1) ∧
 ∃ sR0_2 : ByteArray, w17.cell? (a18.add 2) = some (.string sR0_2) ∧
 R (.returned (.tuple #[.agg #[.int .i64 nR0_0, .int .i64 nR0_1, .string sR0_2], .int .i64 0])) w17)) (
 Br (n42 == 2) (
 ptrE p5 fun a19 =>
 ∃ n66 : Int, w.cell? (a19.add 1) = some (.int .i64 n66) ∧
 ptrE p3 fun a20 =>
 ∃ n68 : Int, w.cell? (a20.add 2) = some (.int .i64 n68) ∧
 Calls Tryz.prog 53 #[.int .i64 n66, .int .i64 n68] w fun e w21 =>
 ∃ s69_0 : ByteArray, ∃ n69_1 : Int, e = .returned (.tuple #[.string s69_0, .int .i64 n69_1]) ∧
 Br (n69_1 != 0) (
 ptrE p6 fun a22 =>
 stA Tryz.prog 25 a22 #[.int .i64 0, .int .i64 0, .string (⟨#[]⟩ : ByteArray)] w21 fun w23 =>
 runD Tryz.prog ds w23 fun w24 =>
 ptrE p6 fun a25 =>
 ∃ nR0_0 : Int, w24.cell? (a25.add 0) = some (.int .i64 nR0_0) ∧
 ∃ nR0_1 : Int, w24.cell? (a25.add 1) = some (.int .i64 nR0_1) ∧
 ∃ sR0_2 : ByteArray, w24.cell? (a25.add 2) = some (.string sR0_2) ∧
 R (.returned (.tuple #[.agg #[.int .i64 nR0_0, .int .i64 nR0_1, .string sR0_2], .int .i64 10])) w24) (
 Calls Tryz.prog 54 #[.string s69_0, .string (⟨#[42]⟩ : ByteArray)] w21 fun e w26 =>
 ∃ b76 : Bool, e = .returned (.bool b76) ∧
 Br b76 (
 ptrE p6 fun a27 =>
 stA Tryz.prog 25 a27 #[.int .i64 0, .int .i64 0, .string (⟨#[]⟩ : ByteArray)] w26 fun w28 =>
 runD Tryz.prog ds w28 fun w29 =>
 ptrE p6 fun a30 =>
 ∃ nR0_0 : Int, w29.cell? (a30.add 0) = some (.int .i64 nR0_0) ∧
 ∃ nR0_1 : Int, w29.cell? (a30.add 1) = some (.int .i64 nR0_1) ∧
 ∃ sR0_2 : ByteArray, w29.cell? (a30.add 2) = some (.string sR0_2) ∧
 R (.returned (.tuple #[.agg #[.int .i64 nR0_0, .int .i64 nR0_1, .string sR0_2], .int .i64 10])) w29) (
 ptrE p5 fun a31 =>
 ∃ n90_0 : Int, w26.cell? (a31.add 0) = some (.int .i64 n90_0) ∧
 ∃ n90_1 : Int, w26.cell? (a31.add 1) = some (.int .i64 n90_1) ∧
 ∃ s90_2 : ByteArray, w26.cell? (a31.add 2) = some (.string s90_2) ∧
 ptrE p6 fun a32 =>
 stA Tryz.prog 25 a32 #[.int .i64 n90_0, .int .i64 n90_1, .string s90_2] w26 fun w33 =>
 runD Tryz.prog ds w33 fun w34 =>
 ptrE p6 fun a35 =>
 ∃ nR0_0 : Int, w34.cell? (a35.add 0) = some (.int .i64 nR0_0) ∧
 ∃ nR0_1 : Int, w34.cell? (a35.add 1) = some (.int .i64 nR0_1) ∧
 ∃ sR0_2 : ByteArray, w34.cell? (a35.add 2) = some (.string sR0_2) ∧
 R (.returned (.tuple #[.agg #[.int .i64 nR0_0, .int .i64 nR0_1, .string sR0_2], .int .i64 0])) w34))) (
 Br (n42 == 5) (
 ptrE p5 fun a36 =>
 ∃ n82 : Int, w.cell? (a36.add 1) = some (.int .i64 n82) ∧
 Br (decide (n82 < 0)) (
 ptrE p6 fun a37 =>
 stA Tryz.prog 25 a37 #[.int .i64 0, .int .i64 0, .string (⟨#[]⟩ : ByteArray)] w fun w38 =>
 runD Tryz.prog ds w38 fun w39 =>
 ptrE p6 fun a40 =>
 ∃ nR0_0 : Int, w39.cell? (a40.add 0) = some (.int .i64 nR0_0) ∧
 ∃ nR0_1 : Int, w39.cell? (a40.add 1) = some (.int .i64 nR0_1) ∧
 ∃ sR0_2 : ByteArray, w39.cell? (a40.add 2) = some (.string sR0_2) ∧
 R (.returned (.tuple #[.agg #[.int .i64 nR0_0, .int .i64 nR0_1, .string sR0_2], .int .i64 10])) w39) (
 ptrE p5 fun a41 =>
 ∃ n86 : Int, w.cell? (a41.add 1) = some (.int .i64 n86) ∧
 Br (decide (n86 > 99999999)) (
 ptrE p6 fun a42 =>
 stA Tryz.prog 25 a42 #[.int .i64 0, .int .i64 0, .string (⟨#[]⟩ : ByteArray)] w fun w43 =>
 runD Tryz.prog ds w43 fun w44 =>
 ptrE p6 fun a45 =>
 ∃ nR0_0 : Int, w44.cell? (a45.add 0) = some (.int .i64 nR0_0) ∧
 ∃ nR0_1 : Int, w44.cell? (a45.add 1) = some (.int .i64 nR0_1) ∧
 ∃ sR0_2 : ByteArray, w44.cell? (a45.add 2) = some (.string sR0_2) ∧
 R (.returned (.tuple #[.agg #[.int .i64 nR0_0, .int .i64 nR0_1, .string sR0_2], .int .i64 10])) w44) (
 ptrE p5 fun a46 =>
 ∃ n90_0 : Int, w.cell? (a46.add 0) = some (.int .i64 n90_0) ∧
 ∃ n90_1 : Int, w.cell? (a46.add 1) = some (.int .i64 n90_1) ∧
 ∃ s90_2 : ByteArray, w.cell? (a46.add 2) = some (.string s90_2) ∧
 ptrE p6 fun a47 =>
 stA Tryz.prog 25 a47 #[.int .i64 n90_0, .int .i64 n90_1, .string s90_2] w fun w48 =>
 runD Tryz.prog ds w48 fun w49 =>
 ptrE p6 fun a50 =>
 ∃ nR0_0 : Int, w49.cell? (a50.add 0) = some (.int .i64 nR0_0) ∧
 ∃ nR0_1 : Int, w49.cell? (a50.add 1) = some (.int .i64 nR0_1) ∧
 ∃ sR0_2 : ByteArray, w49.cell? (a50.add 2) = some (.string sR0_2) ∧
 R (.returned (.tuple #[.agg #[.int .i64 nR0_0, .int .i64 nR0_1, .string sR0_2], .int .i64 0])) w49))) (
 ptrE p5 fun a51 =>
 ∃ n90_0 : Int, w.cell? (a51.add 0) = some (.int .i64 n90_0) ∧
 ∃ n90_1 : Int, w.cell? (a51.add 1) = some (.int .i64 n90_1) ∧
 ∃ s90_2 : ByteArray, w.cell? (a51.add 2) = some (.string s90_2) ∧
 ptrE p6 fun a52 =>
 stA Tryz.prog 25 a52 #[.int .i64 n90_0, .int .i64 n90_1, .string s90_2] w fun w53 =>
 runD Tryz.prog ds w53 fun w54 =>
 ptrE p6 fun a55 =>
 ∃ nR0_0 : Int, w54.cell? (a55.add 0) = some (.int .i64 nR0_0) ∧
 ∃ nR0_1 : Int, w54.cell? (a55.add 1) = some (.int .i64 nR0_1) ∧
 ∃ sR0_2 : ByteArray, w54.cell? (a55.add 2) = some (.string sR0_2) ∧
 R (.returned (.tuple #[.agg #[.int .i64 nR0_0, .int .i64 nR0_1, .string sR0_2], .int .i64 0])) w54)))
def F13_k2 (R : Rt) : EP := (fun ρ ds w => dInt .i64 (ρ 1) fun n1 => dPtr (ρ 3) fun p3 => dPtr (ρ 5) fun p5 => dPtr (ρ 6) fun p6 => dInt .i64 (ρ 42) fun n42 => F13_1 R n1 p3 p5 p6 n42 ds w)
def F13_2 (R : Rt) (s0_0 : ByteArray) (n0_1 : Int) (n0_2 : Int) (b0_3 : Bool) (n1 : Int) (n2_0 : Int) (n2_1 : Int) (s2_2 : ByteArray) (ds : Ds) (w : World) : Prop :=
 alE (.cells #[.string s0_0, .int .i64 n0_1, .int .i64 n0_2, .bool b0_3] 23) w fun r3 w56 =>
 alE (.cells #[.int .i64 n2_0, .int .i64 n2_1, .string s2_2] 25) w56 fun r5 w57 =>
 alE (.cells #[.int .i64 0, .int .i64 0, .string (⟨#[]⟩ : ByteArray)] 25) w57 fun r6 w58 =>
 ∃ s11_0 : ByteArray, w58.cell? ((⟨r3, 0, none⟩ : Addr).add 0) = some (.string s11_0) ∧
 ∃ n11_1 : Int, w58.cell? ((⟨r3, 0, none⟩ : Addr).add 1) = some (.int .i64 n11_1) ∧
 ∃ n11_2 : Int, w58.cell? ((⟨r3, 0, none⟩ : Addr).add 2) = some (.int .i64 n11_2) ∧
 ∃ b11_3 : Bool, w58.cell? ((⟨r3, 0, none⟩ : Addr).add 3) = some (.bool b11_3) ∧
 Calls Tryz.prog 47 #[.agg #[.string s11_0, .int .i64 n11_1, .int .i64 n11_2, .bool b11_3]] w58 fun e w59 =>
 ∃ b12 : Bool, e = .returned (.bool b12) ∧
 Br (!b12) (
 stA Tryz.prog 25 (⟨r6, 0, none⟩ : Addr) #[.int .i64 0, .int .i64 0, .string (⟨#[]⟩ : ByteArray)] w59 fun w60 =>
 runD Tryz.prog ds w60 fun w61 =>
 ∃ nR0_0 : Int, w61.cell? ((⟨r6, 0, none⟩ : Addr).add 0) = some (.int .i64 nR0_0) ∧
 ∃ nR0_1 : Int, w61.cell? ((⟨r6, 0, none⟩ : Addr).add 1) = some (.int .i64 nR0_1) ∧
 ∃ sR0_2 : ByteArray, w61.cell? ((⟨r6, 0, none⟩ : Addr).add 2) = some (.string sR0_2) ∧
 R (.returned (.tuple #[.agg #[.int .i64 nR0_0, .int .i64 nR0_1, .string sR0_2], .int .i64 1])) w61) (
 Calls Tryz.prog 48 #[.int .i64 n1] w59 fun e w62 =>
 ∃ b16 : Bool, e = .returned (.bool b16) ∧
 Br (!b16) (
 stA Tryz.prog 25 (⟨r6, 0, none⟩ : Addr) #[.int .i64 0, .int .i64 0, .string (⟨#[]⟩ : ByteArray)] w62 fun w63 =>
 runD Tryz.prog ds w63 fun w64 =>
 ∃ nR0_0 : Int, w64.cell? ((⟨r6, 0, none⟩ : Addr).add 0) = some (.int .i64 nR0_0) ∧
 ∃ nR0_1 : Int, w64.cell? ((⟨r6, 0, none⟩ : Addr).add 1) = some (.int .i64 nR0_1) ∧
 ∃ sR0_2 : ByteArray, w64.cell? ((⟨r6, 0, none⟩ : Addr).add 2) = some (.string sR0_2) ∧
 R (.returned (.tuple #[.agg #[.int .i64 nR0_0, .int .i64 nR0_1, .string sR0_2], .int .i64 1])) w64) (
 ∃ n20_0 : Int, w62.cell? ((⟨r5, 0, none⟩ : Addr).add 0) = some (.int .i64 n20_0) ∧
 ∃ n20_1 : Int, w62.cell? ((⟨r5, 0, none⟩ : Addr).add 1) = some (.int .i64 n20_1) ∧
 ∃ s20_2 : ByteArray, w62.cell? ((⟨r5, 0, none⟩ : Addr).add 2) = some (.string s20_2) ∧
 Calls Tryz.prog 49 #[.agg #[.int .i64 n20_0, .int .i64 n20_1, .string s20_2]] w62 fun e w65 =>
 ∃ n21 : Int, e = .returned (.int .i64 n21) ∧
 Br (n21 != 0) (
 stA Tryz.prog 25 (⟨r6, 0, none⟩ : Addr) #[.int .i64 0, .int .i64 0, .string (⟨#[]⟩ : ByteArray)] w65 fun w66 =>
 runD Tryz.prog ds w66 fun w67 =>
 ∃ nR0_0 : Int, w67.cell? ((⟨r6, 0, none⟩ : Addr).add 0) = some (.int .i64 nR0_0) ∧
 ∃ nR0_1 : Int, w67.cell? ((⟨r6, 0, none⟩ : Addr).add 1) = some (.int .i64 nR0_1) ∧
 ∃ sR0_2 : ByteArray, w67.cell? ((⟨r6, 0, none⟩ : Addr).add 2) = some (.string sR0_2) ∧
 R (.returned (.tuple #[.agg #[.int .i64 nR0_0, .int .i64 nR0_1, .string sR0_2], .int .i64 n21])) w67) (
 ∃ n27 : Int, w65.cell? (⟨r5, 0, none⟩ : Addr) = some (.int .i64 n27) ∧
 Br (n27 == 0) (
 ∃ b30 : Bool, w65.cell? ((⟨r3, 0, none⟩ : Addr).add 3) = some (.bool b30) ∧
 Br (!b30) (
 stA Tryz.prog 25 (⟨r6, 0, none⟩ : Addr) #[.int .i64 0, .int .i64 0, .string (⟨#[]⟩ : ByteArray)] w65 fun w68 =>
 runD Tryz.prog ds w68 fun w69 =>
 ∃ nR0_0 : Int, w69.cell? ((⟨r6, 0, none⟩ : Addr).add 0) = some (.int .i64 nR0_0) ∧
 ∃ nR0_1 : Int, w69.cell? ((⟨r6, 0, none⟩ : Addr).add 1) = some (.int .i64 nR0_1) ∧
 ∃ sR0_2 : ByteArray, w69.cell? ((⟨r6, 0, none⟩ : Addr).add 2) = some (.string sR0_2) ∧
 R (.returned (.tuple #[.agg #[.int .i64 nR0_0, .int .i64 nR0_1, .string sR0_2], .int .i64 7])) w69) (
 ∃ n33_0 : Int, w65.cell? ((⟨r5, 0, none⟩ : Addr).add 0) = some (.int .i64 n33_0) ∧
 ∃ n33_1 : Int, w65.cell? ((⟨r5, 0, none⟩ : Addr).add 1) = some (.int .i64 n33_1) ∧
 ∃ s33_2 : ByteArray, w65.cell? ((⟨r5, 0, none⟩ : Addr).add 2) = some (.string s33_2) ∧
 stA Tryz.prog 25 (⟨r6, 0, none⟩ : Addr) #[.int .i64 n33_0, .int .i64 n33_1, .string s33_2] w65 fun w70 =>
 runD Tryz.prog ds w70 fun w71 =>
 ∃ nR0_0 : Int, w71.cell? ((⟨r6, 0, none⟩ : Addr).add 0) = some (.int .i64 nR0_0) ∧
 ∃ nR0_1 : Int, w71.cell? ((⟨r6, 0, none⟩ : Addr).add 1) = some (.int .i64 nR0_1) ∧
 ∃ sR0_2 : ByteArray, w71.cell? ((⟨r6, 0, none⟩ : Addr).add 2) = some (.string sR0_2) ∧
 R (.returned (.tuple #[.agg #[.int .i64 nR0_0, .int .i64 nR0_1, .string sR0_2], .int .i64 0])) w71)) (
 dwE w65 fun w72 =>
 ∃ S1 : World → Prop, S1 w72 ∧
 ∃ n35 : Int, (∀ w', S1 w' → w'.cell? (⟨r5, 0, none⟩ : Addr) = some (.int .i64 n35)) ∧
 ∃ s36_0 : ByteArray, (∀ w', S1 w' → w'.cell? ((⟨r3, 0, none⟩ : Addr).add 0) = some (.string s36_0)) ∧
 ∃ n36_1 : Int, (∀ w', S1 w' → w'.cell? ((⟨r3, 0, none⟩ : Addr).add 1) = some (.int .i64 n36_1)) ∧
 ∃ n36_2 : Int, (∀ w', S1 w' → w'.cell? ((⟨r3, 0, none⟩ : Addr).add 2) = some (.int .i64 n36_2)) ∧
 ∃ b36_3 : Bool, (∀ w', S1 w' → w'.cell? ((⟨r3, 0, none⟩ : Addr).add 3) = some (.bool b36_3)) ∧
 Calls Tryz.prog 50 #[.agg #[.string s36_0, .int .i64 n36_1, .int .i64 n36_2, .bool b36_3]] w72 fun e w73 =>
 ∃ n37_0 : Int, ∃ n37_1 : Int, ∃ s37_2 : ByteArray, e = .returned (.agg #[.int .i64 n37_0, .int .i64 n37_1, .string s37_2]) ∧
 S1 w73 ∧
 Br (n35 != n37_0) (
 stA Tryz.prog 25 (⟨r6, 0, none⟩ : Addr) #[.int .i64 0, .int .i64 0, .string (⟨#[]⟩ : ByteArray)] w73 fun w74 =>
 runD Tryz.prog ds w74 fun w75 =>
 ∃ nR0_0 : Int, w75.cell? ((⟨r6, 0, none⟩ : Addr).add 0) = some (.int .i64 nR0_0) ∧
 ∃ nR0_1 : Int, w75.cell? ((⟨r6, 0, none⟩ : Addr).add 1) = some (.int .i64 nR0_1) ∧
 ∃ sR0_2 : ByteArray, w75.cell? ((⟨r6, 0, none⟩ : Addr).add 2) = some (.string sR0_2) ∧
 R (.returned (.tuple #[.agg #[.int .i64 nR0_0, .int .i64 nR0_1, .string sR0_2], .int .i64 6])) w75) (
 ∃ n42 : Int, w73.cell? ((⟨r3, 0, none⟩ : Addr).add 1) = some (.int .i64 n42) ∧
 F13_1 R n1 (some (⟨r3, 0, none⟩ : Addr)) (some (⟨r5, 0, none⟩ : Addr)) (some (⟨r6, 0, none⟩ : Addr)) n42 ds w73)))))
theorem c13_l : flat (bodyOf Tryz.f13) = [c13_0, c13_1, c13_2, c13_3, c13_4, c13_5, c13_6, c13_7, c13_8, c13_9, c13_10, c13_11, c13_12, c13_13] := by kernel_rfl
theorem F13_1_ok (R : Rt) (n1 : Int) (p3 : Option Addr) (p5 : Option Addr) (p6 : Option Addr) (n42 : Int) (ds : Ds) (w : World) (ρ : Env) (e1 : ρ 1 = .int .i64 n1) (e3 : ρ 3 = .pointer p3) (e5 : ρ 5 = .pointer p5) (e6 : ρ 6 = .pointer p6) (e42 : ρ 42 = .int .i64 n42) (h : F13_1 R n1 p3 p5 p6 n42 ds w) :
    TrL Tryz.prog Tryz.f13.ntmps [c13_11, c13_12, c13_13] (F13_q1 R) ρ ds w :=
  TrL_leaf (X := F13_1 R n1 p3 p5 p6 n42 ds w) (setAll_cons e1 (setAll_cons e3 (setAll_cons e5 (setAll_cons e6 (setAll_cons e42 setAll_nil))))) (by kernel_rfl) (by kernel_rfl) h
theorem F13_2_ok (R : Rt) (s0_0 : ByteArray) (n0_1 : Int) (n0_2 : Int) (b0_3 : Bool) (n1 : Int) (n2_0 : Int) (n2_1 : Int) (s2_2 : ByteArray) (ds : Ds) (w : World) (ρ : Env) (e0 : ρ 0 = .agg #[.string s0_0, .int .i64 n0_1, .int .i64 n0_2, .bool b0_3]) (e1 : ρ 1 = .int .i64 n1) (e2 : ρ 2 = .agg #[.int .i64 n2_0, .int .i64 n2_1, .string s2_2]) (h : F13_2 R s0_0 n0_1 n0_2 b0_3 n1 n2_0 n2_1 s2_2 ds w) :
    TrL Tryz.prog Tryz.f13.ntmps [c13_0, c13_1, c13_2, c13_3, c13_4, c13_5, c13_6, c13_7, c13_8, c13_9, c13_10, c13_11, c13_12, c13_13] (F13_q1 R) ρ ds w :=
  TrL_piece (pre := [c13_0, c13_1, c13_2, c13_3, c13_4, c13_5, c13_6, c13_7, c13_8, c13_9, c13_10]) (K := (F13_k2 R)) (X := F13_2 R s0_0 n0_1 n0_2 b0_3 n1 n2_0 n2_1 s2_2 ds w) (setAll_cons e0 (setAll_cons e1 (setAll_cons e2 setAll_nil))) (by kernel_rfl) (by kernel_rfl)
    (fun ρ' ds' w' hD => by
      obtain ⟨n1, e1, hD⟩ := dInt_elim hD; obtain ⟨p3, e3, hD⟩ := dPtr_elim hD; obtain ⟨p5, e5, hD⟩ := dPtr_elim hD; obtain ⟨p6, e6, hD⟩ := dPtr_elim hD; obtain ⟨n42, e42, hD⟩ := dInt_elim hD; exact F13_1_ok R n1 p3 p5 p6 n42 ds' w' ρ' e1 e3 e5 e6 e42 hD) h
theorem F13_calls (s0_0 : ByteArray) (n0_1 : Int) (n0_2 : Int) (b0_3 : Bool) (n1 : Int) (n2_0 : Int) (n2_1 : Int) (s2_2 : ByteArray) (w : World) (R : Rt) (h : F13_2 R s0_0 n0_1 n0_2 b0_3 n1 n2_0 n2_1 s2_2 [] w) : Calls Tryz.prog 13 #[.agg #[.string s0_0, .int .i64 n0_1, .int .i64 n0_2, .bool b0_3], .int .i64 n1, .agg #[.int .i64 n2_0, .int .i64 n2_1, .string s2_2]] w R :=
  calls_of_L (l := [c13_0, c13_1, c13_2, c13_3, c13_4, c13_5, c13_6, c13_7, c13_8, c13_9, c13_10, c13_11, c13_12, c13_13]) Tryz.func13 (by kernel_rfl) (by rw [Tryz.ntmps13]; exact Nat.le_of_ble_eq_true (by kernel_rfl)) c13_l
    (F13_2_ok R s0_0 n0_1 n0_2 b0_3 n1 n2_0 n2_1 s2_2 [] w _ rfl rfl rfl h)
theorem F13_callsD (s0_0 : ByteArray) (n0_1 : Int) (n0_2 : Int) (b0_3 : Bool) (n1 : Int) (n2_0 : Int) (n2_1 : Int) (s2_2 : ByteArray) (w : World) (R : Rt) (u : FrameMode) (h : F13_2 R s0_0 n0_1 n0_2 b0_3 n1 n2_0 n2_1 s2_2 [] w) : CallsD Tryz.prog 13 #[.agg #[.string s0_0, .int .i64 n0_1, .int .i64 n0_2, .bool b0_3], .int .i64 n1, .agg #[.int .i64 n2_0, .int .i64 n2_1, .string s2_2]] u w fun e u' w' => u' = u ∧ R e w' :=
  callsD_of_L (l := [c13_0, c13_1, c13_2, c13_3, c13_4, c13_5, c13_6, c13_7, c13_8, c13_9, c13_10, c13_11, c13_12, c13_13]) Tryz.func13 (by kernel_rfl) (by rw [Tryz.ntmps13]; exact Nat.le_of_ble_eq_true (by kernel_rfl)) (by kernel_rfl) c13_l
    (F13_2_ok R s0_0 n0_1 n0_2 b0_3 n1 n2_0 n2_1 s2_2 [] w _ rfl rfl rfl h) u

/-! function 14: cabinetry/cabinetryref03.Fit -/
noncomputable def c14_0 : Code := itemAt (flat (bodyOf Tryz.f14)) 0
noncomputable def c14_1 : Code := itemAt (flat (bodyOf Tryz.f14)) 1
noncomputable def c14_2 : Code := itemAt (flat (bodyOf Tryz.f14)) 2
noncomputable def c14_3 : Code := itemAt (flat (bodyOf Tryz.f14)) 3
noncomputable def c14_4 : Code := itemAt (flat (bodyOf Tryz.f14)) 4
noncomputable def c14_5 : Code := itemAt (flat (bodyOf Tryz.f14)) 5
noncomputable def c14_6 : Code := itemAt (flat (bodyOf Tryz.f14)) 6
noncomputable def c14_7 : Code := itemAt (flat (bodyOf Tryz.f14)) 7
def F14_q1 (R : Rt) : EQ := endQ Tryz.prog Tryz.f14.results.toList R
def F14_1 (R : Rt) (s0_0 : ByteArray) (n0_1 : Int) (n0_2 : Int) (b0_3 : Bool) (n1 : Int) (n2_0 : Int) (n2_1 : Int) (s2_2 : ByteArray) (ds : Ds) (w : World) : Prop :=
 alE (.cells #[.string s0_0, .int .i64 n0_1, .int .i64 n0_2, .bool b0_3] 23) w fun r3 w1 =>
 alE (.cells #[.int .i64 n2_0, .int .i64 n2_1, .string s2_2] 25) w1 fun r5 w2 =>
 alE (.cells #[.int .i64 0, .int .i64 0, .string (⟨#[]⟩ : ByteArray)] 25) w2 fun r6 w3 =>
 ∃ s9_0 : ByteArray, w3.cell? ((⟨r3, 0, none⟩ : Addr).add 0) = some (.string s9_0) ∧
 ∃ n9_1 : Int, w3.cell? ((⟨r3, 0, none⟩ : Addr).add 1) = some (.int .i64 n9_1) ∧
 ∃ n9_2 : Int, w3.cell? ((⟨r3, 0, none⟩ : Addr).add 2) = some (.int .i64 n9_2) ∧
 ∃ b9_3 : Bool, w3.cell? ((⟨r3, 0, none⟩ : Addr).add 3) = some (.bool b9_3) ∧
 Calls Tryz.prog 55 #[.agg #[.string s9_0, .int .i64 n9_1, .int .i64 n9_2, .bool b9_3]] w3 fun e w4 =>
 ∃ b10 : Bool, e = .returned (.bool b10) ∧
 Br (!b10) (
 stA Tryz.prog 25 (⟨r6, 0, none⟩ : Addr) #[.int .i64 0, .int .i64 0, .string (⟨#[]⟩ : ByteArray)] w4 fun w5 =>
 runD Tryz.prog ds w5 fun w6 =>
 ∃ nR0_0 : Int, w6.cell? ((⟨r6, 0, none⟩ : Addr).add 0) = some (.int .i64 nR0_0) ∧
 ∃ nR0_1 : Int, w6.cell? ((⟨r6, 0, none⟩ : Addr).add 1) = some (.int .i64 nR0_1) ∧
 ∃ sR0_2 : ByteArray, w6.cell? ((⟨r6, 0, none⟩ : Addr).add 2) = some (.string sR0_2) ∧
 R (.returned (.tuple #[.agg #[.int .i64 nR0_0, .int .i64 nR0_1, .string sR0_2], .int .i64 1])) w6) (
 Calls Tryz.prog 56 #[.int .i64 n1] w4 fun e w7 =>
 ∃ b14 : Bool, e = .returned (.bool b14) ∧
 Br (!b14) (
 stA Tryz.prog 25 (⟨r6, 0, none⟩ : Addr) #[.int .i64 0, .int .i64 0, .string (⟨#[]⟩ : ByteArray)] w7 fun w8 =>
 runD Tryz.prog ds w8 fun w9 =>
 ∃ nR0_0 : Int, w9.cell? ((⟨r6, 0, none⟩ : Addr).add 0) = some (.int .i64 nR0_0) ∧
 ∃ nR0_1 : Int, w9.cell? ((⟨r6, 0, none⟩ : Addr).add 1) = some (.int .i64 nR0_1) ∧
 ∃ sR0_2 : ByteArray, w9.cell? ((⟨r6, 0, none⟩ : Addr).add 2) = some (.string sR0_2) ∧
 R (.returned (.tuple #[.agg #[.int .i64 nR0_0, .int .i64 nR0_1, .string sR0_2], .int .i64 1])) w9) (
 ∃ n18_0 : Int, w7.cell? ((⟨r5, 0, none⟩ : Addr).add 0) = some (.int .i64 n18_0) ∧
 ∃ n18_1 : Int, w7.cell? ((⟨r5, 0, none⟩ : Addr).add 1) = some (.int .i64 n18_1) ∧
 ∃ s18_2 : ByteArray, w7.cell? ((⟨r5, 0, none⟩ : Addr).add 2) = some (.string s18_2) ∧
 Calls Tryz.prog 57 #[.agg #[.int .i64 n18_0, .int .i64 n18_1, .string s18_2]] w7 fun e w10 =>
 ∃ n19 : Int, e = .returned (.int .i64 n19) ∧
 Br (n19 != 0) (
 stA Tryz.prog 25 (⟨r6, 0, none⟩ : Addr) #[.int .i64 0, .int .i64 0, .string (⟨#[]⟩ : ByteArray)] w10 fun w11 =>
 runD Tryz.prog ds w11 fun w12 =>
 ∃ nR0_0 : Int, w12.cell? ((⟨r6, 0, none⟩ : Addr).add 0) = some (.int .i64 nR0_0) ∧
 ∃ nR0_1 : Int, w12.cell? ((⟨r6, 0, none⟩ : Addr).add 1) = some (.int .i64 nR0_1) ∧
 ∃ sR0_2 : ByteArray, w12.cell? ((⟨r6, 0, none⟩ : Addr).add 2) = some (.string sR0_2) ∧
 R (.returned (.tuple #[.agg #[.int .i64 nR0_0, .int .i64 nR0_1, .string sR0_2], .int .i64 n19])) w12) (
 ∃ s24_0 : ByteArray, w10.cell? ((⟨r3, 0, none⟩ : Addr).add 0) = some (.string s24_0) ∧
 ∃ n24_1 : Int, w10.cell? ((⟨r3, 0, none⟩ : Addr).add 1) = some (.int .i64 n24_1) ∧
 ∃ n24_2 : Int, w10.cell? ((⟨r3, 0, none⟩ : Addr).add 2) = some (.int .i64 n24_2) ∧
 ∃ b24_3 : Bool, w10.cell? ((⟨r3, 0, none⟩ : Addr).add 3) = some (.bool b24_3) ∧
 ∃ n26_0 : Int, w10.cell? ((⟨r5, 0, none⟩ : Addr).add 0) = some (.int .i64 n26_0) ∧
 ∃ n26_1 : Int, w10.cell? ((⟨r5, 0, none⟩ : Addr).add 1) = some (.int .i64 n26_1) ∧
 ∃ s26_2 : ByteArray, w10.cell? ((⟨r5, 0, none⟩ : Addr).add 2) = some (.string s26_2) ∧
 Calls Tryz.prog 58 #[.agg #[.string s24_0, .int .i64 n24_1, .int .i64 n24_2, .bool b24_3], .int .i64 n1, .agg #[.int .i64 n26_0, .int .i64 n26_1, .string s26_2]] w10 fun e w13 =>
 ∃ n27_0_0 : Int, ∃ n27_0_1 : Int, ∃ s27_0_2 : ByteArray, ∃ n27_1 : Int, e = .returned (.tuple #[.agg #[.int .i64 n27_0_0, .int .i64 n27_0_1, .string s27_0_2], .int .i64 n27_1]) ∧
 stA Tryz.prog 25 (⟨r6, 0, none⟩ : Addr) #[.int .i64 n27_0_0, .int .i64 n27_0_1, .string s27_0_2] w13 fun w14 =>
 runD Tryz.prog ds w14 fun w15 =>
 ∃ nR0_0 : Int, w15.cell? ((⟨r6, 0, none⟩ : Addr).add 0) = some (.int .i64 nR0_0) ∧
 ∃ nR0_1 : Int, w15.cell? ((⟨r6, 0, none⟩ : Addr).add 1) = some (.int .i64 nR0_1) ∧
 ∃ sR0_2 : ByteArray, w15.cell? ((⟨r6, 0, none⟩ : Addr).add 2) = some (.string sR0_2) ∧
 R (.returned (.tuple #[.agg #[.int .i64 nR0_0, .int .i64 nR0_1, .string sR0_2], .int .i64 n27_1])) w15)))
theorem c14_l : flat (bodyOf Tryz.f14) = [c14_0, c14_1, c14_2, c14_3, c14_4, c14_5, c14_6, c14_7] := by kernel_rfl
theorem F14_1_ok (R : Rt) (s0_0 : ByteArray) (n0_1 : Int) (n0_2 : Int) (b0_3 : Bool) (n1 : Int) (n2_0 : Int) (n2_1 : Int) (s2_2 : ByteArray) (ds : Ds) (w : World) (ρ : Env) (e0 : ρ 0 = .agg #[.string s0_0, .int .i64 n0_1, .int .i64 n0_2, .bool b0_3]) (e1 : ρ 1 = .int .i64 n1) (e2 : ρ 2 = .agg #[.int .i64 n2_0, .int .i64 n2_1, .string s2_2]) (h : F14_1 R s0_0 n0_1 n0_2 b0_3 n1 n2_0 n2_1 s2_2 ds w) :
    TrL Tryz.prog Tryz.f14.ntmps [c14_0, c14_1, c14_2, c14_3, c14_4, c14_5, c14_6, c14_7] (F14_q1 R) ρ ds w :=
  TrL_leaf (X := F14_1 R s0_0 n0_1 n0_2 b0_3 n1 n2_0 n2_1 s2_2 ds w) (setAll_cons e0 (setAll_cons e1 (setAll_cons e2 setAll_nil))) (by kernel_rfl) (by kernel_rfl) h
theorem F14_calls (s0_0 : ByteArray) (n0_1 : Int) (n0_2 : Int) (b0_3 : Bool) (n1 : Int) (n2_0 : Int) (n2_1 : Int) (s2_2 : ByteArray) (w : World) (R : Rt) (h : F14_1 R s0_0 n0_1 n0_2 b0_3 n1 n2_0 n2_1 s2_2 [] w) : Calls Tryz.prog 14 #[.agg #[.string s0_0, .int .i64 n0_1, .int .i64 n0_2, .bool b0_3], .int .i64 n1, .agg #[.int .i64 n2_0, .int .i64 n2_1, .string s2_2]] w R :=
  calls_of_L (l := [c14_0, c14_1, c14_2, c14_3, c14_4, c14_5, c14_6, c14_7]) Tryz.func14 (by kernel_rfl) (by rw [Tryz.ntmps14]; exact Nat.le_of_ble_eq_true (by kernel_rfl)) c14_l
    (F14_1_ok R s0_0 n0_1 n0_2 b0_3 n1 n2_0 n2_1 s2_2 [] w _ rfl rfl rfl h)
theorem F14_callsD (s0_0 : ByteArray) (n0_1 : Int) (n0_2 : Int) (b0_3 : Bool) (n1 : Int) (n2_0 : Int) (n2_1 : Int) (s2_2 : ByteArray) (w : World) (R : Rt) (u : FrameMode) (h : F14_1 R s0_0 n0_1 n0_2 b0_3 n1 n2_0 n2_1 s2_2 [] w) : CallsD Tryz.prog 14 #[.agg #[.string s0_0, .int .i64 n0_1, .int .i64 n0_2, .bool b0_3], .int .i64 n1, .agg #[.int .i64 n2_0, .int .i64 n2_1, .string s2_2]] u w fun e u' w' => u' = u ∧ R e w' :=
  callsD_of_L (l := [c14_0, c14_1, c14_2, c14_3, c14_4, c14_5, c14_6, c14_7]) Tryz.func14 (by kernel_rfl) (by rw [Tryz.ntmps14]; exact Nat.le_of_ble_eq_true (by kernel_rfl)) (by kernel_rfl) c14_l
    (F14_1_ok R s0_0 n0_1 n0_2 b0_3 n1 n2_0 n2_1 s2_2 [] w _ rfl rfl rfl h) u

/-! function 58: cabinetry/cabinetryref03.Fitted -/
noncomputable def c58_0 : Code := itemAt (flat (bodyOf Tryz.f58)) 0
noncomputable def c58_1 : Code := itemAt (flat (bodyOf Tryz.f58)) 1
noncomputable def c58_2 : Code := itemAt (flat (bodyOf Tryz.f58)) 2
noncomputable def c58_3 : Code := itemAt (flat (bodyOf Tryz.f58)) 3
noncomputable def c58_4 : Code := itemAt (flat (bodyOf Tryz.f58)) 4
noncomputable def c58_5 : Code := itemAt (flat (bodyOf Tryz.f58)) 5
noncomputable def c58_6 : Code := itemAt (flat (bodyOf Tryz.f58)) 6
noncomputable def c58_7 : Code := itemAt (flat (bodyOf Tryz.f58)) 7
noncomputable def c58_8 : Code := itemAt (flat (bodyOf Tryz.f58)) 8
noncomputable def c58_9 : Code := itemAt (flat (bodyOf Tryz.f58)) 9
noncomputable def c58_10 : Code := itemAt (flat (bodyOf Tryz.f58)) 10
noncomputable def c58_11 : Code := itemAt (flat (bodyOf Tryz.f58)) 11
noncomputable def c58_12 : Code := itemAt (flat (bodyOf Tryz.f58)) 12
noncomputable def c58_13 : Code := itemAt (flat (bodyOf Tryz.f58)) 13
def F58_q1 (R : Rt) : EQ := endQ Tryz.prog Tryz.f58.results.toList R
def F58_1 (R : Rt) (s0_0 : ByteArray) (n0_1 : Int) (n0_2 : Int) (b0_3 : Bool) (n1 : Int) (n2_0 : Int) (n2_1 : Int) (s2_2 : ByteArray) (ds : Ds) (w : World) : Prop :=
 alE (.cells #[.string s0_0, .int .i64 n0_1, .int .i64 n0_2, .bool b0_3] 23) w fun r3 w1 =>
 alE (.cells #[.int .i64 n2_0, .int .i64 n2_1, .string s2_2] 25) w1 fun r5 w2 =>
 alE (.cells #[.int .i64 0, .int .i64 0, .string (⟨#[]⟩ : ByteArray)] 25) w2 fun r6 w3 =>
 ∃ n11 : Int, w3.cell? (⟨r5, 0, none⟩ : Addr) = some (.int .i64 n11) ∧
 Br (n11 == 0) (
 ∃ b14 : Bool, w3.cell? ((⟨r3, 0, none⟩ : Addr).add 3) = some (.bool b14) ∧
 Br (!b14) (
 stA Tryz.prog 25 (⟨r6, 0, none⟩ : Addr) #[.int .i64 0, .int .i64 0, .string (⟨#[]⟩ : ByteArray)] w3 fun w4 =>
 runD Tryz.prog ds w4 fun w5 =>
 ∃ nR0_0 : Int, w5.cell? ((⟨r6, 0, none⟩ : Addr).add 0) = some (.int .i64 nR0_0) ∧
 ∃ nR0_1 : Int, w5.cell? ((⟨r6, 0, none⟩ : Addr).add 1) = some (.int .i64 nR0_1) ∧
 ∃ sR0_2 : ByteArray, w5.cell? ((⟨r6, 0, none⟩ : Addr).add 2) = some (.string sR0_2) ∧
 R (.returned (.tuple #[.agg #[.int .i64 nR0_0, .int .i64 nR0_1, .string sR0_2], .int .i64 7])) w5) (
 ∃ n17_0 : Int, w3.cell? ((⟨r5, 0, none⟩ : Addr).add 0) = some (.int .i64 n17_0) ∧
 ∃ n17_1 : Int, w3.cell? ((⟨r5, 0, none⟩ : Addr).add 1) = some (.int .i64 n17_1) ∧
 ∃ s17_2 : ByteArray, w3.cell? ((⟨r5, 0, none⟩ : Addr).add 2) = some (.string s17_2) ∧
 stA Tryz.prog 25 (⟨r6, 0, none⟩ : Addr) #[.int .i64 n17_0, .int .i64 n17_1, .string s17_2] w3 fun w6 =>
 runD Tryz.prog ds w6 fun w7 =>
 ∃ nR0_0 : Int, w7.cell? ((⟨r6, 0, none⟩ : Addr).add 0) = some (.int .i64 nR0_0) ∧
 ∃ nR0_1 : Int, w7.cell? ((⟨r6, 0, none⟩ : Addr).add 1) = some (.int .i64 nR0_1) ∧
 ∃ sR0_2 : ByteArray, w7.cell? ((⟨r6, 0, none⟩ : Addr).add 2) = some (.string sR0_2) ∧
 R (.returned (.tuple #[.agg #[.int .i64 nR0_0, .int .i64 nR0_1, .string sR0_2], .int .i64 0])) w7)) (
 ∃ n19 : Int, w3.cell? ((⟨r3, 0, none⟩ : Addr).add 1) = some (.int .i64 n19) ∧
 Br (n19 == 5) (
 ∃ n23 : Int, w3.cell? (⟨r5, 0, none⟩ : Addr) = some (.int .i64 n23) ∧
 Br (n23 != 2) (
 stA Tryz.prog 25 (⟨r6, 0, none⟩ : Addr) #[.int .i64 0, .int .i64 0, .string (⟨#[]⟩ : ByteArray)] w3 fun w8 =>
 runD Tryz.prog ds w8 fun w9 =>
 ∃ nR0_0 : Int, w9.cell? ((⟨r6, 0, none⟩ : Addr).add 0) = some (.int .i64 nR0_0) ∧
 ∃ nR0_1 : Int, w9.cell? ((⟨r6, 0, none⟩ : Addr).add 1) = some (.int .i64 nR0_1) ∧
 ∃ sR0_2 : ByteArray, w9.cell? ((⟨r6, 0, none⟩ : Addr).add 2) = some (.string sR0_2) ∧
 R (.returned (.tuple #[.agg #[.int .i64 nR0_0, .int .i64 nR0_1, .string sR0_2], .int .i64 6])) w9) (
 ∃ n28 : Int, w3.cell? ((⟨r3, 0, none⟩ : Addr).add 1) = some (.int .i64 n28) ∧
 Br (n28 == 4) (
 ∃ s31 : ByteArray, w3.cell? ((⟨r5, 0, none⟩ : Addr).add 2) = some (.string s31) ∧
 ∃ s33 : ByteArray, w3.cell? ((⟨r5, 0, none⟩ : Addr).add 2) = some (.string s33) ∧
 ∃ n36 : Int, w3.cell? ((⟨r3, 0, none⟩ : Addr).add 2) = some (.int .i64 n36) ∧
 ∃ n37 : Int, ∃ w10 : World, (Builtin.min_ #[3, 3] 3 #[.int .i64 ((s33.size : Nat) : Int), .int .i64 n36]).run Tryz.prog w3 = .ok (.int .i64 n37) w10 ∧
 0 ≤ n37 ∧ n37.toNat ≤ s31.size ∧ 0 ≤ n37.toNat ∧
 Calls Tryz.prog 103 #[.string (s31.extract 0 n37.toNat)] w10 fun e w11 =>
 ∃ s39 : ByteArray, e = .returned (.string s39) ∧
 Calls Tryz.prog 104 #[.string s39, .int .i64 n1] w11 fun e w12 =>
 ∃ b42 : Bool, e = .returned (.bool b42) ∧
 Br (!b42) (
 stA Tryz.prog 25 (⟨r6, 0, none⟩ : Addr) #[.int .i64 0, .int .i64 0, .string (⟨#[]⟩ : ByteArray)] w12 fun w13 =>
 runD Tryz.prog ds w13 fun w14 =>
 ∃ nR0_0 : Int, w14.cell? ((⟨r6, 0, none⟩ : Addr).add 0) = some (.int .i64 nR0_0) ∧
 ∃ nR0_1 : Int, w14.cell? ((⟨r6, 0, none⟩ : Addr).add 1) = some (.int .i64 nR0_1) ∧
 ∃ sR0_2 : ByteArray, w14.cell? ((⟨r6, 0, none⟩ : Addr).add 2) = some (.string sR0_2) ∧
 R (.returned (.tuple #[.agg #[.int .i64 nR0_0, .int .i64 nR0_1, .string sR0_2], .int .i64 10])) w14) (
 Calls Tryz.prog 46 #[.string s39] w12 fun e w15 =>
 ∃ n46_0 : Int, ∃ n46_1 : Int, ∃ s46_2 : ByteArray, e = .returned (.agg #[.int .i64 n46_0, .int .i64 n46_1, .string s46_2]) ∧
 stA Tryz.prog 25 (⟨r6, 0, none⟩ : Addr) #[.int .i64 n46_0, .int .i64 n46_1, .string s46_2] w15 fun w16 =>
 runD Tryz.prog ds w16 fun w17 =>
 ∃ nR0_0 : Int, w17.cell? ((⟨r6, 0, none⟩ : Addr).add 0) = some (.int .i64 nR0_0) ∧
 ∃ nR0_1 : Int, w17.cell? ((⟨r6, 0, none⟩ : Addr).add 1) = some (.int .i64 nR0_1) ∧
 ∃ sR0_2 : ByteArray, w17.cell? ((⟨r6, 0, none⟩ : Addr).add 2) = some (.string sR0_2) ∧
 R (.returned (.tuple #[.agg #[.int .i64 nR0_0, .int .i64 nR0_1, .string sR0_2], .int .i64 0])) w17)) (
 ∃ s47_0 : ByteArray, w3.cell? ((⟨r3, 0, none⟩ : Addr).add 0) = some (.string s47_0) ∧
 ∃ n47_1 : Int, w3.cell? ((⟨r3, 0, none⟩ : Addr).add 1) = some (.int .i64 n47_1) ∧
 ∃ n47_2 : Int, w3.cell? ((⟨r3, 0, none⟩ : Addr).add 2) = some (.int .i64 n47_2) ∧
 ∃ b47_3 : Bool, w3.cell? ((⟨r3, 0, none⟩ : Addr).add 3) = some (.bool b47_3) ∧
 ∃ n49_0 : Int, w3.cell? ((⟨r5, 0, none⟩ : Addr).add 0) = some (.int .i64 n49_0) ∧
 ∃ n49_1 : Int, w3.cell? ((⟨r5, 0, none⟩ : Addr).add 1) = some (.int .i64 n49_1) ∧
 ∃ s49_2 : ByteArray, w3.cell? ((⟨r5, 0, none⟩ : Addr).add 2) = some (.string s49_2) ∧
 Calls Tryz.prog 105 #[.agg #[.string s47_0, .int .i64 n47_1, .int .i64 n47_2, .bool b47_3], .int .i64 n1, .agg #[.int .i64 n49_0, .int .i64 n49_1, .string s49_2]] w3 fun e w18 =>
 ∃ b50 : Bool, e = .returned (.bool b50) ∧
 Br (!b50) (
 stA Tryz.prog 25 (⟨r6, 0, none⟩ : Addr) #[.int .i64 0, .int .i64 0, .string (⟨#[]⟩ : ByteArray)] w18 fun w19 =>
 runD Tryz.prog ds w19 fun w20 =>
 ∃ nR0_0 : Int, w20.cell? ((⟨r6, 0, none⟩ : Addr).add 0) = some (.int .i64 nR0_0) ∧
 ∃ nR0_1 : Int, w20.cell? ((⟨r6, 0, none⟩ : Addr).add 1) = some (.int .i64 nR0_1) ∧
 ∃ sR0_2 : ByteArray, w20.cell? ((⟨r6, 0, none⟩ : Addr).add 2) = some (.string sR0_2) ∧
 R (.returned (.tuple #[.agg #[.int .i64 nR0_0, .int .i64 nR0_1, .string sR0_2], .int .i64 10])) w20) (
 ∃ n53_0 : Int, w18.cell? ((⟨r5, 0, none⟩ : Addr).add 0) = some (.int .i64 n53_0) ∧
 ∃ n53_1 : Int, w18.cell? ((⟨r5, 0, none⟩ : Addr).add 1) = some (.int .i64 n53_1) ∧
 ∃ s53_2 : ByteArray, w18.cell? ((⟨r5, 0, none⟩ : Addr).add 2) = some (.string s53_2) ∧
 stA Tryz.prog 25 (⟨r6, 0, none⟩ : Addr) #[.int .i64 n53_0, .int .i64 n53_1, .string s53_2] w18 fun w21 =>
 runD Tryz.prog ds w21 fun w22 =>
 ∃ nR0_0 : Int, w22.cell? ((⟨r6, 0, none⟩ : Addr).add 0) = some (.int .i64 nR0_0) ∧
 ∃ nR0_1 : Int, w22.cell? ((⟨r6, 0, none⟩ : Addr).add 1) = some (.int .i64 nR0_1) ∧
 ∃ sR0_2 : ByteArray, w22.cell? ((⟨r6, 0, none⟩ : Addr).add 2) = some (.string sR0_2) ∧
 R (.returned (.tuple #[.agg #[.int .i64 nR0_0, .int .i64 nR0_1, .string sR0_2], .int .i64 0])) w22)))) (
 ∃ n23 : Int, w3.cell? (⟨r5, 0, none⟩ : Addr) = some (.int .i64 n23) ∧
 Br (n23 != n19) (
 stA Tryz.prog 25 (⟨r6, 0, none⟩ : Addr) #[.int .i64 0, .int .i64 0, .string (⟨#[]⟩ : ByteArray)] w3 fun w23 =>
 runD Tryz.prog ds w23 fun w24 =>
 ∃ nR0_0 : Int, w24.cell? ((⟨r6, 0, none⟩ : Addr).add 0) = some (.int .i64 nR0_0) ∧
 ∃ nR0_1 : Int, w24.cell? ((⟨r6, 0, none⟩ : Addr).add 1) = some (.int .i64 nR0_1) ∧
 ∃ sR0_2 : ByteArray, w24.cell? ((⟨r6, 0, none⟩ : Addr).add 2) = some (.string sR0_2) ∧
 R (.returned (.tuple #[.agg #[.int .i64 nR0_0, .int .i64 nR0_1, .string sR0_2], .int .i64 6])) w24) (
 ∃ n28 : Int, w3.cell? ((⟨r3, 0, none⟩ : Addr).add 1) = some (.int .i64 n28) ∧
 Br (n28 == 4) (
 ∃ s31 : ByteArray, w3.cell? ((⟨r5, 0, none⟩ : Addr).add 2) = some (.string s31) ∧
 ∃ s33 : ByteArray, w3.cell? ((⟨r5, 0, none⟩ : Addr).add 2) = some (.string s33) ∧
 ∃ n36 : Int, w3.cell? ((⟨r3, 0, none⟩ : Addr).add 2) = some (.int .i64 n36) ∧
 ∃ n37 : Int, ∃ w25 : World, (Builtin.min_ #[3, 3] 3 #[.int .i64 ((s33.size : Nat) : Int), .int .i64 n36]).run Tryz.prog w3 = .ok (.int .i64 n37) w25 ∧
 0 ≤ n37 ∧ n37.toNat ≤ s31.size ∧ 0 ≤ n37.toNat ∧
 Calls Tryz.prog 103 #[.string (s31.extract 0 n37.toNat)] w25 fun e w26 =>
 ∃ s39 : ByteArray, e = .returned (.string s39) ∧
 Calls Tryz.prog 104 #[.string s39, .int .i64 n1] w26 fun e w27 =>
 ∃ b42 : Bool, e = .returned (.bool b42) ∧
 Br (!b42) (
 stA Tryz.prog 25 (⟨r6, 0, none⟩ : Addr) #[.int .i64 0, .int .i64 0, .string (⟨#[]⟩ : ByteArray)] w27 fun w28 =>
 runD Tryz.prog ds w28 fun w29 =>
 ∃ nR0_0 : Int, w29.cell? ((⟨r6, 0, none⟩ : Addr).add 0) = some (.int .i64 nR0_0) ∧
 ∃ nR0_1 : Int, w29.cell? ((⟨r6, 0, none⟩ : Addr).add 1) = some (.int .i64 nR0_1) ∧
 ∃ sR0_2 : ByteArray, w29.cell? ((⟨r6, 0, none⟩ : Addr).add 2) = some (.string sR0_2) ∧
 R (.returned (.tuple #[.agg #[.int .i64 nR0_0, .int .i64 nR0_1, .string sR0_2], .int .i64 10])) w29) (
 Calls Tryz.prog 46 #[.string s39] w27 fun e w30 =>
 ∃ n46_0 : Int, ∃ n46_1 : Int, ∃ s46_2 : ByteArray, e = .returned (.agg #[.int .i64 n46_0, .int .i64 n46_1, .string s46_2]) ∧
 stA Tryz.prog 25 (⟨r6, 0, none⟩ : Addr) #[.int .i64 n46_0, .int .i64 n46_1, .string s46_2] w30 fun w31 =>
 runD Tryz.prog ds w31 fun w32 =>
 ∃ nR0_0 : Int, w32.cell? ((⟨r6, 0, none⟩ : Addr).add 0) = some (.int .i64 nR0_0) ∧
 ∃ nR0_1 : Int, w32.cell? ((⟨r6, 0, none⟩ : Addr).add 1) = some (.int .i64 nR0_1) ∧
 ∃ sR0_2 : ByteArray, w32.cell? ((⟨r6, 0, none⟩ : Addr).add 2) = some (.string sR0_2) ∧
 R (.returned (.tuple #[.agg #[.int .i64 nR0_0, .int .i64 nR0_1, .string sR0_2], .int .i64 0])) w32)) (
 ∃ s47_0 : ByteArray, w3.cell? ((⟨r3, 0, none⟩ : Addr).add 0) = some (.string s47_0) ∧
 ∃ n47_1 : Int, w3.cell? ((⟨r3, 0, none⟩ : Addr).add 1) = some (.int .i64 n47_1) ∧
 ∃ n47_2 : Int, w3.cell? ((⟨r3, 0, none⟩ : Addr).add 2) = some (.int .i64 n47_2) ∧
 ∃ b47_3 : Bool, w3.cell? ((⟨r3, 0, none⟩ : Addr).add 3) = some (.bool b47_3) ∧
 ∃ n49_0 : Int, w3.cell? ((⟨r5, 0, none⟩ : Addr).add 0) = some (.int .i64 n49_0) ∧
 ∃ n49_1 : Int, w3.cell? ((⟨r5, 0, none⟩ : Addr).add 1) = some (.int .i64 n49_1) ∧
 ∃ s49_2 : ByteArray, w3.cell? ((⟨r5, 0, none⟩ : Addr).add 2) = some (.string s49_2) ∧
 Calls Tryz.prog 105 #[.agg #[.string s47_0, .int .i64 n47_1, .int .i64 n47_2, .bool b47_3], .int .i64 n1, .agg #[.int .i64 n49_0, .int .i64 n49_1, .string s49_2]] w3 fun e w33 =>
 ∃ b50 : Bool, e = .returned (.bool b50) ∧
 Br (!b50) (
 stA Tryz.prog 25 (⟨r6, 0, none⟩ : Addr) #[.int .i64 0, .int .i64 0, .string (⟨#[]⟩ : ByteArray)] w33 fun w34 =>
 runD Tryz.prog ds w34 fun w35 =>
 ∃ nR0_0 : Int, w35.cell? ((⟨r6, 0, none⟩ : Addr).add 0) = some (.int .i64 nR0_0) ∧
 ∃ nR0_1 : Int, w35.cell? ((⟨r6, 0, none⟩ : Addr).add 1) = some (.int .i64 nR0_1) ∧
 ∃ sR0_2 : ByteArray, w35.cell? ((⟨r6, 0, none⟩ : Addr).add 2) = some (.string sR0_2) ∧
 R (.returned (.tuple #[.agg #[.int .i64 nR0_0, .int .i64 nR0_1, .string sR0_2], .int .i64 10])) w35) (
 ∃ n53_0 : Int, w33.cell? ((⟨r5, 0, none⟩ : Addr).add 0) = some (.int .i64 n53_0) ∧
 ∃ n53_1 : Int, w33.cell? ((⟨r5, 0, none⟩ : Addr).add 1) = some (.int .i64 n53_1) ∧
 ∃ s53_2 : ByteArray, w33.cell? ((⟨r5, 0, none⟩ : Addr).add 2) = some (.string s53_2) ∧
 stA Tryz.prog 25 (⟨r6, 0, none⟩ : Addr) #[.int .i64 n53_0, .int .i64 n53_1, .string s53_2] w33 fun w36 =>
 runD Tryz.prog ds w36 fun w37 =>
 ∃ nR0_0 : Int, w37.cell? ((⟨r6, 0, none⟩ : Addr).add 0) = some (.int .i64 nR0_0) ∧
 ∃ nR0_1 : Int, w37.cell? ((⟨r6, 0, none⟩ : Addr).add 1) = some (.int .i64 nR0_1) ∧
 ∃ sR0_2 : ByteArray, w37.cell? ((⟨r6, 0, none⟩ : Addr).add 2) = some (.string sR0_2) ∧
 R (.returned (.tuple #[.agg #[.int .i64 nR0_0, .int .i64 nR0_1, .string sR0_2], .int .i64 0])) w37)))))
theorem c58_l : flat (bodyOf Tryz.f58) = [c58_0, c58_1, c58_2, c58_3, c58_4, c58_5, c58_6, c58_7, c58_8, c58_9, c58_10, c58_11, c58_12, c58_13] := by kernel_rfl
theorem F58_1_ok (R : Rt) (s0_0 : ByteArray) (n0_1 : Int) (n0_2 : Int) (b0_3 : Bool) (n1 : Int) (n2_0 : Int) (n2_1 : Int) (s2_2 : ByteArray) (ds : Ds) (w : World) (ρ : Env) (e0 : ρ 0 = .agg #[.string s0_0, .int .i64 n0_1, .int .i64 n0_2, .bool b0_3]) (e1 : ρ 1 = .int .i64 n1) (e2 : ρ 2 = .agg #[.int .i64 n2_0, .int .i64 n2_1, .string s2_2]) (h : F58_1 R s0_0 n0_1 n0_2 b0_3 n1 n2_0 n2_1 s2_2 ds w) :
    TrL Tryz.prog Tryz.f58.ntmps [c58_0, c58_1, c58_2, c58_3, c58_4, c58_5, c58_6, c58_7, c58_8, c58_9, c58_10, c58_11, c58_12, c58_13] (F58_q1 R) ρ ds w :=
  TrL_leaf (X := F58_1 R s0_0 n0_1 n0_2 b0_3 n1 n2_0 n2_1 s2_2 ds w) (setAll_cons e0 (setAll_cons e1 (setAll_cons e2 setAll_nil))) (by kernel_rfl) (by kernel_rfl) h
theorem F58_calls (s0_0 : ByteArray) (n0_1 : Int) (n0_2 : Int) (b0_3 : Bool) (n1 : Int) (n2_0 : Int) (n2_1 : Int) (s2_2 : ByteArray) (w : World) (R : Rt) (h : F58_1 R s0_0 n0_1 n0_2 b0_3 n1 n2_0 n2_1 s2_2 [] w) : Calls Tryz.prog 58 #[.agg #[.string s0_0, .int .i64 n0_1, .int .i64 n0_2, .bool b0_3], .int .i64 n1, .agg #[.int .i64 n2_0, .int .i64 n2_1, .string s2_2]] w R :=
  calls_of_L (l := [c58_0, c58_1, c58_2, c58_3, c58_4, c58_5, c58_6, c58_7, c58_8, c58_9, c58_10, c58_11, c58_12, c58_13]) Tryz.func58 (by kernel_rfl) (by rw [Tryz.ntmps58]; exact Nat.le_of_ble_eq_true (by kernel_rfl)) c58_l
    (F58_1_ok R s0_0 n0_1 n0_2 b0_3 n1 n2_0 n2_1 s2_2 [] w _ rfl rfl rfl h)
theorem F58_callsD (s0_0 : ByteArray) (n0_1 : Int) (n0_2 : Int) (b0_3 : Bool) (n1 : Int) (n2_0 : Int) (n2_1 : Int) (s2_2 : ByteArray) (w : World) (R : Rt) (u : FrameMode) (h : F58_1 R s0_0 n0_1 n0_2 b0_3 n1 n2_0 n2_1 s2_2 [] w) : CallsD Tryz.prog 58 #[.agg #[.string s0_0, .int .i64 n0_1, .int .i64 n0_2, .bool b0_3], .int .i64 n1, .agg #[.int .i64 n2_0, .int .i64 n2_1, .string s2_2]] u w fun e u' w' => u' = u ∧ R e w' :=
  callsD_of_L (l := [c58_0, c58_1, c58_2, c58_3, c58_4, c58_5, c58_6, c58_7, c58_8, c58_9, c58_10, c58_11, c58_12, c58_13]) Tryz.func58 (by kernel_rfl) (by rw [Tryz.ntmps58]; exact Nat.le_of_ble_eq_true (by kernel_rfl)) (by kernel_rfl) c58_l
    (F58_1_ok R s0_0 n0_1 n0_2 b0_3 n1 n2_0 n2_1 s2_2 [] w _ rfl rfl rfl h) u

/-! function 105: cabinetry/cabinetryref03.fits -/
noncomputable def c105_0 : Code := itemAt (flat (bodyOf Tryz.f105)) 0
noncomputable def c105_1 : Code := itemAt (flat (bodyOf Tryz.f105)) 1
noncomputable def c105_2 : Code := itemAt (flat (bodyOf Tryz.f105)) 2
noncomputable def c105_3 : Code := itemAt (flat (bodyOf Tryz.f105)) 3
noncomputable def c105_4 : Code := itemAt (flat (bodyOf Tryz.f105)) 4
noncomputable def c105_5 : Code := itemAt (flat (bodyOf Tryz.f105)) 5
def F105_q1 (R : Rt) : EQ := endQ Tryz.prog Tryz.f105.results.toList R
def F105_1 (R : Rt) (s0_0 : ByteArray) (n0_1 : Int) (n0_2 : Int) (b0_3 : Bool) (n1 : Int) (n2_0 : Int) (n2_1 : Int) (s2_2 : ByteArray) (ds : Ds) (w : World) : Prop :=
 alE (.cells #[.string s0_0, .int .i64 n0_1, .int .i64 n0_2, .bool b0_3] 23) w fun r3 w1 =>
 alE (.cells #[.int .i64 n2_0, .int .i64 n2_1, .string s2_2] 25) w1 fun r5 w2 =>
 ∃ n7_0 : Int, w2.cell? ((⟨r5, 0, none⟩ : Addr).add 0) = some (.int .i64 n7_0) ∧
 ∃ n7_1 : Int, w2.cell? ((⟨r5, 0, none⟩ : Addr).add 1) = some (.int .i64 n7_1) ∧
 ∃ s7_2 : ByteArray, w2.cell? ((⟨r5, 0, none⟩ : Addr).add 2) = some (.string s7_2) ∧
 Calls Tryz.prog 57 #[.agg #[.int .i64 n7_0, .int .i64 n7_1, .string s7_2]] w2 fun e w3 =>
 ∃ n8 : Int, e = .returned (.int .i64 n8) ∧
 Br (n8 != 0) (
 runD Tryz.prog ds w3 fun w4 =>
 R (.returned (.bool false)) w4) (
 ∃ n12 : Int, w3.cell? (⟨r5, 0, none⟩ : Addr) = some (.int .i64 n12) ∧
 Br (n12 == 0) (
 ∃ b15 : Bool, w3.cell? ((⟨r3, 0, none⟩ : Addr).add 3) = some (.bool b15) ∧
 runD Tryz.prog ds w3 fun w5 =>
 R (.returned (.bool b15)) w5) (
 ∃ n18 : Int, w3.cell? ((⟨r3, 0, none⟩ : Addr).add 1) = some (.int .i64 n18) ∧
 Br (n18 == 5) (
 ∃ n21 : Int, w3.cell? (⟨r5, 0, none⟩ : Addr) = some (.int .i64 n21) ∧
 Br (n21 == 2) (
 ∃ n25 : Int, w3.cell? ((⟨r5, 0, none⟩ : Addr).add 1) = some (.int .i64 n25) ∧
 Calls Tryz.prog 147 #[.int .i64 n25] w3 fun e w6 =>
 ∃ b26 : Bool, e = .returned (.bool b26) ∧
 runD Tryz.prog ds w6 fun w7 =>
 R (.returned (.bool b26)) w7) (
 runD Tryz.prog ds w3 fun w8 =>
 R (.returned (.bool false)) w8)) (
 ∃ n30 : Int, w3.cell? (⟨r5, 0, none⟩ : Addr) = some (.int .i64 n30) ∧
 ∃ n32 : Int, w3.cell? ((⟨r3, 0, none⟩ : Addr).add 1) = some (.int .i64 n32) ∧
 Br (n30 != n32) (
 runD Tryz.prog ds w3 fun w9 =>
 R (.returned (.bool false)) w9) (
 ∃ n36 : Int, w3.cell? ((⟨r3, 0, none⟩ : Addr).add 1) = some (.int .i64 n36) ∧
 Br (n36 == 2) (
 dwE w3 fun w10 =>
 ∃ S1 : World → Prop, S1 w10 ∧
 ∃ n39 : Int, (∀ w', S1 w' → w'.cell? ((⟨r5, 0, none⟩ : Addr).add 1) = some (.int .i64 n39)) ∧
 ∃ n43 : Int, (∀ w', S1 w' → w'.cell? ((⟨r3, 0, none⟩ : Addr).add 2) = some (.int .i64 n43)) ∧
 Calls Tryz.prog 119 #[.int .i64 n39] w10 fun e w11 =>
 ∃ s40 : ByteArray, e = .returned (.string s40) ∧
 S1 w11 ∧
 runD Tryz.prog ds w11 fun w12 =>
 R (.returned (.bool (decide (((s40.size : Nat) : Int) ≤ n43)))) w12) (
 ∃ n47 : Int, w3.cell? ((⟨r3, 0, none⟩ : Addr).add 1) = some (.int .i64 n47) ∧
 Br (n47 == 4) (
 dwE w3 fun w13 =>
 ∃ S2 : World → Prop, S2 w13 ∧
 ∃ s50 : ByteArray, (∀ w', S2 w' → w'.cell? ((⟨r5, 0, none⟩ : Addr).add 2) = some (.string s50)) ∧
 ∃ n53 : Int, (∀ w', S2 w' → w'.cell? ((⟨r3, 0, none⟩ : Addr).add 2) = some (.int .i64 n53)) ∧
 Br (decide (((s50.size : Nat) : Int) ≤ n53)) (
 ∃ s57 : ByteArray, (∀ w', S2 w' → w'.cell? ((⟨r5, 0, none⟩ : Addr).add 2) = some (.string s57)) ∧
 ∃ s60 : ByteArray, (∀ w', S2 w' → w'.cell? ((⟨r5, 0, none⟩ : Addr).add 2) = some (.string s60)) ∧
 Calls Tryz.prog 103 #[.string s57] w13 fun e w14 =>
 ∃ s58 : ByteArray, e = .returned (.string s58) ∧
 S2 w14 ∧
 Br (s58.toList == s60.toList) (
 ∃ s65 : ByteArray, (∀ w', S2 w' → w'.cell? ((⟨r5, 0, none⟩ : Addr).add 2) = some (.string s65)) ∧
 Calls Tryz.prog 104 #[.string s65, .int .i64 n1] w14 fun e w15 =>
 ∃ b67 : Bool, e = .returned (.bool b67) ∧
 runD Tryz.prog ds w15 fun w16 =>
 R (.returned (.bool b67)) w16) (
 runD Tryz.prog ds w14 fun w17 =>
 R (.returned (.bool false)) w17)) (
 runD Tryz.prog ds w13 fun w18 =>
 R (.returned (.bool false)) w18)) (
 runD Tryz.prog ds w3 fun w19 =>
 R (.returned (.bool true)) w19))))))
theorem c105_l : flat (bodyOf Tryz.f105) = [c105_0, c105_1, c105_2, c105_3, c105_4, c105_5] := by kernel_rfl
theorem F105_1_ok (R : Rt) (s0_0 : ByteArray) (n0_1 : Int) (n0_2 : Int) (b0_3 : Bool) (n1 : Int) (n2_0 : Int) (n2_1 : Int) (s2_2 : ByteArray) (ds : Ds) (w : World) (ρ : Env) (e0 : ρ 0 = .agg #[.string s0_0, .int .i64 n0_1, .int .i64 n0_2, .bool b0_3]) (e1 : ρ 1 = .int .i64 n1) (e2 : ρ 2 = .agg #[.int .i64 n2_0, .int .i64 n2_1, .string s2_2]) (h : F105_1 R s0_0 n0_1 n0_2 b0_3 n1 n2_0 n2_1 s2_2 ds w) :
    TrL Tryz.prog Tryz.f105.ntmps [c105_0, c105_1, c105_2, c105_3, c105_4, c105_5] (F105_q1 R) ρ ds w :=
  TrL_leaf (X := F105_1 R s0_0 n0_1 n0_2 b0_3 n1 n2_0 n2_1 s2_2 ds w) (setAll_cons e0 (setAll_cons e1 (setAll_cons e2 setAll_nil))) (by kernel_rfl) (by kernel_rfl) h
theorem F105_calls (s0_0 : ByteArray) (n0_1 : Int) (n0_2 : Int) (b0_3 : Bool) (n1 : Int) (n2_0 : Int) (n2_1 : Int) (s2_2 : ByteArray) (w : World) (R : Rt) (h : F105_1 R s0_0 n0_1 n0_2 b0_3 n1 n2_0 n2_1 s2_2 [] w) : Calls Tryz.prog 105 #[.agg #[.string s0_0, .int .i64 n0_1, .int .i64 n0_2, .bool b0_3], .int .i64 n1, .agg #[.int .i64 n2_0, .int .i64 n2_1, .string s2_2]] w R :=
  calls_of_L (l := [c105_0, c105_1, c105_2, c105_3, c105_4, c105_5]) Tryz.func105 (by kernel_rfl) (by rw [Tryz.ntmps105]; exact Nat.le_of_ble_eq_true (by kernel_rfl)) c105_l
    (F105_1_ok R s0_0 n0_1 n0_2 b0_3 n1 n2_0 n2_1 s2_2 [] w _ rfl rfl rfl h)
theorem F105_callsD (s0_0 : ByteArray) (n0_1 : Int) (n0_2 : Int) (b0_3 : Bool) (n1 : Int) (n2_0 : Int) (n2_1 : Int) (s2_2 : ByteArray) (w : World) (R : Rt) (u : FrameMode) (h : F105_1 R s0_0 n0_1 n0_2 b0_3 n1 n2_0 n2_1 s2_2 [] w) : CallsD Tryz.prog 105 #[.agg #[.string s0_0, .int .i64 n0_1, .int .i64 n0_2, .bool b0_3], .int .i64 n1, .agg #[.int .i64 n2_0, .int .i64 n2_1, .string s2_2]] u w fun e u' w' => u' = u ∧ R e w' :=
  callsD_of_L (l := [c105_0, c105_1, c105_2, c105_3, c105_4, c105_5]) Tryz.func105 (by kernel_rfl) (by rw [Tryz.ntmps105]; exact Nat.le_of_ble_eq_true (by kernel_rfl)) (by kernel_rfl) c105_l
    (F105_1_ok R s0_0 n0_1 n0_2 b0_3 n1 n2_0 n2_1 s2_2 [] w _ rfl rfl rfl h) u

/-! function 147: cabinetry/cabinetryref03.isMemo -/
noncomputable def c147_0 : Code := itemAt (flat (bodyOf Tryz.f147)) 0
noncomputable def c147_1 : Code := itemAt (flat (bodyOf Tryz.f147)) 1
noncomputable def c147_2 : Code := itemAt (flat (bodyOf Tryz.f147)) 2
def F147_q1 (R : Rt) : EQ := endQ Tryz.prog Tryz.f147.results.toList R
def F147_1 (R : Rt) (n0 : Int) (ds : Ds) (w : World) : Prop :=
 Br (decide (n0 ≥ 0)) (
 runD Tryz.prog ds w fun w1 =>
 R (.returned (.bool (decide (n0 ≤ 99999999)))) w1) (
 runD Tryz.prog ds w fun w2 =>
 R (.returned (.bool false)) w2)
theorem c147_l : flat (bodyOf Tryz.f147) = [c147_0, c147_1, c147_2] := by kernel_rfl
theorem F147_1_ok (R : Rt) (n0 : Int) (ds : Ds) (w : World) (ρ : Env) (e0 : ρ 0 = .int .i64 n0) (h : F147_1 R n0 ds w) :
    TrL Tryz.prog Tryz.f147.ntmps [c147_0, c147_1, c147_2] (F147_q1 R) ρ ds w :=
  TrL_leaf (X := F147_1 R n0 ds w) (setAll_cons e0 setAll_nil) (by kernel_rfl) (by kernel_rfl) h
theorem F147_calls (n0 : Int) (w : World) (R : Rt) (h : F147_1 R n0 [] w) : Calls Tryz.prog 147 #[.int .i64 n0] w R :=
  calls_of_L (l := [c147_0, c147_1, c147_2]) Tryz.func147 (by kernel_rfl) (by rw [Tryz.ntmps147]; exact Nat.le_of_ble_eq_true (by kernel_rfl)) c147_l
    (F147_1_ok R n0 [] w _ rfl h)
theorem F147_callsD (n0 : Int) (w : World) (R : Rt) (u : FrameMode) (h : F147_1 R n0 [] w) : CallsD Tryz.prog 147 #[.int .i64 n0] u w fun e u' w' => u' = u ∧ R e w' :=
  callsD_of_L (l := [c147_0, c147_1, c147_2]) Tryz.func147 (by kernel_rfl) (by rw [Tryz.ntmps147]; exact Nat.le_of_ble_eq_true (by kernel_rfl)) (by kernel_rfl) c147_l
    (F147_1_ok R n0 [] w _ rfl h) u

end Go.Proofs.YtecmfdfhpldmmaaGreatDoor
