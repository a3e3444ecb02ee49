import Derived.Test.YtcihcbfcgjepfaaGreatDoorProg
import Derived.Test.YtcihcbfcgjepfaaGreatDoorShTwentyEight
/- Shallow texts of functions, printed by program, each checked by the kernel against the loaded code. No condition. -/
set_option maxRecDepth 100000
set_option linter.unusedVariables false
namespace Go.Proofs.YtcihcbfcgjepfaaGreatDoor
open Go.Sh Tryz
def xQC (R : Rt) (v0 : Value) (ds : Ds) (w : World) : Prop :=
 Calls prog 165 #[v0] w fun e w1 =>
 ∃ l5 : SV, e = .returned (.slice l5.a l5.len l5.cap) /\
 Calls prog 166 #[.slice l5.a l5.len l5.cap] w1 fun e w2 =>
 e = .returned (.tuple #[]) /\
 zQd prog ds w2 fun w3 =>
 R (.returned (.slice l5.a l5.len l5.cap)) w3
theorem F128_p : Pl prog f128 [vS 0] xQC := fun R =>
 lf
theorem yZB (v0 : Value) (w : World) (R : Rt) (h : xQC R v0 [] w) : Calls prog 128 #[v0] w R :=
 plC F128_p func128 h
def yYK (R : Rt) (m0 : Option Nat) (ds : Ds) (w : World) : Prop :=
 alE (.cells #[.map m0] 88) w fun r1 w1 =>
 zQd prog ds w1 fun w2 =>
 R (.returned (.func (.func 167) #[] #[.pointer (some (⟨r1, 0, none⟩ : Addr))])) w2
theorem F129_p : Pl prog f129 [mS 0] yYK := fun R =>
 lf
theorem zVj (m0 : Option Nat) (w : World) (R : Rt) (h : yYK R m0 [] w) : Calls prog 129 #[.map m0] w R :=
 plC F129_p func129 h
def xQi (R : Rt) (v0 : Value) (ds : Ds) (w : World) : Prop :=
 Calls prog 201 #[.slice none 0 0, v0] w fun e w1 =>
 ∃ l4 : SV, e = .returned (.slice l4.a l4.len l4.cap) /\
 zQd prog ds w1 fun w2 =>
 R (.returned (.slice l4.a l4.len l4.cap)) w2
theorem F165_p : Pl prog f165 [vS 0] xQi := fun R =>
 lf
theorem yZv (v0 : Value) (w : World) (R : Rt) (h : xQi R v0 [] w) : Calls prog 165 #[v0] w R :=
 plC F165_p func165 h
end Go.Proofs.YtcihcbfcgjepfaaGreatDoor
/- Shallow texts of functions, printed by program, each checked by the kernel against the loaded code. No condition. -/
namespace Go.Proofs.YtcihcbfcgjepfaaGreatDoor
open Go.Sh Tryz
def xQI (R : Rt) (n0_0 n0_1 : Int) (s0_2 : ByteArray) (ds : Ds) (w : World) : Prop :=
 alE (.cells #[.int .i64 n0_0, .int .i64 n0_1, .string s0_2] 28) w fun r1 w1 =>
 ∃ s4, w1.cell? ((⟨r1, 0, none⟩ : Addr).add 2) = some (.string s4) /\
 Br (decide ((s4.size : Int) > 2048)) (
 zQd prog ds w1 fun w2 =>
 R (.returned (.int .i64 3)) w2) (
 ∃ n7_0, w1.cell? ((⟨r1, 0, none⟩ : Addr).add 0) = some (.int .i64 n7_0) /\
 ∃ n7_1, w1.cell? ((⟨r1, 0, none⟩ : Addr).add 1) = some (.int .i64 n7_1) /\
 ∃ s7_2, w1.cell? ((⟨r1, 0, none⟩ : Addr).add 2) = some (.string s7_2) /\
 Calls prog 152 #[.agg #[.int .i64 n7_0, .int .i64 n7_1, .string s7_2]] w1 fun e w3 =>
 ∃ b8 : Bool, e = .returned (.bool b8) /\
 Br (!b8) (
 zQd prog ds w3 fun w4 =>
 R (.returned (.int .i64 1)) w4) (
 zQd prog ds w3 fun w5 =>
 R (.returned (.int .i64 0)) w5))
theorem F107_p : Pl prog f107 [aS 0 [.int .i64, .int .i64, .str]] xQI := fun R =>
 lf
theorem yXR (n0_0 n0_1 : Int) (s0_2 : ByteArray) (w : World) (R : Rt) (h : xQI R n0_0 n0_1 s0_2 [] w) : Calls prog 107 #[.agg #[.int .i64 n0_0, .int .i64 n0_1, .string s0_2]] w R :=
 plC F107_p func107 h
def zV7 (R : Rt) (p1 : Option Addr) (n22 : Int) (ds : Ds) (w : World) : Prop :=
 Br (n22 == 0) (
 zQi p1 fun a1 =>
 ∃ n26, w.cell? (a1.add 1) = some (.int .i64 n26) /\
 zQd prog ds w fun w2 =>
 R (.returned (.bool (n26 == 0))) w2) (
 Br (n22 == 1) (
 zQi p1 fun a3 =>
 ∃ n31, w.cell? (a3.add 1) = some (.int .i64 n31) /\
 Br (n31 == 0) (
 zQd prog ds w fun w4 =>
 R (.returned (.bool true)) w4) (
 zQi p1 fun a5 =>
 ∃ n35, w.cell? (a5.add 1) = some (.int .i64 n35) /\
 zQd prog ds w fun w6 =>
 R (.returned (.bool (n35 == 1))) w6)) (
 Br (n22 == 2) (
 zQi p1 fun a7 =>
 ∃ n41, w.cell? (a7.add 1) = some (.int .i64 n41) /\
 Calls prog 158 #[.int .i64 n41] w fun e w8 =>
 ∃ b42 : Bool, e = .returned (.bool b42) /\
 zQd prog ds w8 fun w9 =>
 R (.returned (.bool b42)) w9) (
 Br (n22 == 3) (
 zQi p1 fun a10 =>
 ∃ n46, w.cell? (a10.add 1) = some (.int .i64 n46) /\
 Calls prog 188 #[.int .i64 n46] w fun e w11 =>
 ∃ b47 : Bool, e = .returned (.bool b47) /\
 zQd prog ds w11 fun w12 =>
 R (.returned (.bool b47)) w12) (
 zQi p1 fun a13 =>
 ∃ n49, w.cell? a13 = some (.int .i64 n49) /\
 zQd prog ds w fun w14 =>
 R (.returned (.bool (n49 == 4))) w14))))
def xQo (R : Rt) (n0_0 n0_1 : Int) (s0_2 : ByteArray) (ds : Ds) (w : World) : Prop :=
 alE (.cells #[.int .i64 n0_0, .int .i64 n0_1, .string s0_2] 28) w fun r1 w15 =>
 ∃ n4, w15.cell? (⟨r1, 0, none⟩ : Addr) = some (.int .i64 n4) /\
 Br (n4 != 4) (
 ∃ s8, w15.cell? ((⟨r1, 0, none⟩ : Addr).add 2) = some (.string s8) /\
 Br (!(s8.toList == (⟨#[]⟩ : ByteArray).toList)) (
 zQd prog ds w15 fun w16 =>
 R (.returned (.bool false)) w16) (
 ∃ n13, w15.cell? (⟨r1, 0, none⟩ : Addr) = some (.int .i64 n13) /\
 Br (n13 == 4) (
 ∃ n17, w15.cell? ((⟨r1, 0, none⟩ : Addr).add 1) = some (.int .i64 n17) /\
 Br (n17 != 0) (
 zQd prog ds w15 fun w17 =>
 R (.returned (.bool false)) w17) (
 ∃ n22, w15.cell? (⟨r1, 0, none⟩ : Addr) = some (.int .i64 n22) /\
 zV7 R (some (⟨r1, 0, none⟩ : Addr)) n22 ds w15)) (
 ∃ n22, w15.cell? (⟨r1, 0, none⟩ : Addr) = some (.int .i64 n22) /\
 zV7 R (some (⟨r1, 0, none⟩ : Addr)) n22 ds w15))) (
 ∃ n13, w15.cell? (⟨r1, 0, none⟩ : Addr) = some (.int .i64 n13) /\
 Br (n13 == 4) (
 ∃ n17, w15.cell? ((⟨r1, 0, none⟩ : Addr).add 1) = some (.int .i64 n17) /\
 Br (n17 != 0) (
 zQd prog ds w15 fun w18 =>
 R (.returned (.bool false)) w18) (
 ∃ n22, w15.cell? (⟨r1, 0, none⟩ : Addr) = some (.int .i64 n22) /\
 zV7 R (some (⟨r1, 0, none⟩ : Addr)) n22 ds w15)) (
 ∃ n22, w15.cell? (⟨r1, 0, none⟩ : Addr) = some (.int .i64 n22) /\
 zV7 R (some (⟨r1, 0, none⟩ : Addr)) n22 ds w15))
theorem F152_p : Pl prog f152 [aS 0 [.int .i64, .int .i64, .str]] xQo := fun R =>
 pc 4 (zQx [pS 1, iS 22] (zV7 R) lf)
theorem yXI (n0_0 n0_1 : Int) (s0_2 : ByteArray) (w : World) (R : Rt) (h : xQo R n0_0 n0_1 s0_2 [] w) : Calls prog 152 #[.agg #[.int .i64 n0_0, .int .i64 n0_1, .string s0_2]] w R :=
 plC F152_p func152 h
def yYr (R : Rt) (n0 : Int) (ds : Ds) (w : World) : Prop :=
 Br (decide (n0 >= (-1000000000000000))) (
 zQd prog ds w fun w1 =>
 R (.returned (.bool (decide (n0 <= 1000000000000000)))) w1) (
 zQd prog ds w fun w2 =>
 R (.returned (.bool false)) w2)
theorem F158_p : Pl prog f158 [iS 0] yYr := fun R =>
 lf
theorem yZ8 (n0 : Int) (w : World) (R : Rt) (h : yYr R n0 [] w) : Calls prog 158 #[.int .i64 n0] w R :=
 plC F158_p func158 h
def xQe (R : Rt) (n0 : Int) (ds : Ds) (w : World) : Prop :=
 Br (decide (n0 >= 0)) (
 zQd prog ds w fun w1 =>
 R (.returned (.bool (decide (n0 <= 3652059)))) w1) (
 zQd prog ds w fun w2 =>
 R (.returned (.bool false)) w2)
theorem F188_p : Pl prog f188 [iS 0] xQe := fun R =>
 lf
theorem yZ6 (n0 : Int) (w : World) (R : Rt) (h : xQe R n0 [] w) : Calls prog 188 #[.int .i64 n0] w R :=
 plC F188_p func188 h
def zWJ (R : Rt) (p1 : Option Addr) (b3 : Bool) (ds : Ds) (w : World) : Prop :=
 Br (!b3) (
 zQd prog ds w fun w1 =>
 R (.returned (.int .i64 1)) w1) (
 zQi p1 fun a2 =>
 ∃ n49, w.cell? a2 = some (.int .i64 n49) /\
 Br (n49 != 4) (
 zQi p1 fun a3 =>
 ∃ s53, w.cell? (a3.add 2) = some (.string s53) /\
 Br (!(s53.toList == (⟨#[]⟩ : ByteArray).toList)) (
 zQd prog ds w fun w4 =>
 R (.returned (.int .i64 1)) w4) (
 zQd prog ds w fun w5 =>
 R (.returned (.int .i64 0)) w5)) (
 zQd prog ds w fun w6 =>
 R (.returned (.int .i64 0)) w6))
def F45_2 (R : Rt) (n0_0 n0_1 : Int) (s0_2 : ByteArray) (ds : Ds) (w : World) : Prop :=
 alE (.cells #[.int .i64 n0_0, .int .i64 n0_1, .string s0_2] 28) w fun r1 w7 =>
 ∃ s5, w7.cell? ((⟨r1, 0, none⟩ : Addr).add 2) = some (.string s5) /\
 Br (decide ((s5.size : Int) > 2048)) (
 zQd prog ds w7 fun w8 =>
 R (.returned (.int .i64 3)) w8) (
 ∃ n9, w7.cell? (⟨r1, 0, none⟩ : Addr) = some (.int .i64 n9) /\
 Br (n9 == 0) (
 ∃ n13, w7.cell? ((⟨r1, 0, none⟩ : Addr).add 1) = some (.int .i64 n13) /\
 zWJ R (some (⟨r1, 0, none⟩ : Addr)) (n13 == 0) ds w7) (
 Br (n9 == 1) (
 ∃ n18, w7.cell? ((⟨r1, 0, none⟩ : Addr).add 1) = some (.int .i64 n18) /\
 Br (n18 == 0) (
 zWJ R (some (⟨r1, 0, none⟩ : Addr)) true ds w7) (
 ∃ n22, w7.cell? ((⟨r1, 0, none⟩ : Addr).add 1) = some (.int .i64 n22) /\
 zWJ R (some (⟨r1, 0, none⟩ : Addr)) (n22 == 1) ds w7)) (
 Br (n9 == 2) (
 ∃ n28, w7.cell? ((⟨r1, 0, none⟩ : Addr).add 1) = some (.int .i64 n28) /\
 Calls prog 98 #[.int .i64 n28] w7 fun e w9 =>
 ∃ b29 : Bool, e = .returned (.bool b29) /\
 zWJ R (some (⟨r1, 0, none⟩ : Addr)) b29 ds w9) (
 Br (n9 == 3) (
 ∃ n33, w7.cell? ((⟨r1, 0, none⟩ : Addr).add 1) = some (.int .i64 n33) /\
 Br (decide (n33 >= 0)) (
 ∃ n37, w7.cell? ((⟨r1, 0, none⟩ : Addr).add 1) = some (.int .i64 n37) /\
 zWJ R (some (⟨r1, 0, none⟩ : Addr)) (decide (n37 <= 3652059)) ds w7) (
 zWJ R (some (⟨r1, 0, none⟩ : Addr)) false ds w7)) (
 Br (n9 == 4) (
 ∃ n43, w7.cell? ((⟨r1, 0, none⟩ : Addr).add 1) = some (.int .i64 n43) /\
 zWJ R (some (⟨r1, 0, none⟩ : Addr)) (n43 == 0) ds w7) (
 zWJ R (some (⟨r1, 0, none⟩ : Addr)) false ds w7))))))
theorem F45_p : Pl prog f45 [aS 0 [.int .i64, .int .i64, .str]] F45_2 := fun R =>
 pc 6 (zQx [pS 1, bS 3] (zWJ R) lf)
theorem yKf (n0_0 n0_1 : Int) (s0_2 : ByteArray) (w : World) (R : Rt) (h : F45_2 R n0_0 n0_1 s0_2 [] w) : Calls prog 45 #[.agg #[.int .i64 n0_0, .int .i64 n0_1, .string s0_2]] w R :=
 plC F45_p func45 h
def F98_1 (R : Rt) (n0 : Int) (ds : Ds) (w : World) : Prop :=
 Br (decide (n0 >= (-1000000000000000))) (
 zQd prog ds w fun w1 =>
 R (.returned (.bool (decide (n0 <= 1000000000000000)))) w1) (
 zQd prog ds w fun w2 =>
 R (.returned (.bool false)) w2)
theorem F98_p : Pl prog f98 [iS 0] F98_1 := fun R =>
 lf
theorem yJH (n0 : Int) (w : World) (R : Rt) (h : F98_1 R n0 [] w) : Calls prog 98 #[.int .i64 n0] w R :=
 plC F98_p func98 h
end Go.Proofs.YtcihcbfcgjepfaaGreatDoor
/- Shallow texts of functions, printed by program, each checked by the kernel against the loaded code. No condition. -/
namespace Go.Proofs.YtcihcbfcgjepfaaGreatDoor
open Go.Sh Tryz
def yX3 (R : Rt) (p1 p3 : Option Addr) (b4 : Bool) (ds : Ds) (w : World) : Prop :=
 Br b4 (
 zQi p1 fun a1 =>
 ∃ s15, w.cell? a1 = some (.string s15) /\
 Calls prog 151 #[.string s15] w fun e w2 =>
 ∃ b16 : Bool, e = .returned (.bool b16) /\
 Br b16 (
 zQi p1 fun a3 =>
 ∃ n20, w2.cell? (a3.add 2) = some (.int .i64 n20) /\
 zQi p3 fun a4 =>
 ∃ n22, w2.cell? (a4.add 1) = some (.int .i64 n22) /\
 Br (decide (n20 >= n22)) (
 zQi p1 fun a5 =>
 ∃ n27, w2.cell? (a5.add 2) = some (.int .i64 n27) /\
 zQi p3 fun a6 =>
 ∃ n29, w2.cell? (a6.add 2) = some (.int .i64 n29) /\
 zQd prog ds w2 fun w7 =>
 R (.returned (.bool (decide (n27 <= n29)))) w7) (
 zQd prog ds w2 fun w8 =>
 R (.returned (.bool false)) w8)) (
 zQd prog ds w2 fun w9 =>
 R (.returned (.bool false)) w9)) (
 zQd prog ds w fun w10 =>
 R (.returned (.bool false)) w10)
def xXz (R : Rt) (s0_0 : ByteArray) (n0_1 n0_2 : Int) (b0_3 : Bool) (ds : Ds) (w : World) : Prop :=
 alE (.cells #[.string s0_0, .int .i64 n0_1, .int .i64 n0_2, .bool b0_3] 38) w fun r1 w11 =>
 dwE w11 fun w12 =>
 ∃ S1 : World -> Prop, S1 w12 /\
 ∃ n8, (∀ w', S1 w' -> w'.cell? ((⟨r1, 0, none⟩ : Addr).add 1) = some (.int .i64 n8)) /\
 (
 Calls prog 150 #[] w12 fun e w13 =>
 ∃ m6 : Option Nat, e = .returned (.map m6) /\
 ∃ S2 : World -> Prop, S2 w13 /\ (∀ u, S2 u -> S1 u) /\
 ∃ n9_0_0 : Int, ∃ n9_0_1 : Int, ∃ n9_0_2 : Int, ∃ v9_0_3 : Value, ∃ v9_0_4 : Value, ∃ b9_1 : Bool, (∀ w', S2 w' -> (Instr.lookup 186 (.map m6) (.int .i64 n8) true).run prog w' = .ok (.tuple #[.agg #[.int .u8 n9_0_0, .int .i64 n9_0_1, .int .i64 n9_0_2, v9_0_3, v9_0_4], .bool b9_1]) w') /\
 alE (.cells #[.int .u8 0, .int .i64 0, .int .i64 0, .nilFunc, .nilFunc] 184) w13 fun r3 w14 =>
 ∃ S3 : World -> Prop, S3 w14 /\ (∀ u, S3 u -> S2 u) /\
 stA prog 184 (⟨r3, 0, none⟩ : Addr) #[.int .u8 n9_0_0, .int .i64 n9_0_1, .int .i64 n9_0_2, v9_0_3, v9_0_4] w14 fun w15 =>
 yX3 R (some (⟨r1, 0, none⟩ : Addr)) (some (⟨r3, 0, none⟩ : Addr)) b9_1 ds w15) /\ (
 alE (.cells #[.int .u8 0, .int .i64 0, .int .i64 0, .nilFunc, .nilFunc] 184) w12 fun r3 w16 =>
 ∃ S4 : World -> Prop, S4 w16 /\ (∀ u, S4 u -> S1 u) /\
 Calls prog 150 #[] w16 fun e w17 =>
 ∃ m6 : Option Nat, e = .returned (.map m6) /\
 ∃ S5 : World -> Prop, S5 w17 /\ (∀ u, S5 u -> S4 u) /\
 ∃ n9_0_0 : Int, ∃ n9_0_1 : Int, ∃ n9_0_2 : Int, ∃ v9_0_3 : Value, ∃ v9_0_4 : Value, ∃ b9_1 : Bool, (∀ w', S5 w' -> (Instr.lookup 186 (.map m6) (.int .i64 n8) true).run prog w' = .ok (.tuple #[.agg #[.int .u8 n9_0_0, .int .i64 n9_0_1, .int .i64 n9_0_2, v9_0_3, v9_0_4], .bool b9_1]) w') /\
 stA prog 184 (⟨r3, 0, none⟩ : Addr) #[.int .u8 n9_0_0, .int .i64 n9_0_1, .int .i64 n9_0_2, v9_0_3, v9_0_4] w17 fun w18 =>
 yX3 R (some (⟨r1, 0, none⟩ : Addr)) (some (⟨r3, 0, none⟩ : Addr)) b9_1 ds w18)
theorem F106_p : Pl prog f106 [aS 0 [.str, .int .i64, .int .i64, .bool]] xXz := fun R =>
 pc 2 (zQx [pS 1, pS 3, bS 4] (yX3 R) lf)
theorem yZn (s0_0 : ByteArray) (n0_1 n0_2 : Int) (b0_3 : Bool) (w : World) (R : Rt) (h : xXz R s0_0 n0_1 n0_2 b0_3 [] w) : Calls prog 106 #[.agg #[.string s0_0, .int .i64 n0_1, .int .i64 n0_2, .bool b0_3]] w R :=
 plC F106_p func106 h
def yKD (R : Rt) (s0 : ByteArray) (ds : Ds) (w : World) : Prop :=
 Br (!(s0.toList == (⟨#[]⟩ : ByteArray).toList)) (
 Br (decide ((s0.size : Int) <= 10)) (
 Calls prog 187 #[.string s0, .string (⟨#[65, 66, 67, 68, 69, 70, 71, 72, 73, 74, 75, 76, 77, 78, 79, 80, 81, 82, 83, 84, 85, 86, 87, 88, 89, 90, 48, 49, 50, 51, 52, 53, 54, 55, 56, 57, 95]⟩ : ByteArray)] w fun e w1 =>
 ∃ s12 : ByteArray, e = .returned (.string s12) /\
 Br (s12.toList == (⟨#[]⟩ : ByteArray).toList) (
 ∃ b17 : UInt8, 0 <= (0 : Int) /\ s0[(0 : Int).toNat]? = some b17 /\
 Br (decide ((b17.toNat : Int) >= 65)) (
 ∃ b22 : UInt8, 0 <= (0 : Int) /\ s0[(0 : Int).toNat]? = some b22 /\
 zQd prog ds w1 fun w2 =>
 R (.returned (.bool (decide ((b22.toNat : Int) <= 90)))) w2) (
 zQd prog ds w1 fun w3 =>
 R (.returned (.bool false)) w3)) (
 zQd prog ds w1 fun w4 =>
 R (.returned (.bool false)) w4)) (
 zQd prog ds w fun w5 =>
 R (.returned (.bool false)) w5)) (
 zQd prog ds w fun w6 =>
 R (.returned (.bool false)) w6)
theorem F151_p : Pl prog f151 [sS 0] yKD := fun R =>
 lf
theorem yZq (s0 : ByteArray) (w : World) (R : Rt) (h : yKD R s0 [] w) : Calls prog 151 #[.string s0] w R :=
 plC F151_p func151 h
def yYZ (R : Rt) (ds : Ds) (w : World) : Prop :=
 alE (.map #[] 0) w fun r1 w1 =>
 doE prog (Instr.mapUpdate 186 (.map (some r1)) (.int .i64 1) (.agg #[.int .u8 76, .int .i64 1, .int .i64 1, .func (.func 177) #[] #[], .func (.func 178) #[] #[]])) w1 fun w2 =>
 doE prog (Instr.mapUpdate 186 (.map (some r1)) (.int .i64 2) (.agg #[.int .u8 78, .int .i64 1, .int .i64 15, .func (.func 179) #[] #[], .func (.func 180) #[] #[]])) w2 fun w3 =>
 doE prog (Instr.mapUpdate 186 (.map (some r1)) (.int .i64 3) (.agg #[.int .u8 68, .int .i64 8, .int .i64 8, .func (.func 181) #[] #[], .func (.func 182) #[] #[]])) w3 fun w4 =>
 doE prog (Instr.mapUpdate 186 (.map (some r1)) (.int .i64 4) (.agg #[.int .u8 67, .int .i64 1, .int .i64 254, .func (.func 183) #[] #[], .func (.func 184) #[] #[]])) w4 fun w5 =>
 doE prog (Instr.mapUpdate 186 (.map (some r1)) (.int .i64 5) (.agg #[.int .u8 77, .int .i64 8, .int .i64 8, .func (.func 185) #[] #[], .func (.func 186) #[] #[]])) w5 fun w6 =>
 zQd prog ds w6 fun w7 =>
 R (.returned (.map (some r1))) w7
theorem F150_p : Pl prog f150 [] yYZ := fun R =>
 lf
theorem yXX  (w : World) (R : Rt) (h : yYZ R [] w) : Calls prog 150 #[] w R :=
 plC F150_p func150 h
def F92_1 (R : Rt) (n0 : Int) (ds : Ds) (w : World) : Prop :=
 Br (decide (n0 >= 0)) (
 zQd prog ds w fun w1 =>
 R (.returned (.bool (decide (n0 <= 2)))) w1) (
 zQd prog ds w fun w2 =>
 R (.returned (.bool false)) w2)
theorem F92_p : Pl prog f92 [iS 0] F92_1 := fun R =>
 lf
theorem yWh (n0 : Int) (w : World) (R : Rt) (h : F92_1 R n0 [] w) : Calls prog 92 #[.int .i64 n0] w R :=
 plC F92_p func92 h
def F44_1 (R : Rt) (s0_0 : ByteArray) (n0_1 n0_2 : Int) (b0_3 : Bool) (ds : Ds) (w : World) : Prop :=
 alE (.cells #[.string s0_0, .int .i64 n0_1, .int .i64 n0_2, .bool b0_3] 38) w fun r1 w1 =>
 ∃ s4, w1.cell? (⟨r1, 0, none⟩ : Addr) = some (.string s4) /\
 Calls prog 97 #[.string s4] w1 fun e w2 =>
 ∃ b5 : Bool, e = .returned (.bool b5) /\
 Br (!b5) (
 zQd prog ds w2 fun w3 =>
 R (.returned (.bool false)) w3) (
 ∃ n8, w2.cell? ((⟨r1, 0, none⟩ : Addr).add 1) = some (.int .i64 n8) /\
 Br (n8 == 1) (
 ∃ n12, w2.cell? ((⟨r1, 0, none⟩ : Addr).add 2) = some (.int .i64 n12) /\
 zQd prog ds w2 fun w4 =>
 R (.returned (.bool (n12 == 1))) w4) (
 Br (n8 == 2) (
 ∃ n17, w2.cell? ((⟨r1, 0, none⟩ : Addr).add 2) = some (.int .i64 n17) /\
 Br (decide (n17 >= 1)) (
 ∃ n21, w2.cell? ((⟨r1, 0, none⟩ : Addr).add 2) = some (.int .i64 n21) /\
 zQd prog ds w2 fun w5 =>
 R (.returned (.bool (decide (n21 <= 15)))) w5) (
 zQd prog ds w2 fun w6 =>
 R (.returned (.bool false)) w6)) (
 Br (n8 == 3) (
 Br (n8 == 3) (
 ∃ n28, w2.cell? ((⟨r1, 0, none⟩ : Addr).add 2) = some (.int .i64 n28) /\
 zQd prog ds w2 fun w7 =>
 R (.returned (.bool (n28 == 8))) w7) (
 Br (n8 == 4) (
 ∃ n33, w2.cell? ((⟨r1, 0, none⟩ : Addr).add 2) = some (.int .i64 n33) /\
 Br (decide (n33 >= 1)) (
 ∃ n37, w2.cell? ((⟨r1, 0, none⟩ : Addr).add 2) = some (.int .i64 n37) /\
 zQd prog ds w2 fun w8 =>
 R (.returned (.bool (decide (n37 <= 254)))) w8) (
 zQd prog ds w2 fun w9 =>
 R (.returned (.bool false)) w9)) (
 zQd prog ds w2 fun w10 =>
 R (.returned (.bool false)) w10))) (
 Br (n8 == 5) (
 ∃ n28, w2.cell? ((⟨r1, 0, none⟩ : Addr).add 2) = some (.int .i64 n28) /\
 zQd prog ds w2 fun w11 =>
 R (.returned (.bool (n28 == 8))) w11) (
 Br (n8 == 4) (
 ∃ n33, w2.cell? ((⟨r1, 0, none⟩ : Addr).add 2) = some (.int .i64 n33) /\
 Br (decide (n33 >= 1)) (
 ∃ n37, w2.cell? ((⟨r1, 0, none⟩ : Addr).add 2) = some (.int .i64 n37) /\
 zQd prog ds w2 fun w12 =>
 R (.returned (.bool (decide (n37 <= 254)))) w12) (
 zQd prog ds w2 fun w13 =>
 R (.returned (.bool false)) w13)) (
 zQd prog ds w2 fun w14 =>
 R (.returned (.bool false)) w14))))))
theorem F44_p : Pl prog f44 [aS 0 [.str, .int .i64, .int .i64, .bool]] F44_1 := fun R =>
 lf
theorem yJh (s0_0 : ByteArray) (n0_1 n0_2 : Int) (b0_3 : Bool) (w : World) (R : Rt) (h : F44_1 R s0_0 n0_1 n0_2 b0_3 [] w) : Calls prog 44 #[.agg #[.string s0_0, .int .i64 n0_1, .int .i64 n0_2, .bool b0_3]] w R :=
 plC F44_p func44 h
def F41_1 (R : Rt) (n0 : Int) (ds : Ds) (w : World) : Prop :=
 Br (decide (n0 >= 0)) (
 zQd prog ds w fun w1 =>
 R (.returned (.bool (decide (n0 <= 2)))) w1) (
 zQd prog ds w fun w2 =>
 R (.returned (.bool false)) w2)
theorem F41_p : Pl prog f41 [iS 0] F41_1 := fun R =>
 lf
theorem yWu (n0 : Int) (w : World) (R : Rt) (h : F41_1 R n0 [] w) : Calls prog 41 #[.int .i64 n0] w R :=
 plC F41_p func41 h
def F97_1 (R : Rt) (ds : Ds) (w : World) : Prop :=
 zQd prog ds w fun w1 =>
 R (.returned (.bool true)) w1
def zVS (R : Rt) (J1 : (Int) -> World -> Prop) (s0 : ByteArray) (n3 : Int) (ds : Ds) (w : World) : Prop :=
 J1 (IntKind.i64.wrap (n3 + 1)) w
def F97_3 (R : Rt) (J1 : (Int) -> World -> Prop) (s0 : ByteArray) (n3 : Int) (ds : Ds) (w : World) : Prop :=
 ∃ b22 : UInt8, 0 <= n3 /\ s0[n3.toNat]? = some b22 /\
 Br (decide ((b22.toNat : Int) >= 65)) (
 Br (!(decide ((b22.toNat : Int) <= 90))) (
 Br (n3 == 0) (
 zQd prog ds w fun w2 =>
 R (.returned (.bool false)) w2) (
 Br ((b22.toNat : Int) != 95) (
 Calls prog 148 #[.int .u8 (b22.toNat : Int)] w fun e w3 =>
 ∃ b39 : Bool, e = .returned (.bool b39) /\
 Br (!b39) (
 zQd prog ds w3 fun w4 =>
 R (.returned (.bool false)) w4) (
 zVS R J1 s0 n3 ds w3)) (
 zVS R J1 s0 n3 ds w))) (
 zVS R J1 s0 n3 ds w)) (
 Br (n3 == 0) (
 zQd prog ds w fun w5 =>
 R (.returned (.bool false)) w5) (
 Br ((b22.toNat : Int) != 95) (
 Calls prog 148 #[.int .u8 (b22.toNat : Int)] w fun e w6 =>
 ∃ b39 : Bool, e = .returned (.bool b39) /\
 Br (!b39) (
 zQd prog ds w6 fun w7 =>
 R (.returned (.bool false)) w7) (
 zVS R J1 s0 n3 ds w6)) (
 zVS R J1 s0 n3 ds w)))
def F97_4 (R : Rt) (J1 : (Int) -> World -> Prop) (s0 : ByteArray) (n3 : Int) (ds : Ds) (w : World) : Prop :=
 Br (decide (n3 < (s0.size : Int))) (
 F97_3 R J1 s0 n3 ds w) (
 F97_1 R ds w)
def F97_5 (R : Rt) (s0 : ByteArray) (n3 : Int) (ds : Ds) (w : World) : Prop :=
 zQD (fun (J1 : (Int) -> World -> Prop) (s : Int) (w : World) => F97_4 R J1 s0 s ds w) n3 w
def F97_7 (R : Rt) (s0 : ByteArray) (ds : Ds) (w : World) : Prop :=
 Br (decide ((s0.size : Int) < 1)) (
 zQd prog ds w fun w8 =>
 R (.returned (.bool false)) w8) (
 Br (decide ((s0.size : Int) > 10)) (
 zQd prog ds w fun w9 =>
 R (.returned (.bool false)) w9) (
 F97_5 R s0 0 ds w))
theorem F97_p : Pl prog f97 [sS 0] F97_7 := fun R =>
 pc 4 (zQx [sS 0, iS 3] (F97_5 R) (bk 0 (zQx [] (F97_1 R) lf) (lp [iS 3] [sS 0, iS 3] (F97_4 R) zXz fun J1 => pc 2 (zQx [sS 0, iS 3] (F97_3 R J1) (pc 1 (zQx [sS 0, iS 3] (zVS R J1) lf))))))
theorem yJr (s0 : ByteArray) (w : World) (R : Rt) (h : F97_7 R s0 [] w) : Calls prog 97 #[.string s0] w R :=
 plC F97_p func97 h
def xQB (R : Rt) (n0 : Int) (ds : Ds) (w : World) : Prop :=
 Br (decide (n0 >= 48)) (
 zQd prog ds w fun w1 =>
 R (.returned (.bool (decide (n0 <= 57)))) w1) (
 zQd prog ds w fun w2 =>
 R (.returned (.bool false)) w2)
theorem F148_p : Pl prog f148 [kS .u8 0] xQB := fun R =>
 lf
theorem yZE (n0 : Int) (w : World) (R : Rt) (h : xQB R n0 [] w) : Calls prog 148 #[.int .u8 n0] w R :=
 plC F148_p func148 h
def yYf (R : Rt) (s0_0 : ByteArray) (n0_1 n0_2 : Int) (b0_3 : Bool) (ds : Ds) (w : World) : Prop :=
 alE (.cells #[.string s0_0, .int .i64 n0_1, .int .i64 n0_2, .bool b0_3] 38) w fun r1 w1 =>
 alE (.cells #[.int .i64 0, .int .i64 0, .string (⟨#[]⟩ : ByteArray)] 28) w1 fun r2 w2 =>
 ∃ n4, w2.cell? ((⟨r1, 0, none⟩ : Addr).add 1) = some (.int .i64 n4) /\
 Br (n4 == 5) (
 stA prog 28 (⟨r2, 0, none⟩ : Addr) #[.int .i64 2, .int .i64 0, .string (⟨#[]⟩ : ByteArray)] w2 fun w3 =>
 zQd prog ds w3 fun w4 =>
 ∃ nR0_0, w4.cell? ((⟨r2, 0, none⟩ : Addr).add 0) = some (.int .i64 nR0_0) /\
 ∃ nR0_1, w4.cell? ((⟨r2, 0, none⟩ : Addr).add 1) = some (.int .i64 nR0_1) /\
 ∃ sR0_2, w4.cell? ((⟨r2, 0, none⟩ : Addr).add 2) = some (.string sR0_2) /\
 R (.returned (.agg #[.int .i64 nR0_0, .int .i64 nR0_1, .string sR0_2])) w4) (
 ∃ n8, w2.cell? ((⟨r1, 0, none⟩ : Addr).add 1) = some (.int .i64 n8) /\
 stA prog 28 (⟨r2, 0, none⟩ : Addr) #[.int .i64 n8, .int .i64 0, .string (⟨#[]⟩ : ByteArray)] w2 fun w5 =>
 zQd prog ds w5 fun w6 =>
 ∃ nR0_0, w6.cell? ((⟨r2, 0, none⟩ : Addr).add 0) = some (.int .i64 nR0_0) /\
 ∃ nR0_1, w6.cell? ((⟨r2, 0, none⟩ : Addr).add 1) = some (.int .i64 nR0_1) /\
 ∃ sR0_2, w6.cell? ((⟨r2, 0, none⟩ : Addr).add 2) = some (.string sR0_2) /\
 R (.returned (.agg #[.int .i64 nR0_0, .int .i64 nR0_1, .string sR0_2])) w6)
theorem F108_p : Pl prog f108 [aS 0 [.str, .int .i64, .int .i64, .bool]] yYf := fun R =>
 lf
theorem yZy (s0_0 : ByteArray) (n0_1 n0_2 : Int) (b0_3 : Bool) (w : World) (R : Rt) (h : yYf R s0_0 n0_1 n0_2 b0_3 [] w) : Calls prog 108 #[.agg #[.string s0_0, .int .i64 n0_1, .int .i64 n0_2, .bool b0_3]] w R :=
 plC F108_p func108 h
def xQN (R : Rt) (s0_0 : ByteArray) (n0_1 n0_2 : Int) (b0_3 : Bool) (ds : Ds) (w : World) : Prop :=
 alE (.cells #[.string s0_0, .int .i64 n0_1, .int .i64 n0_2, .bool b0_3] 38) w fun r1 w1 =>
 alE (.cells #[.int .i64 0, .int .i64 0, .string (⟨#[]⟩ : ByteArray)] 28) w1 fun r2 w2 =>
 ∃ n4, w2.cell? ((⟨r1, 0, none⟩ : Addr).add 1) = some (.int .i64 n4) /\
 Br (n4 == 5) (
 Calls prog 37 #[.int .i64 0] w2 fun e w3 =>
 ∃ n6_0 : Int, ∃ n6_1 : Int, ∃ s6_2 : ByteArray, e = .returned (.agg #[.int .i64 n6_0, .int .i64 n6_1, .string s6_2]) /\
 stA prog 28 (⟨r2, 0, none⟩ : Addr) #[.int .i64 n6_0, .int .i64 n6_1, .string s6_2] w3 fun w4 =>
 zQd prog ds w4 fun w5 =>
 ∃ nR0_0, w5.cell? ((⟨r2, 0, none⟩ : Addr).add 0) = some (.int .i64 nR0_0) /\
 ∃ nR0_1, w5.cell? ((⟨r2, 0, none⟩ : Addr).add 1) = some (.int .i64 nR0_1) /\
 ∃ sR0_2, w5.cell? ((⟨r2, 0, none⟩ : Addr).add 2) = some (.string sR0_2) /\
 R (.returned (.agg #[.int .i64 nR0_0, .int .i64 nR0_1, .string sR0_2])) w5) (
 ∃ n8, w2.cell? ((⟨r1, 0, none⟩ : Addr).add 1) = some (.int .i64 n8) /\
 stA prog 28 (⟨r2, 0, none⟩ : Addr) #[.int .i64 n8, .int .i64 0, .string (⟨#[]⟩ : ByteArray)] w2 fun w6 =>
 zQd prog ds w6 fun w7 =>
 ∃ nR0_0, w7.cell? ((⟨r2, 0, none⟩ : Addr).add 0) = some (.int .i64 nR0_0) /\
 ∃ nR0_1, w7.cell? ((⟨r2, 0, none⟩ : Addr).add 1) = some (.int .i64 nR0_1) /\
 ∃ sR0_2, w7.cell? ((⟨r2, 0, none⟩ : Addr).add 2) = some (.string sR0_2) /\
 R (.returned (.agg #[.int .i64 nR0_0, .int .i64 nR0_1, .string sR0_2])) w7)
theorem F163_p : Pl prog f163 [aS 0 [.str, .int .i64, .int .i64, .bool]] xQN := fun R =>
 lf
theorem yZD (s0_0 : ByteArray) (n0_1 n0_2 : Int) (b0_3 : Bool) (w : World) (R : Rt) (h : xQN R s0_0 n0_1 n0_2 b0_3 [] w) : Calls prog 163 #[.agg #[.string s0_0, .int .i64 n0_1, .int .i64 n0_2, .bool b0_3]] w R :=
 plC F163_p func163 h
end Go.Proofs.YtcihcbfcgjepfaaGreatDoor
/- Shallow texts of functions, printed by program, each checked by the kernel against the loaded code. No condition. -/
namespace Go.Proofs.YtcihcbfcgjepfaaGreatDoor
open Go.Sh Tryz
def yKZ (R : Rt) (n1 : Int) (s6 : ByteArray) (ds : Ds) (w : World) : Prop :=
 Calls prog 160 #[.string (⟨#[32]⟩ : ByteArray), .int .i64 (IntKind.i64.wrap (n1 - (s6.size : Int)))] w fun e w1 =>
 ∃ s30 : ByteArray, e = .returned (.string s30) /\
 ((s30.size + s6.size : Nat) : Int) <= 9223372036854775807 /\
 zQd prog ds w1 fun w2 =>
 R (.returned (.tuple #[.string (s30 ++ s6), .int .i64 0])) w2
def yYy (R : Rt) (n0 n1 : Int) (ds : Ds) (w : World) : Prop :=
 Calls prog 158 #[.int .i64 n0] w fun e w3 =>
 ∃ b8 : Bool, e = .returned (.bool b8) /\
 Br (!b8) (
 zQd prog ds w3 fun w4 =>
 R (.returned (.tuple #[.string (⟨#[]⟩ : ByteArray), .int .i64 1])) w4) (
 Br (decide (n1 < 1)) (
 zQd prog ds w3 fun w5 =>
 R (.returned (.tuple #[.string (⟨#[]⟩ : ByteArray), .int .i64 1])) w5) (
 Br (decide (n1 > 254)) (
 zQd prog ds w3 fun w6 =>
 R (.returned (.tuple #[.string (⟨#[]⟩ : ByteArray), .int .i64 1])) w6) (
 Calls prog 159 #[.int .i64 n0] w3 fun e w7 =>
 ∃ s19 : ByteArray, e = .returned (.string s19) /\
 Br (decide ((s19.size : Int) > n1)) (
 Calls prog 160 #[.string (⟨#[42]⟩ : ByteArray), .int .i64 n1] w7 fun e w8 =>
 ∃ s25 : ByteArray, e = .returned (.string s25) /\
 zQd prog ds w8 fun w9 =>
 R (.returned (.tuple #[.string s25, .int .i64 0])) w9) (
 yKZ R n1 s19 ds w7))))
theorem F111_p : Pl prog f111 [iS 0, iS 1] yYy := fun R =>
 pc 6 (zQx [iS 1, sS 6] (yKZ R) lf)
theorem yXG (n0 n1 : Int) (w : World) (R : Rt) (h : yYy R n0 n1 [] w) : Calls prog 111 #[.int .i64 n0, .int .i64 n1] w R :=
 plC F111_p func111 h
def xXb (R : Rt) (n0 : Int) (ds : Ds) (w : World) : Prop :=
 Br (decide (n0 < 0)) (
 Calls prog 159 #[.int .i64 (IntKind.i64.wrap (0 - n0))] w fun e w1 =>
 ∃ s8 : ByteArray, e = .returned (.string s8) /\
 (((⟨#[45]⟩ : ByteArray).size + s8.size : Nat) : Int) <= 9223372036854775807 /\
 zQd prog ds w1 fun w2 =>
 R (.returned (.string ((⟨#[45]⟩ : ByteArray) ++ s8))) w2) (
 Br (decide (n0 < 10)) (
 0 <= (IntKind.i64.wrap (n0 + 1)) /\ (IntKind.i64.wrap (n0 + 1)).toNat <= (⟨#[48, 49, 50, 51, 52, 53, 54, 55, 56, 57]⟩ : ByteArray).size /\ 0 <= n0 /\ n0.toNat <= (IntKind.i64.wrap (n0 + 1)).toNat /\
 zQd prog ds w fun w3 =>
 R (.returned (.string ((⟨#[48, 49, 50, 51, 52, 53, 54, 55, 56, 57]⟩ : ByteArray).extract n0.toNat ((IntKind.i64.wrap (n0 + 1)).toNat)))) w3) (
 dwE w fun w4 =>
 IntKind.i64 = IntKind.i64 /\ (10 : Int) ≠ 0 /\
 IntKind.i64 = IntKind.i64 /\ (10 : Int) ≠ 0 /\
 IntKind.i64 = IntKind.i64 /\ (10 : Int) ≠ 0 /\
 0 <= (IntKind.i64.wrap ((n0.tmod 10) + 1)) /\ (IntKind.i64.wrap ((n0.tmod 10) + 1)).toNat <= (⟨#[48, 49, 50, 51, 52, 53, 54, 55, 56, 57]⟩ : ByteArray).size /\ 0 <= (n0.tmod 10) /\ (n0.tmod 10).toNat <= (IntKind.i64.wrap ((n0.tmod 10) + 1)).toNat /\
 Calls prog 159 #[.int .i64 (IntKind.i64.wrap (n0.tdiv 10))] w4 fun e w5 =>
 ∃ s19 : ByteArray, e = .returned (.string s19) /\
 ((s19.size + ((⟨#[48, 49, 50, 51, 52, 53, 54, 55, 56, 57]⟩ : ByteArray).extract ((n0.tmod 10).toNat) ((IntKind.i64.wrap ((n0.tmod 10) + 1)).toNat)).size : Nat) : Int) <= 9223372036854775807 /\
 zQd prog ds w5 fun w6 =>
 R (.returned (.string (s19 ++ ((⟨#[48, 49, 50, 51, 52, 53, 54, 55, 56, 57]⟩ : ByteArray).extract ((n0.tmod 10).toNat) ((IntKind.i64.wrap ((n0.tmod 10) + 1)).toNat))))) w6))
theorem F159_p : Pl prog f159 [iS 0] xXb := fun R =>
 lf
theorem zVd (n0 : Int) (w : World) (R : Rt) (h : xXb R n0 [] w) : Calls prog 159 #[.int .i64 n0] w R :=
 plC F159_p func159 h
def yYw (R : Rt) (n0 : Int) (ds : Ds) (w : World) : Prop :=
 Br (decide (n0 < 0)) (
 Br (n0 == (-9223372036854775808)) (
 zQd prog ds w fun w1 =>
 R (.returned (.string (⟨#[45, 57, 50, 50, 51, 51, 55, 50, 48, 51, 54, 56, 53, 52, 55, 55, 53, 56, 48, 56]⟩ : ByteArray))) w1) (
 Calls prog 147 #[.int .i64 (IntKind.i64.wrap (0 - n0))] w fun e w2 =>
 ∃ s9 : ByteArray, e = .returned (.string s9) /\
 (((⟨#[45]⟩ : ByteArray).size + s9.size : Nat) : Int) <= 9223372036854775807 /\
 zQd prog ds w2 fun w3 =>
 R (.returned (.string ((⟨#[45]⟩ : ByteArray) ++ s9))) w3)) (
 Br (decide (n0 < 10)) (
 0 <= (IntKind.i64.wrap (n0 + 1)) /\ (IntKind.i64.wrap (n0 + 1)).toNat <= (⟨#[48, 49, 50, 51, 52, 53, 54, 55, 56, 57]⟩ : ByteArray).size /\ 0 <= n0 /\ n0.toNat <= (IntKind.i64.wrap (n0 + 1)).toNat /\
 zQd prog ds w fun w4 =>
 R (.returned (.string ((⟨#[48, 49, 50, 51, 52, 53, 54, 55, 56, 57]⟩ : ByteArray).extract n0.toNat ((IntKind.i64.wrap (n0 + 1)).toNat)))) w4) (
 IntKind.i64 = IntKind.i64 /\ (10 : Int) ≠ 0 /\
 Calls prog 147 #[.int .i64 (IntKind.i64.wrap (n0.tdiv 10))] w fun e w5 =>
 ∃ s19 : ByteArray, e = .returned (.string s19) /\
 IntKind.i64 = IntKind.i64 /\ (10 : Int) ≠ 0 /\
 Calls prog 147 #[.int .i64 (n0.tmod 10)] w5 fun e w6 =>
 ∃ s22 : ByteArray, e = .returned (.string s22) /\
 ((s19.size + s22.size : Nat) : Int) <= 9223372036854775807 /\
 zQd prog ds w6 fun w7 =>
 R (.returned (.string (s19 ++ s22))) w7))
theorem F147_p : Pl prog f147 [iS 0] yYw := fun R =>
 lf
theorem zV4 (n0 : Int) (w : World) (R : Rt) (h : yYw R n0 [] w) : Calls prog 147 #[.int .i64 n0] w R :=
 plC F147_p func147 h
def yJi (R : Rt) (s0 : ByteArray) (n3 : Int) (ds : Ds) (w : World) : Prop :=
 0 <= n3 /\ n3.toNat <= s0.size /\ 0 <= n3.toNat /\
 zQd prog ds w fun w1 =>
 R (.returned (.string (s0.extract 0 n3.toNat))) w1
def F99_2 (R : Rt) (J1 : (Int) -> World -> Prop) (s0 : ByteArray) (n3 : Int) (ds : Ds) (w : World) : Prop :=
 Br (decide (n3 > 0)) (
 ∃ b12 : UInt8, 0 <= (IntKind.i64.wrap (n3 - 1)) /\ s0[(IntKind.i64.wrap (n3 - 1)).toNat]? = some b12 /\
 Br ((b12.toNat : Int) == 32) (
 J1 (IntKind.i64.wrap (n3 - 1)) w) (
 yJi R s0 n3 ds w)) (
 yJi R s0 n3 ds w)
def F99_3 (R : Rt) (s0 : ByteArray) (n3 : Int) (ds : Ds) (w : World) : Prop :=
 zQD (fun (J1 : (Int) -> World -> Prop) (s : Int) (w : World) => F99_2 R J1 s0 s ds w) n3 w
def F99_5 (R : Rt) (s0 : ByteArray) (ds : Ds) (w : World) : Prop :=
 F99_3 R s0 (s0.size : Int) ds w
theorem F99_p : Pl prog f99 [sS 0] F99_5 := fun R =>
 pc 2 (zQx [sS 0, iS 3] (F99_3 R) (bk 0 (zQx [sS 0, iS 3] (yJi R) lf) (lp [iS 3] [sS 0, iS 3] (F99_2 R) zXz fun J1 => lf)))
theorem yKE (s0 : ByteArray) (w : World) (R : Rt) (h : F99_5 R s0 [] w) : Calls prog 99 #[.string s0] w R :=
 plC F99_p func99 h
def xXi (R : Rt) (s0 : ByteArray) (ds : Ds) (w : World) : Prop :=
 alE (.cells #[.int .i64 0, .int .i64 0, .string (⟨#[]⟩ : ByteArray)] 28) w fun r2 w1 =>
 stA prog 28 (⟨r2, 0, none⟩ : Addr) #[.int .i64 4, .int .i64 0, .string s0] w1 fun w2 =>
 zQd prog ds w2 fun w3 =>
 ∃ nR0_0, w3.cell? ((⟨r2, 0, none⟩ : Addr).add 0) = some (.int .i64 nR0_0) /\
 ∃ nR0_1, w3.cell? ((⟨r2, 0, none⟩ : Addr).add 1) = some (.int .i64 nR0_1) /\
 ∃ sR0_2, w3.cell? ((⟨r2, 0, none⟩ : Addr).add 2) = some (.string sR0_2) /\
 R (.returned (.agg #[.int .i64 nR0_0, .int .i64 nR0_1, .string sR0_2])) w3
theorem F101_p : Pl prog f101 [sS 0] xXi := fun R =>
 lf
theorem yZz (s0 : ByteArray) (w : World) (R : Rt) (h : xXi R s0 [] w) : Calls prog 101 #[.string s0] w R :=
 plC F101_p func101 h
end Go.Proofs.YtcihcbfcgjepfaaGreatDoor
/- Shallow texts of functions, printed by program, each checked by the kernel against the loaded code. No condition. -/
namespace Go.Proofs.YtcihcbfcgjepfaaGreatDoor
open Go.Sh Tryz
def xXa (R : Rt) (s0 : ByteArray) (n1 : Int) (ds : Ds) (w : World) : Prop :=
 Calls prog 157 #[.string s0, .int .i64 n1] w fun e w1 =>
 ∃ b10_0 : Bool, ∃ n10_1 : Int, e = .returned (.tuple #[.bool b10_0, .int .i64 n10_1]) /\
 Br b10_0 (
 zQd prog ds w1 fun w2 =>
 R (.returned (.bool (n10_1 == 0))) w2) (
 zQd prog ds w1 fun w3 =>
 R (.returned (.bool false)) w3)
theorem F110_p : Pl prog f110 [sS 0, iS 1] xXa := fun R =>
 lf
theorem yZ5 (s0 : ByteArray) (n1 : Int) (w : World) (R : Rt) (h : xXa R s0 n1 [] w) : Calls prog 110 #[.string s0, .int .i64 n1] w R :=
 plC F110_p func110 h
def xXu (R : Rt) (ds : Ds) (w : World) : Prop :=
 zQd prog ds w fun w1 =>
 R (.returned (.tuple #[.bool true, .int .i64 0])) w1
def xQj (R : Rt) (J1 : (Int) -> World -> Prop) (p7 : Option Addr) (l21 : SV) (n22 n23 : Int) (ds : Ds) (w : World) : Prop :=
 Br (decide (n23 < n22)) (
 ∃ a2, l21.a = some a2 /\ 0 <= n23 /\ n23 < (l21.len : Int) /\
 ∃ n26, w.cell? (a2.add (n23.toNat * 1)) = some (.int .u8 n26) /\
 zQi p7 fun a3 =>
 0 <= n26 /\ n26 < (256 : Int) /\
 ∃ n29, w.cell? (a3.add (n26.toNat * 1)) = some (.int .i32 n29) /\
 Br (decide (n29 < 0)) (
 zQd prog ds w fun w4 =>
 R (.returned (.tuple #[.bool false, .int .i64 0])) w4) (
 J1 (IntKind.i64.wrap (n23 + 1)) w)) (
 xXu R ds w)
def xQ6 (R : Rt) (p7 : Option Addr) (l21 : SV) (n22 n23 : Int) (ds : Ds) (w : World) : Prop :=
 zQD (fun (J1 : (Int) -> World -> Prop) (s : Int) (w : World) => xQj R J1 p7 l21 n22 s ds w) n23 w
def xQ3 (R : Rt) (s0 : ByteArray) (n1 : Int) (ds : Ds) (w : World) : Prop :=
 alE (.cells #[.string s0] 9) w fun r12 w5 =>
 Calls prog 192 #[.int .i64 n1, .slice (some ⟨r12, 0, none⟩) 1 1] w5 fun e w6 =>
 ∃ n13 : Int, e = .returned (.int .i64 n13) /\
 Br (n13 != 0) (
 zQd prog ds w6 fun w7 =>
 R (.returned (.tuple #[.bool false, .int .i64 n13])) w7) (
 Calls prog 193 #[] w6 fun e w8 =>
 ∃ c17 : Array Value, c17.size = 768 /\ e = .returned (.agg c17) /\
 ∃ c19 : Array Value, c19.size = 256 /\ ∃ w9, (Instr.index 215 (.agg c17) (.int .i64 n1)).run prog w8 = .ok (.agg c19) w9 /\
 alE (.cells (zc prog 214) 214) w9 fun r7 w10 =>
 stA prog 214 (⟨r7, 0, none⟩ : Addr) c19 w10 fun w11 =>
 ∃ l21 : SV, ∃ w12, (convert 9 217 (.string s0)).run prog w11 = .ok (.slice l21.a l21.len l21.cap) w12 /\
 xQ6 R (some (⟨r7, 0, none⟩ : Addr)) l21 (l21.len : Int) 0 ds w12)
theorem F157_p : Pl prog f157 [sS 0, iS 1] xQ3 := fun R =>
 pc 6 (zQx [pS 7, lS 21, iS 22, iS 23] (xQ6 R) (bk 0 (zQx [] (xXu R) lf) (lp [iS 23] [pS 7, lS 21, iS 22, iS 23] (xQj R) zXz fun J1 => lf)))
theorem yZJ (s0 : ByteArray) (n1 : Int) (w : World) (R : Rt) (h : xQ3 R s0 n1 [] w) : Calls prog 157 #[.string s0, .int .i64 n1] w R :=
 plC F157_p func157 h
def xQJ (R : Rt) (n0 : Int) (ds : Ds) (w : World) : Prop :=
 Br (decide (n0 < 0)) (
 zQd prog ds w fun w1 =>
 R (.returned (.int .i64 1)) w1) (
 Br (decide (n0 > 2)) (
 zQd prog ds w fun w2 =>
 R (.returned (.int .i64 1)) w2) (
 zQd prog ds w fun w3 =>
 R (.returned (.int .i64 0)) w3))
def yY2 (R : Rt) (J1 : (Int) -> World -> Prop) (n0 : Int) (l7 : SV) (n8 n9 : Int) (ds : Ds) (w : World) : Prop :=
 Br (decide (n9 < n8)) (
 ∃ a4, l7.a = some a4 /\ 0 <= n9 /\ n9 < (l7.len : Int) /\
 ∃ s12, w.cell? (a4.add (n9.toNat * 1)) = some (.string s12) /\
 Br (decide ((s12.size : Int) > 2048)) (
 zQd prog ds w fun w5 =>
 R (.returned (.int .i64 3)) w5) (
 J1 (IntKind.i64.wrap (n9 + 1)) w)) (
 xQJ R n0 ds w)
def xQm (R : Rt) (n0 : Int) (l7 : SV) (n8 n9 : Int) (ds : Ds) (w : World) : Prop :=
 zQD (fun (J1 : (Int) -> World -> Prop) (s : Int) (w : World) => yY2 R J1 n0 l7 n8 s ds w) n9 w
def xXf (R : Rt) (n0 : Int) (l1 : SV) (ds : Ds) (w : World) : Prop :=
 xQm R n0 l1 (l1.len : Int) 0 ds w
theorem F192_p : Pl prog f192 [iS 0, lS 1] xXf := fun R =>
 pc 2 (zQx [iS 0, lS 7, iS 8, iS 9] (xQm R) (bk 0 (zQx [iS 0] (xQJ R) lf) (lp [iS 9] [iS 0, lS 7, iS 8, iS 9] (yY2 R) zXz fun J1 => lf)))
theorem yZt (n0 : Int) (l1 : SV) (w : World) (R : Rt) (h : xXf R n0 l1 [] w) : Calls prog 192 #[.int .i64 n0, .slice l1.a l1.len l1.cap] w R :=
 plC F192_p func192 h
def yKB (R : Rt) (p0 p1 : Option Addr) (ds : Ds) (w : World) : Prop :=
 zQi p1 fun a1 =>
 ∃ c48 : Array Value, c48.size = 768 /\ (∀ i, i < 768 -> w.cell? (a1.add i) = c48[i]?) /\
 zQi p0 fun a2 =>
 stA prog 215 a2 c48 w fun w3 =>
 zQd prog ds w3 fun w4 =>
 zQi p0 fun a5 =>
 ∃ cR0 : Array Value, cR0.size = 768 /\ (∀ i, i < 768 -> w4.cell? (a5.add i) = cR0[i]?) /\
 R (.returned (.agg cR0)) w4
def yYX (R : Rt) (J1 : (Int) -> World -> Prop) (p0 p1 : Option Addr) (n5 : Int) (ds : Ds) (w : World) : Prop :=
 Br (decide (n5 <= 239)) (
 zQi p1 fun a6 =>
 0 <= (2 : Int) /\ (2 : Int) < (3 : Int) /\
 0 <= n5 /\ n5 < (256 : Int) /\
 st1 ((a6.add ((2 : Int).toNat * 256)).add (n5.toNat * 1)) (.int .i32 (IntKind.i32.wrap ((1088 : Int) + (IntKind.i32.wrap (IntKind.i64.wrap (n5 - 224)))))) w fun w7 =>
 J1 (IntKind.i64.wrap (n5 + 1)) w7) (
 yKB R p0 p1 ds w)
def xXe (R : Rt) (p0 p1 : Option Addr) (n5 : Int) (ds : Ds) (w : World) : Prop :=
 zQD (fun (J1 : (Int) -> World -> Prop) (s : Int) (w : World) => yYX R J1 p0 p1 s ds w) n5 w
def xQd (R : Rt) (p0 p1 : Option Addr) (ds : Ds) (w : World) : Prop :=
 xXe R p0 p1 224 ds w
def xQ5 (R : Rt) (J1 : (Int) -> World -> Prop) (p0 p1 : Option Addr) (n4 : Int) (ds : Ds) (w : World) : Prop :=
 Br (decide (n4 <= 175)) (
 zQi p1 fun a8 =>
 0 <= (2 : Int) /\ (2 : Int) < (3 : Int) /\
 0 <= n4 /\ n4 < (256 : Int) /\
 st1 ((a8.add ((2 : Int).toNat * 256)).add (n4.toNat * 1)) (.int .i32 (IntKind.i32.wrap ((1040 : Int) + (IntKind.i32.wrap (IntKind.i64.wrap (n4 - 128)))))) w fun w9 =>
 J1 (IntKind.i64.wrap (n4 + 1)) w9) (
 xQd R p0 p1 ds w)
def yYj (R : Rt) (p0 p1 : Option Addr) (n4 : Int) (ds : Ds) (w : World) : Prop :=
 zQD (fun (J1 : (Int) -> World -> Prop) (s : Int) (w : World) => xQ5 R J1 p0 p1 s ds w) n4 w
def xXj (R : Rt) (p0 p1 : Option Addr) (ds : Ds) (w : World) : Prop :=
 yYj R p0 p1 128 ds w
def yJk (R : Rt) (J1 : (Int) -> World -> Prop) (p0 p1 : Option Addr) (n6 : Int) (ds : Ds) (w : World) : Prop :=
 Br (decide (n6 < 256)) (
 zQi p1 fun a10 =>
 0 <= (1 : Int) /\ (1 : Int) < (3 : Int) /\
 0 <= n6 /\ n6 < (256 : Int) /\
 st1 ((a10.add ((1 : Int).toNat * 256)).add (n6.toNat * 1)) (.int .i32 (IntKind.i32.wrap n6)) w fun w11 =>
 Br (decide (n6 >= 128)) (
 zQi p1 fun a12 =>
 0 <= (0 : Int) /\ (0 : Int) < (3 : Int) /\
 0 <= n6 /\ n6 < (256 : Int) /\
 st1 ((a12.add ((0 : Int).toNat * 256)).add (n6.toNat * 1)) (.int .i32 (-1)) w11 fun w13 =>
 zQi p1 fun a14 =>
 0 <= (2 : Int) /\ (2 : Int) < (3 : Int) /\
 0 <= n6 /\ n6 < (256 : Int) /\
 st1 ((a14.add ((2 : Int).toNat * 256)).add (n6.toNat * 1)) (.int .i32 (-1)) w13 fun w15 =>
 J1 (IntKind.i64.wrap (n6 + 1)) w15) (
 zQi p1 fun a16 =>
 0 <= (0 : Int) /\ (0 : Int) < (3 : Int) /\
 0 <= n6 /\ n6 < (256 : Int) /\
 st1 ((a16.add ((0 : Int).toNat * 256)).add (n6.toNat * 1)) (.int .i32 (IntKind.i32.wrap n6)) w11 fun w17 =>
 zQi p1 fun a18 =>
 0 <= (2 : Int) /\ (2 : Int) < (3 : Int) /\
 0 <= n6 /\ n6 < (256 : Int) /\
 st1 ((a18.add ((2 : Int).toNat * 256)).add (n6.toNat * 1)) (.int .i32 (IntKind.i32.wrap n6)) w17 fun w19 =>
 J1 (IntKind.i64.wrap (n6 + 1)) w19)) (
 xXj R p0 p1 ds w)
def yWa (R : Rt) (p0 p1 : Option Addr) (n6 : Int) (ds : Ds) (w : World) : Prop :=
 zQD (fun (J1 : (Int) -> World -> Prop) (s : Int) (w : World) => yJk R J1 p0 p1 s ds w) n6 w
def yKF (R : Rt) (ds : Ds) (w : World) : Prop :=
 alE (.cells (zc prog 215) 215) w fun r0 w20 =>
 alE (.cells (zc prog 215) 215) w20 fun r1 w21 =>
 yWa R (some (⟨r0, 0, none⟩ : Addr)) (some (⟨r1, 0, none⟩ : Addr)) 0 ds w21
theorem F193_p : Pl prog f193 [] yKF := fun R =>
 pc 3 (zQx [pS 0, pS 1, iS 6] (yWa R) (bk 0 (zQx [pS 0, pS 1] (xXj R) (pc 1 (zQx [pS 0, pS 1, iS 4] (yYj R) (bk 2 (zQx [pS 0, pS 1] (xQd R) (pc 1 (zQx [pS 0, pS 1, iS 5] (xXe R) (bk 4 (zQx [pS 0, pS 1] (yKB R) lf) (lp [iS 5] [pS 0, pS 1, iS 5] (yYX R) zXz fun J1 => lf))))) (lp [iS 4] [pS 0, pS 1, iS 4] (xQ5 R) zXz fun J1 => lf))))) (lp [iS 6] [pS 0, pS 1, iS 6] (yJk R) zXz fun J1 => lf)))
theorem yZW  (w : World) (R : Rt) (h : yKF R [] w) : Calls prog 193 #[] w R :=
 plC F193_p func193 h
def xQ4 (R : Rt) (ds : Ds) (w : World) : Prop :=
 zQd prog ds w fun w1 =>
 R (.returned (.bool true)) w1
def xXs (R : Rt) (J1 : (Int) -> World -> Prop) (s0 : ByteArray) (n1 n5 : Int) (ds : Ds) (w : World) : Prop :=
 Br (decide (n5 < (s0.size : Int))) (
 ∃ b14 : UInt8, 0 <= n5 /\ s0[n5.toNat]? = some b14 /\
 Calls prog 149 #[.int .u8 (b14.toNat : Int), .int .i64 n1] w fun e w2 =>
 ∃ b16 : Bool, e = .returned (.bool b16) /\
 Br (!b16) (
 zQd prog ds w2 fun w3 =>
 R (.returned (.bool false)) w3) (
 J1 (IntKind.i64.wrap (n5 + 1)) w2)) (
 xQ4 R ds w)
def yYD (R : Rt) (s0 : ByteArray) (n1 n5 : Int) (ds : Ds) (w : World) : Prop :=
 zQD (fun (J1 : (Int) -> World -> Prop) (s : Int) (w : World) => xXs R J1 s0 n1 s ds w) n5 w
def xQ7 (R : Rt) (s0 : ByteArray) (n1 : Int) (ds : Ds) (w : World) : Prop :=
 yYD R s0 n1 0 ds w
theorem F100_p : Pl prog f100 [sS 0, iS 1] xQ7 := fun R =>
 pc 2 (zQx [sS 0, iS 1, iS 5] (yYD R) (bk 0 (zQx [] (xQ4 R) lf) (lp [iS 5] [sS 0, iS 1, iS 5] (xXs R) zXz fun J1 => lf)))
theorem yZO (s0 : ByteArray) (n1 : Int) (w : World) (R : Rt) (h : xQ7 R s0 n1 [] w) : Calls prog 100 #[.string s0, .int .i64 n1] w R :=
 plC F100_p func100 h
def xXd (R : Rt) (n0 n1 : Int) (ds : Ds) (w : World) : Prop :=
 Br (n1 == 0) (
 zQd prog ds w fun w1 =>
 R (.returned (.bool (decide (n0 < 128)))) w1) (
 Br (n1 == 1) (
 zQd prog ds w fun w2 =>
 R (.returned (.bool true)) w2) (
 Br (decide (n0 < 176)) (
 zQd prog ds w fun w3 =>
 R (.returned (.bool true)) w3) (
 Br (decide (n0 >= 224)) (
 zQd prog ds w fun w4 =>
 R (.returned (.bool (decide (n0 < 240)))) w4) (
 zQd prog ds w fun w5 =>
 R (.returned (.bool false)) w5))))
theorem F149_p : Pl prog f149 [kS .u8 0, iS 1] xXd := fun R =>
 lf
theorem yZu (n0 n1 : Int) (w : World) (R : Rt) (h : xXd R n0 n1 [] w) : Calls prog 149 #[.int .u8 n0, .int .i64 n1] w R :=
 plC F149_p func149 h
end Go.Proofs.YtcihcbfcgjepfaaGreatDoor
/- Shallow texts of functions, printed by program, each checked by the kernel against the loaded code. No condition. -/
namespace Go.Proofs.YtcihcbfcgjepfaaGreatDoor
open Go.Sh Tryz
def F52_1 (R : Rt) (n1 : Int) (p3 p5 p6 : Option Addr) (n42 : Int) (ds : Ds) (w : World) : Prop :=
 Br (n42 == 4) (
 zQi p5 fun a1 =>
 ∃ s46, w.cell? (a1.add 2) = some (.string s46) /\
 zQi p5 fun a2 =>
 ∃ s48, w.cell? (a2.add 2) = some (.string s48) /\
 zQi p3 fun a3 =>
 ∃ n51, w.cell? (a3.add 2) = some (.int .i64 n51) /\
 ∃ n52 : Int, ∃ w4, (Builtin.min_ #[3, 3] 3 #[.int .i64 (s48.size : Int), .int .i64 n51]).run prog w = .ok (.int .i64 n52) w4 /\
 0 <= n52 /\ n52.toNat <= s46.size /\ 0 <= n52.toNat /\
 Calls prog 109 #[.string (s46.extract 0 n52.toNat), .string (⟨#[32]⟩ : ByteArray)] w4 fun e w5 =>
 ∃ s54 : ByteArray, e = .returned (.string s54) /\
 zQi p5 fun a6 =>
 st1 (a6.add 2) (.string s54) w5 fun w7 =>
 zQi p5 fun a8 =>
 ∃ s57, w7.cell? (a8.add 2) = some (.string s57) /\
 Calls prog 110 #[.string s57, .int .i64 n1] w7 fun e w9 =>
 ∃ b59 : Bool, e = .returned (.bool b59) /\
 Br (!b59) (
 zQi p6 fun a10 =>
 stA prog 28 a10 #[.int .i64 0, .int .i64 0, .string (⟨#[]⟩ : ByteArray)] w9 fun w11 =>
 zQd prog ds w11 fun w12 =>
 zQi p6 fun a13 =>
 ∃ nR0_0, w12.cell? (a13.add 0) = some (.int .i64 nR0_0) /\
 ∃ nR0_1, w12.cell? (a13.add 1) = some (.int .i64 nR0_1) /\
 ∃ sR0_2, w12.cell? (a13.add 2) = some (.string sR0_2) /\
 R (.returned (.tuple #[.agg #[.int .i64 nR0_0, .int .i64 nR0_1, .string sR0_2], .int .i64 10])) w12) (
 zQi p5 fun a14 =>
 ∃ n90_0, w9.cell? (a14.add 0) = some (.int .i64 n90_0) /\
 ∃ n90_1, w9.cell? (a14.add 1) = some (.int .i64 n90_1) /\
 ∃ s90_2, w9.cell? (a14.add 2) = some (.string s90_2) /\
 zQi p6 fun a15 =>
 stA prog 28 a15 #[.int .i64 n90_0, .int .i64 n90_1, .string s90_2] w9 fun w16 =>
 zQd prog ds w16 fun w17 =>
 zQi p6 fun a18 =>
 ∃ nR0_0, w17.cell? (a18.add 0) = some (.int .i64 nR0_0) /\
 ∃ nR0_1, w17.cell? (a18.add 1) = some (.int .i64 nR0_1) /\
 ∃ sR0_2, w17.cell? (a18.add 2) = some (.string sR0_2) /\
 R (.returned (.tuple #[.agg #[.int .i64 nR0_0, .int .i64 nR0_1, .string sR0_2], .int .i64 0])) w17)) (
 Br (n42 == 2) (
 zQi p5 fun a19 =>
 ∃ n66, w.cell? (a19.add 1) = some (.int .i64 n66) /\
 zQi p3 fun a20 =>
 ∃ n68, w.cell? (a20.add 2) = some (.int .i64 n68) /\
 Calls prog 111 #[.int .i64 n66, .int .i64 n68] w fun e w21 =>
 ∃ s69_0 : ByteArray, ∃ n69_1 : Int, e = .returned (.tuple #[.string s69_0, .int .i64 n69_1]) /\
 Br (n69_1 != 0) (
 zQi p6 fun a22 =>
 stA prog 28 a22 #[.int .i64 0, .int .i64 0, .string (⟨#[]⟩ : ByteArray)] w21 fun w23 =>
 zQd prog ds w23 fun w24 =>
 zQi p6 fun a25 =>
 ∃ nR0_0, w24.cell? (a25.add 0) = some (.int .i64 nR0_0) /\
 ∃ nR0_1, w24.cell? (a25.add 1) = some (.int .i64 nR0_1) /\
 ∃ sR0_2, w24.cell? (a25.add 2) = some (.string sR0_2) /\
 R (.returned (.tuple #[.agg #[.int .i64 nR0_0, .int .i64 nR0_1, .string sR0_2], .int .i64 10])) w24) (
 Calls prog 112 #[.string s69_0, .string (⟨#[42]⟩ : ByteArray)] w21 fun e w26 =>
 ∃ b76 : Bool, e = .returned (.bool b76) /\
 Br b76 (
 zQi p6 fun a27 =>
 stA prog 28 a27 #[.int .i64 0, .int .i64 0, .string (⟨#[]⟩ : ByteArray)] w26 fun w28 =>
 zQd prog ds w28 fun w29 =>
 zQi p6 fun a30 =>
 ∃ nR0_0, w29.cell? (a30.add 0) = some (.int .i64 nR0_0) /\
 ∃ nR0_1, w29.cell? (a30.add 1) = some (.int .i64 nR0_1) /\
 ∃ sR0_2, w29.cell? (a30.add 2) = some (.string sR0_2) /\
 R (.returned (.tuple #[.agg #[.int .i64 nR0_0, .int .i64 nR0_1, .string sR0_2], .int .i64 10])) w29) (
 zQi p5 fun a31 =>
 ∃ n90_0, w26.cell? (a31.add 0) = some (.int .i64 n90_0) /\
 ∃ n90_1, w26.cell? (a31.add 1) = some (.int .i64 n90_1) /\
 ∃ s90_2, w26.cell? (a31.add 2) = some (.string s90_2) /\
 zQi p6 fun a32 =>
 stA prog 28 a32 #[.int .i64 n90_0, .int .i64 n90_1, .string s90_2] w26 fun w33 =>
 zQd prog ds w33 fun w34 =>
 zQi p6 fun a35 =>
 ∃ nR0_0, w34.cell? (a35.add 0) = some (.int .i64 nR0_0) /\
 ∃ nR0_1, w34.cell? (a35.add 1) = some (.int .i64 nR0_1) /\
 ∃ sR0_2, w34.cell? (a35.add 2) = some (.string sR0_2) /\
 R (.returned (.tuple #[.agg #[.int .i64 nR0_0, .int .i64 nR0_1, .string sR0_2], .int .i64 0])) w34))) (
 Br (n42 == 5) (
 zQi p5 fun a36 =>
 ∃ n82, w.cell? (a36.add 1) = some (.int .i64 n82) /\
 Br (decide (n82 < 0)) (
 zQi p6 fun a37 =>
 stA prog 28 a37 #[.int .i64 0, .int .i64 0, .string (⟨#[]⟩ : ByteArray)] w fun w38 =>
 zQd prog ds w38 fun w39 =>
 zQi p6 fun a40 =>
 ∃ nR0_0, w39.cell? (a40.add 0) = some (.int .i64 nR0_0) /\
 ∃ nR0_1, w39.cell? (a40.add 1) = some (.int .i64 nR0_1) /\
 ∃ sR0_2, w39.cell? (a40.add 2) = some (.string sR0_2) /\
 R (.returned (.tuple #[.agg #[.int .i64 nR0_0, .int .i64 nR0_1, .string sR0_2], .int .i64 10])) w39) (
 zQi p5 fun a41 =>
 ∃ n86, w.cell? (a41.add 1) = some (.int .i64 n86) /\
 Br (decide (n86 > 99999999)) (
 zQi p6 fun a42 =>
 stA prog 28 a42 #[.int .i64 0, .int .i64 0, .string (⟨#[]⟩ : ByteArray)] w fun w43 =>
 zQd prog ds w43 fun w44 =>
 zQi p6 fun a45 =>
 ∃ nR0_0, w44.cell? (a45.add 0) = some (.int .i64 nR0_0) /\
 ∃ nR0_1, w44.cell? (a45.add 1) = some (.int .i64 nR0_1) /\
 ∃ sR0_2, w44.cell? (a45.add 2) = some (.string sR0_2) /\
 R (.returned (.tuple #[.agg #[.int .i64 nR0_0, .int .i64 nR0_1, .string sR0_2], .int .i64 10])) w44) (
 zQi p5 fun a46 =>
 ∃ n90_0, w.cell? (a46.add 0) = some (.int .i64 n90_0) /\
 ∃ n90_1, w.cell? (a46.add 1) = some (.int .i64 n90_1) /\
 ∃ s90_2, w.cell? (a46.add 2) = some (.string s90_2) /\
 zQi p6 fun a47 =>
 stA prog 28 a47 #[.int .i64 n90_0, .int .i64 n90_1, .string s90_2] w fun w48 =>
 zQd prog ds w48 fun w49 =>
 zQi p6 fun a50 =>
 ∃ nR0_0, w49.cell? (a50.add 0) = some (.int .i64 nR0_0) /\
 ∃ nR0_1, w49.cell? (a50.add 1) = some (.int .i64 nR0_1) /\
 ∃ sR0_2, w49.cell? (a50.add 2) = some (.string sR0_2) /\
 R (.returned (.tuple #[.agg #[.int .i64 nR0_0, .int .i64 nR0_1, .string sR0_2], .int .i64 0])) w49))) (
 zQi p5 fun a51 =>
 ∃ n90_0, w.cell? (a51.add 0) = some (.int .i64 n90_0) /\
 ∃ n90_1, w.cell? (a51.add 1) = some (.int .i64 n90_1) /\
 ∃ s90_2, w.cell? (a51.add 2) = some (.string s90_2) /\
 zQi p6 fun a52 =>
 stA prog 28 a52 #[.int .i64 n90_0, .int .i64 n90_1, .string s90_2] w fun w53 =>
 zQd prog ds w53 fun w54 =>
 zQi p6 fun a55 =>
 ∃ nR0_0, w54.cell? (a55.add 0) = some (.int .i64 nR0_0) /\
 ∃ nR0_1, w54.cell? (a55.add 1) = some (.int .i64 nR0_1) /\
 ∃ sR0_2, w54.cell? (a55.add 2) = some (.string sR0_2) /\
 R (.returned (.tuple #[.agg #[.int .i64 nR0_0, .int .i64 nR0_1, .string sR0_2], .int .i64 0])) w54)))
def F52_2 (R : Rt) (s0_0 : ByteArray) (n0_1 n0_2 : Int) (b0_3 : Bool) (n1 n2_0 n2_1 : Int) (s2_2 : ByteArray) (ds : Ds) (w : World) : Prop :=
 alE (.cells #[.string s0_0, .int .i64 n0_1, .int .i64 n0_2, .bool b0_3] 38) w fun r3 w56 =>
 alE (.cells #[.int .i64 n2_0, .int .i64 n2_1, .string s2_2] 28) w56 fun r5 w57 =>
 alE (.cells #[.int .i64 0, .int .i64 0, .string (⟨#[]⟩ : ByteArray)] 28) w57 fun r6 w58 =>
 ∃ s11_0, w58.cell? ((⟨r3, 0, none⟩ : Addr).add 0) = some (.string s11_0) /\
 ∃ n11_1, w58.cell? ((⟨r3, 0, none⟩ : Addr).add 1) = some (.int .i64 n11_1) /\
 ∃ n11_2, w58.cell? ((⟨r3, 0, none⟩ : Addr).add 2) = some (.int .i64 n11_2) /\
 ∃ b11_3, w58.cell? ((⟨r3, 0, none⟩ : Addr).add 3) = some (.bool b11_3) /\
 Calls prog 106 #[.agg #[.string s11_0, .int .i64 n11_1, .int .i64 n11_2, .bool b11_3]] w58 fun e w59 =>
 ∃ b12 : Bool, e = .returned (.bool b12) /\
 Br (!b12) (
 stA prog 28 (⟨r6, 0, none⟩ : Addr) #[.int .i64 0, .int .i64 0, .string (⟨#[]⟩ : ByteArray)] w59 fun w60 =>
 zQd prog ds w60 fun w61 =>
 ∃ nR0_0, w61.cell? ((⟨r6, 0, none⟩ : Addr).add 0) = some (.int .i64 nR0_0) /\
 ∃ nR0_1, w61.cell? ((⟨r6, 0, none⟩ : Addr).add 1) = some (.int .i64 nR0_1) /\
 ∃ sR0_2, w61.cell? ((⟨r6, 0, none⟩ : Addr).add 2) = some (.string sR0_2) /\
 R (.returned (.tuple #[.agg #[.int .i64 nR0_0, .int .i64 nR0_1, .string sR0_2], .int .i64 1])) w61) (
 Calls prog 92 #[.int .i64 n1] w59 fun e w62 =>
 ∃ b16 : Bool, e = .returned (.bool b16) /\
 Br (!b16) (
 stA prog 28 (⟨r6, 0, none⟩ : Addr) #[.int .i64 0, .int .i64 0, .string (⟨#[]⟩ : ByteArray)] w62 fun w63 =>
 zQd prog ds w63 fun w64 =>
 ∃ nR0_0, w64.cell? ((⟨r6, 0, none⟩ : Addr).add 0) = some (.int .i64 nR0_0) /\
 ∃ nR0_1, w64.cell? ((⟨r6, 0, none⟩ : Addr).add 1) = some (.int .i64 nR0_1) /\
 ∃ sR0_2, w64.cell? ((⟨r6, 0, none⟩ : Addr).add 2) = some (.string sR0_2) /\
 R (.returned (.tuple #[.agg #[.int .i64 nR0_0, .int .i64 nR0_1, .string sR0_2], .int .i64 1])) w64) (
 ∃ n20_0, w62.cell? ((⟨r5, 0, none⟩ : Addr).add 0) = some (.int .i64 n20_0) /\
 ∃ n20_1, w62.cell? ((⟨r5, 0, none⟩ : Addr).add 1) = some (.int .i64 n20_1) /\
 ∃ s20_2, w62.cell? ((⟨r5, 0, none⟩ : Addr).add 2) = some (.string s20_2) /\
 Calls prog 107 #[.agg #[.int .i64 n20_0, .int .i64 n20_1, .string s20_2]] w62 fun e w65 =>
 ∃ n21 : Int, e = .returned (.int .i64 n21) /\
 Br (n21 != 0) (
 stA prog 28 (⟨r6, 0, none⟩ : Addr) #[.int .i64 0, .int .i64 0, .string (⟨#[]⟩ : ByteArray)] w65 fun w66 =>
 zQd prog ds w66 fun w67 =>
 ∃ nR0_0, w67.cell? ((⟨r6, 0, none⟩ : Addr).add 0) = some (.int .i64 nR0_0) /\
 ∃ nR0_1, w67.cell? ((⟨r6, 0, none⟩ : Addr).add 1) = some (.int .i64 nR0_1) /\
 ∃ sR0_2, w67.cell? ((⟨r6, 0, none⟩ : Addr).add 2) = some (.string sR0_2) /\
 R (.returned (.tuple #[.agg #[.int .i64 nR0_0, .int .i64 nR0_1, .string sR0_2], .int .i64 n21])) w67) (
 ∃ n27, w65.cell? (⟨r5, 0, none⟩ : Addr) = some (.int .i64 n27) /\
 Br (n27 == 0) (
 ∃ b30, w65.cell? ((⟨r3, 0, none⟩ : Addr).add 3) = some (.bool b30) /\
 Br (!b30) (
 stA prog 28 (⟨r6, 0, none⟩ : Addr) #[.int .i64 0, .int .i64 0, .string (⟨#[]⟩ : ByteArray)] w65 fun w68 =>
 zQd prog ds w68 fun w69 =>
 ∃ nR0_0, w69.cell? ((⟨r6, 0, none⟩ : Addr).add 0) = some (.int .i64 nR0_0) /\
 ∃ nR0_1, w69.cell? ((⟨r6, 0, none⟩ : Addr).add 1) = some (.int .i64 nR0_1) /\
 ∃ sR0_2, w69.cell? ((⟨r6, 0, none⟩ : Addr).add 2) = some (.string sR0_2) /\
 R (.returned (.tuple #[.agg #[.int .i64 nR0_0, .int .i64 nR0_1, .string sR0_2], .int .i64 7])) w69) (
 ∃ n33_0, w65.cell? ((⟨r5, 0, none⟩ : Addr).add 0) = some (.int .i64 n33_0) /\
 ∃ n33_1, w65.cell? ((⟨r5, 0, none⟩ : Addr).add 1) = some (.int .i64 n33_1) /\
 ∃ s33_2, w65.cell? ((⟨r5, 0, none⟩ : Addr).add 2) = some (.string s33_2) /\
 stA prog 28 (⟨r6, 0, none⟩ : Addr) #[.int .i64 n33_0, .int .i64 n33_1, .string s33_2] w65 fun w70 =>
 zQd prog ds w70 fun w71 =>
 ∃ nR0_0, w71.cell? ((⟨r6, 0, none⟩ : Addr).add 0) = some (.int .i64 nR0_0) /\
 ∃ nR0_1, w71.cell? ((⟨r6, 0, none⟩ : Addr).add 1) = some (.int .i64 nR0_1) /\
 ∃ sR0_2, w71.cell? ((⟨r6, 0, none⟩ : Addr).add 2) = some (.string sR0_2) /\
 R (.returned (.tuple #[.agg #[.int .i64 nR0_0, .int .i64 nR0_1, .string sR0_2], .int .i64 0])) w71)) (
 dwE w65 fun w72 =>
 ∃ S1 : World -> Prop, S1 w72 /\
 ∃ n35, (∀ w', S1 w' -> w'.cell? (⟨r5, 0, none⟩ : Addr) = some (.int .i64 n35)) /\
 ∃ s36_0, (∀ w', S1 w' -> w'.cell? ((⟨r3, 0, none⟩ : Addr).add 0) = some (.string s36_0)) /\
 ∃ n36_1, (∀ w', S1 w' -> w'.cell? ((⟨r3, 0, none⟩ : Addr).add 1) = some (.int .i64 n36_1)) /\
 ∃ n36_2, (∀ w', S1 w' -> w'.cell? ((⟨r3, 0, none⟩ : Addr).add 2) = some (.int .i64 n36_2)) /\
 ∃ b36_3, (∀ w', S1 w' -> w'.cell? ((⟨r3, 0, none⟩ : Addr).add 3) = some (.bool b36_3)) /\
 Calls prog 108 #[.agg #[.string s36_0, .int .i64 n36_1, .int .i64 n36_2, .bool b36_3]] w72 fun e w73 =>
 ∃ n37_0 : Int, ∃ n37_1 : Int, ∃ s37_2 : ByteArray, e = .returned (.agg #[.int .i64 n37_0, .int .i64 n37_1, .string s37_2]) /\
 S1 w73 /\
 Br (n35 != n37_0) (
 stA prog 28 (⟨r6, 0, none⟩ : Addr) #[.int .i64 0, .int .i64 0, .string (⟨#[]⟩ : ByteArray)] w73 fun w74 =>
 zQd prog ds w74 fun w75 =>
 ∃ nR0_0, w75.cell? ((⟨r6, 0, none⟩ : Addr).add 0) = some (.int .i64 nR0_0) /\
 ∃ nR0_1, w75.cell? ((⟨r6, 0, none⟩ : Addr).add 1) = some (.int .i64 nR0_1) /\
 ∃ sR0_2, w75.cell? ((⟨r6, 0, none⟩ : Addr).add 2) = some (.string sR0_2) /\
 R (.returned (.tuple #[.agg #[.int .i64 nR0_0, .int .i64 nR0_1, .string sR0_2], .int .i64 6])) w75) (
 ∃ n42, w73.cell? ((⟨r3, 0, none⟩ : Addr).add 1) = some (.int .i64 n42) /\
 F52_1 R n1 (some (⟨r3, 0, none⟩ : Addr)) (some (⟨r5, 0, none⟩ : Addr)) (some (⟨r6, 0, none⟩ : Addr)) n42 ds w73)))))
theorem F52_p : Pl prog f52 [aS 0 [.str, .int .i64, .int .i64, .bool], iS 1, aS 2 [.int .i64, .int .i64, .str]] F52_2 := fun R =>
 pc 11 (zQx [iS 1, pS 3, pS 5, pS 6, iS 42] (F52_1 R) lf)
theorem yJD (s0_0 : ByteArray) (n0_1 n0_2 : Int) (b0_3 : Bool) (n1 n2_0 n2_1 : Int) (s2_2 : ByteArray) (w : World) (R : Rt) (h : F52_2 R s0_0 n0_1 n0_2 b0_3 n1 n2_0 n2_1 s2_2 [] w) : Calls prog 52 #[.agg #[.string s0_0, .int .i64 n0_1, .int .i64 n0_2, .bool b0_3], .int .i64 n1, .agg #[.int .i64 n2_0, .int .i64 n2_1, .string s2_2]] w R :=
 plC F52_p func52 h
def F13_1 (R : Rt) (s0_0 : ByteArray) (n0_1 n0_2 : Int) (b0_3 : Bool) (n1 n2_0 n2_1 : Int) (s2_2 : ByteArray) (ds : Ds) (w : World) : Prop :=
 alE (.cells #[.string s0_0, .int .i64 n0_1, .int .i64 n0_2, .bool b0_3] 38) w fun r3 w1 =>
 alE (.cells #[.int .i64 n2_0, .int .i64 n2_1, .string s2_2] 28) w1 fun r5 w2 =>
 alE (.cells #[.int .i64 0, .int .i64 0, .string (⟨#[]⟩ : ByteArray)] 28) w2 fun r6 w3 =>
 ∃ s9_0, w3.cell? ((⟨r3, 0, none⟩ : Addr).add 0) = some (.string s9_0) /\
 ∃ n9_1, w3.cell? ((⟨r3, 0, none⟩ : Addr).add 1) = some (.int .i64 n9_1) /\
 ∃ n9_2, w3.cell? ((⟨r3, 0, none⟩ : Addr).add 2) = some (.int .i64 n9_2) /\
 ∃ b9_3, w3.cell? ((⟨r3, 0, none⟩ : Addr).add 3) = some (.bool b9_3) /\
 Calls prog 44 #[.agg #[.string s9_0, .int .i64 n9_1, .int .i64 n9_2, .bool b9_3]] w3 fun e w4 =>
 ∃ b10 : Bool, e = .returned (.bool b10) /\
 Br (!b10) (
 stA prog 28 (⟨r6, 0, none⟩ : Addr) #[.int .i64 0, .int .i64 0, .string (⟨#[]⟩ : ByteArray)] w4 fun w5 =>
 zQd prog ds w5 fun w6 =>
 ∃ nR0_0, w6.cell? ((⟨r6, 0, none⟩ : Addr).add 0) = some (.int .i64 nR0_0) /\
 ∃ nR0_1, w6.cell? ((⟨r6, 0, none⟩ : Addr).add 1) = some (.int .i64 nR0_1) /\
 ∃ sR0_2, w6.cell? ((⟨r6, 0, none⟩ : Addr).add 2) = some (.string sR0_2) /\
 R (.returned (.tuple #[.agg #[.int .i64 nR0_0, .int .i64 nR0_1, .string sR0_2], .int .i64 1])) w6) (
 Calls prog 41 #[.int .i64 n1] w4 fun e w7 =>
 ∃ b14 : Bool, e = .returned (.bool b14) /\
 Br (!b14) (
 stA prog 28 (⟨r6, 0, none⟩ : Addr) #[.int .i64 0, .int .i64 0, .string (⟨#[]⟩ : ByteArray)] w7 fun w8 =>
 zQd prog ds w8 fun w9 =>
 ∃ nR0_0, w9.cell? ((⟨r6, 0, none⟩ : Addr).add 0) = some (.int .i64 nR0_0) /\
 ∃ nR0_1, w9.cell? ((⟨r6, 0, none⟩ : Addr).add 1) = some (.int .i64 nR0_1) /\
 ∃ sR0_2, w9.cell? ((⟨r6, 0, none⟩ : Addr).add 2) = some (.string sR0_2) /\
 R (.returned (.tuple #[.agg #[.int .i64 nR0_0, .int .i64 nR0_1, .string sR0_2], .int .i64 1])) w9) (
 ∃ n18_0, w7.cell? ((⟨r5, 0, none⟩ : Addr).add 0) = some (.int .i64 n18_0) /\
 ∃ n18_1, w7.cell? ((⟨r5, 0, none⟩ : Addr).add 1) = some (.int .i64 n18_1) /\
 ∃ s18_2, w7.cell? ((⟨r5, 0, none⟩ : Addr).add 2) = some (.string s18_2) /\
 Calls prog 45 #[.agg #[.int .i64 n18_0, .int .i64 n18_1, .string s18_2]] w7 fun e w10 =>
 ∃ n19 : Int, e = .returned (.int .i64 n19) /\
 Br (n19 != 0) (
 stA prog 28 (⟨r6, 0, none⟩ : Addr) #[.int .i64 0, .int .i64 0, .string (⟨#[]⟩ : ByteArray)] w10 fun w11 =>
 zQd prog ds w11 fun w12 =>
 ∃ nR0_0, w12.cell? ((⟨r6, 0, none⟩ : Addr).add 0) = some (.int .i64 nR0_0) /\
 ∃ nR0_1, w12.cell? ((⟨r6, 0, none⟩ : Addr).add 1) = some (.int .i64 nR0_1) /\
 ∃ sR0_2, w12.cell? ((⟨r6, 0, none⟩ : Addr).add 2) = some (.string sR0_2) /\
 R (.returned (.tuple #[.agg #[.int .i64 nR0_0, .int .i64 nR0_1, .string sR0_2], .int .i64 n19])) w12) (
 ∃ s24_0, w10.cell? ((⟨r3, 0, none⟩ : Addr).add 0) = some (.string s24_0) /\
 ∃ n24_1, w10.cell? ((⟨r3, 0, none⟩ : Addr).add 1) = some (.int .i64 n24_1) /\
 ∃ n24_2, w10.cell? ((⟨r3, 0, none⟩ : Addr).add 2) = some (.int .i64 n24_2) /\
 ∃ b24_3, w10.cell? ((⟨r3, 0, none⟩ : Addr).add 3) = some (.bool b24_3) /\
 ∃ n26_0, w10.cell? ((⟨r5, 0, none⟩ : Addr).add 0) = some (.int .i64 n26_0) /\
 ∃ n26_1, w10.cell? ((⟨r5, 0, none⟩ : Addr).add 1) = some (.int .i64 n26_1) /\
 ∃ s26_2, w10.cell? ((⟨r5, 0, none⟩ : Addr).add 2) = some (.string s26_2) /\
 Calls prog 46 #[.agg #[.string s24_0, .int .i64 n24_1, .int .i64 n24_2, .bool b24_3], .int .i64 n1, .agg #[.int .i64 n26_0, .int .i64 n26_1, .string s26_2]] w10 fun e w13 =>
 ∃ n27_0_0 : Int, ∃ n27_0_1 : Int, ∃ s27_0_2 : ByteArray, ∃ n27_1 : Int, e = .returned (.tuple #[.agg #[.int .i64 n27_0_0, .int .i64 n27_0_1, .string s27_0_2], .int .i64 n27_1]) /\
 stA prog 28 (⟨r6, 0, none⟩ : Addr) #[.int .i64 n27_0_0, .int .i64 n27_0_1, .string s27_0_2] w13 fun w14 =>
 zQd prog ds w14 fun w15 =>
 ∃ nR0_0, w15.cell? ((⟨r6, 0, none⟩ : Addr).add 0) = some (.int .i64 nR0_0) /\
 ∃ nR0_1, w15.cell? ((⟨r6, 0, none⟩ : Addr).add 1) = some (.int .i64 nR0_1) /\
 ∃ sR0_2, w15.cell? ((⟨r6, 0, none⟩ : Addr).add 2) = some (.string sR0_2) /\
 R (.returned (.tuple #[.agg #[.int .i64 nR0_0, .int .i64 nR0_1, .string sR0_2], .int .i64 n27_1])) w15)))
theorem F13_p : Pl prog f13 [aS 0 [.str, .int .i64, .int .i64, .bool], iS 1, aS 2 [.int .i64, .int .i64, .str]] F13_1 := fun R =>
 lf
theorem yJL (s0_0 : ByteArray) (n0_1 n0_2 : Int) (b0_3 : Bool) (n1 n2_0 n2_1 : Int) (s2_2 : ByteArray) (w : World) (R : Rt) (h : F13_1 R s0_0 n0_1 n0_2 b0_3 n1 n2_0 n2_1 s2_2 [] w) : Calls prog 13 #[.agg #[.string s0_0, .int .i64 n0_1, .int .i64 n0_2, .bool b0_3], .int .i64 n1, .agg #[.int .i64 n2_0, .int .i64 n2_1, .string s2_2]] w R :=
 plC F13_p func13 h
def F46_1 (R : Rt) (s0_0 : ByteArray) (n0_1 n0_2 : Int) (b0_3 : Bool) (n1 n2_0 n2_1 : Int) (s2_2 : ByteArray) (ds : Ds) (w : World) : Prop :=
 alE (.cells #[.string s0_0, .int .i64 n0_1, .int .i64 n0_2, .bool b0_3] 38) w fun r3 w1 =>
 alE (.cells #[.int .i64 n2_0, .int .i64 n2_1, .string s2_2] 28) w1 fun r5 w2 =>
 alE (.cells #[.int .i64 0, .int .i64 0, .string (⟨#[]⟩ : ByteArray)] 28) w2 fun r6 w3 =>
 ∃ n11, w3.cell? (⟨r5, 0, none⟩ : Addr) = some (.int .i64 n11) /\
 Br (n11 == 0) (
 ∃ b14, w3.cell? ((⟨r3, 0, none⟩ : Addr).add 3) = some (.bool b14) /\
 Br (!b14) (
 stA prog 28 (⟨r6, 0, none⟩ : Addr) #[.int .i64 0, .int .i64 0, .string (⟨#[]⟩ : ByteArray)] w3 fun w4 =>
 zQd prog ds w4 fun w5 =>
 ∃ nR0_0, w5.cell? ((⟨r6, 0, none⟩ : Addr).add 0) = some (.int .i64 nR0_0) /\
 ∃ nR0_1, w5.cell? ((⟨r6, 0, none⟩ : Addr).add 1) = some (.int .i64 nR0_1) /\
 ∃ sR0_2, w5.cell? ((⟨r6, 0, none⟩ : Addr).add 2) = some (.string sR0_2) /\
 R (.returned (.tuple #[.agg #[.int .i64 nR0_0, .int .i64 nR0_1, .string sR0_2], .int .i64 7])) w5) (
 ∃ n17_0, w3.cell? ((⟨r5, 0, none⟩ : Addr).add 0) = some (.int .i64 n17_0) /\
 ∃ n17_1, w3.cell? ((⟨r5, 0, none⟩ : Addr).add 1) = some (.int .i64 n17_1) /\
 ∃ s17_2, w3.cell? ((⟨r5, 0, none⟩ : Addr).add 2) = some (.string s17_2) /\
 stA prog 28 (⟨r6, 0, none⟩ : Addr) #[.int .i64 n17_0, .int .i64 n17_1, .string s17_2] w3 fun w6 =>
 zQd prog ds w6 fun w7 =>
 ∃ nR0_0, w7.cell? ((⟨r6, 0, none⟩ : Addr).add 0) = some (.int .i64 nR0_0) /\
 ∃ nR0_1, w7.cell? ((⟨r6, 0, none⟩ : Addr).add 1) = some (.int .i64 nR0_1) /\
 ∃ sR0_2, w7.cell? ((⟨r6, 0, none⟩ : Addr).add 2) = some (.string sR0_2) /\
 R (.returned (.tuple #[.agg #[.int .i64 nR0_0, .int .i64 nR0_1, .string sR0_2], .int .i64 0])) w7)) (
 ∃ n19, w3.cell? ((⟨r3, 0, none⟩ : Addr).add 1) = some (.int .i64 n19) /\
 Br (n19 == 5) (
 ∃ n23, w3.cell? (⟨r5, 0, none⟩ : Addr) = some (.int .i64 n23) /\
 Br (n23 != 2) (
 stA prog 28 (⟨r6, 0, none⟩ : Addr) #[.int .i64 0, .int .i64 0, .string (⟨#[]⟩ : ByteArray)] w3 fun w8 =>
 zQd prog ds w8 fun w9 =>
 ∃ nR0_0, w9.cell? ((⟨r6, 0, none⟩ : Addr).add 0) = some (.int .i64 nR0_0) /\
 ∃ nR0_1, w9.cell? ((⟨r6, 0, none⟩ : Addr).add 1) = some (.int .i64 nR0_1) /\
 ∃ sR0_2, w9.cell? ((⟨r6, 0, none⟩ : Addr).add 2) = some (.string sR0_2) /\
 R (.returned (.tuple #[.agg #[.int .i64 nR0_0, .int .i64 nR0_1, .string sR0_2], .int .i64 6])) w9) (
 ∃ n28, w3.cell? ((⟨r3, 0, none⟩ : Addr).add 1) = some (.int .i64 n28) /\
 Br (n28 == 4) (
 ∃ s31, w3.cell? ((⟨r5, 0, none⟩ : Addr).add 2) = some (.string s31) /\
 ∃ s33, w3.cell? ((⟨r5, 0, none⟩ : Addr).add 2) = some (.string s33) /\
 ∃ n36, w3.cell? ((⟨r3, 0, none⟩ : Addr).add 2) = some (.int .i64 n36) /\
 ∃ n37 : Int, ∃ w10, (Builtin.min_ #[3, 3] 3 #[.int .i64 (s33.size : Int), .int .i64 n36]).run prog w3 = .ok (.int .i64 n37) w10 /\
 0 <= n37 /\ n37.toNat <= s31.size /\ 0 <= n37.toNat /\
 Calls prog 99 #[.string (s31.extract 0 n37.toNat)] w10 fun e w11 =>
 ∃ s39 : ByteArray, e = .returned (.string s39) /\
 Calls prog 100 #[.string s39, .int .i64 n1] w11 fun e w12 =>
 ∃ b42 : Bool, e = .returned (.bool b42) /\
 Br (!b42) (
 stA prog 28 (⟨r6, 0, none⟩ : Addr) #[.int .i64 0, .int .i64 0, .string (⟨#[]⟩ : ByteArray)] w12 fun w13 =>
 zQd prog ds w13 fun w14 =>
 ∃ nR0_0, w14.cell? ((⟨r6, 0, none⟩ : Addr).add 0) = some (.int .i64 nR0_0) /\
 ∃ nR0_1, w14.cell? ((⟨r6, 0, none⟩ : Addr).add 1) = some (.int .i64 nR0_1) /\
 ∃ sR0_2, w14.cell? ((⟨r6, 0, none⟩ : Addr).add 2) = some (.string sR0_2) /\
 R (.returned (.tuple #[.agg #[.int .i64 nR0_0, .int .i64 nR0_1, .string sR0_2], .int .i64 10])) w14) (
 Calls prog 101 #[.string s39] w12 fun e w15 =>
 ∃ n46_0 : Int, ∃ n46_1 : Int, ∃ s46_2 : ByteArray, e = .returned (.agg #[.int .i64 n46_0, .int .i64 n46_1, .string s46_2]) /\
 stA prog 28 (⟨r6, 0, none⟩ : Addr) #[.int .i64 n46_0, .int .i64 n46_1, .string s46_2] w15 fun w16 =>
 zQd prog ds w16 fun w17 =>
 ∃ nR0_0, w17.cell? ((⟨r6, 0, none⟩ : Addr).add 0) = some (.int .i64 nR0_0) /\
 ∃ nR0_1, w17.cell? ((⟨r6, 0, none⟩ : Addr).add 1) = some (.int .i64 nR0_1) /\
 ∃ sR0_2, w17.cell? ((⟨r6, 0, none⟩ : Addr).add 2) = some (.string sR0_2) /\
 R (.returned (.tuple #[.agg #[.int .i64 nR0_0, .int .i64 nR0_1, .string sR0_2], .int .i64 0])) w17)) (
 ∃ s47_0, w3.cell? ((⟨r3, 0, none⟩ : Addr).add 0) = some (.string s47_0) /\
 ∃ n47_1, w3.cell? ((⟨r3, 0, none⟩ : Addr).add 1) = some (.int .i64 n47_1) /\
 ∃ n47_2, w3.cell? ((⟨r3, 0, none⟩ : Addr).add 2) = some (.int .i64 n47_2) /\
 ∃ b47_3, w3.cell? ((⟨r3, 0, none⟩ : Addr).add 3) = some (.bool b47_3) /\
 ∃ n49_0, w3.cell? ((⟨r5, 0, none⟩ : Addr).add 0) = some (.int .i64 n49_0) /\
 ∃ n49_1, w3.cell? ((⟨r5, 0, none⟩ : Addr).add 1) = some (.int .i64 n49_1) /\
 ∃ s49_2, w3.cell? ((⟨r5, 0, none⟩ : Addr).add 2) = some (.string s49_2) /\
 Calls prog 96 #[.agg #[.string s47_0, .int .i64 n47_1, .int .i64 n47_2, .bool b47_3], .int .i64 n1, .agg #[.int .i64 n49_0, .int .i64 n49_1, .string s49_2]] w3 fun e w18 =>
 ∃ b50 : Bool, e = .returned (.bool b50) /\
 Br (!b50) (
 stA prog 28 (⟨r6, 0, none⟩ : Addr) #[.int .i64 0, .int .i64 0, .string (⟨#[]⟩ : ByteArray)] w18 fun w19 =>
 zQd prog ds w19 fun w20 =>
 ∃ nR0_0, w20.cell? ((⟨r6, 0, none⟩ : Addr).add 0) = some (.int .i64 nR0_0) /\
 ∃ nR0_1, w20.cell? ((⟨r6, 0, none⟩ : Addr).add 1) = some (.int .i64 nR0_1) /\
 ∃ sR0_2, w20.cell? ((⟨r6, 0, none⟩ : Addr).add 2) = some (.string sR0_2) /\
 R (.returned (.tuple #[.agg #[.int .i64 nR0_0, .int .i64 nR0_1, .string sR0_2], .int .i64 10])) w20) (
 ∃ n53_0, w18.cell? ((⟨r5, 0, none⟩ : Addr).add 0) = some (.int .i64 n53_0) /\
 ∃ n53_1, w18.cell? ((⟨r5, 0, none⟩ : Addr).add 1) = some (.int .i64 n53_1) /\
 ∃ s53_2, w18.cell? ((⟨r5, 0, none⟩ : Addr).add 2) = some (.string s53_2) /\
 stA prog 28 (⟨r6, 0, none⟩ : Addr) #[.int .i64 n53_0, .int .i64 n53_1, .string s53_2] w18 fun w21 =>
 zQd prog ds w21 fun w22 =>
 ∃ nR0_0, w22.cell? ((⟨r6, 0, none⟩ : Addr).add 0) = some (.int .i64 nR0_0) /\
 ∃ nR0_1, w22.cell? ((⟨r6, 0, none⟩ : Addr).add 1) = some (.int .i64 nR0_1) /\
 ∃ sR0_2, w22.cell? ((⟨r6, 0, none⟩ : Addr).add 2) = some (.string sR0_2) /\
 R (.returned (.tuple #[.agg #[.int .i64 nR0_0, .int .i64 nR0_1, .string sR0_2], .int .i64 0])) w22)))) (
 ∃ n23, w3.cell? (⟨r5, 0, none⟩ : Addr) = some (.int .i64 n23) /\
 Br (n23 != n19) (
 stA prog 28 (⟨r6, 0, none⟩ : Addr) #[.int .i64 0, .int .i64 0, .string (⟨#[]⟩ : ByteArray)] w3 fun w23 =>
 zQd prog ds w23 fun w24 =>
 ∃ nR0_0, w24.cell? ((⟨r6, 0, none⟩ : Addr).add 0) = some (.int .i64 nR0_0) /\
 ∃ nR0_1, w24.cell? ((⟨r6, 0, none⟩ : Addr).add 1) = some (.int .i64 nR0_1) /\
 ∃ sR0_2, w24.cell? ((⟨r6, 0, none⟩ : Addr).add 2) = some (.string sR0_2) /\
 R (.returned (.tuple #[.agg #[.int .i64 nR0_0, .int .i64 nR0_1, .string sR0_2], .int .i64 6])) w24) (
 ∃ n28, w3.cell? ((⟨r3, 0, none⟩ : Addr).add 1) = some (.int .i64 n28) /\
 Br (n28 == 4) (
 ∃ s31, w3.cell? ((⟨r5, 0, none⟩ : Addr).add 2) = some (.string s31) /\
 ∃ s33, w3.cell? ((⟨r5, 0, none⟩ : Addr).add 2) = some (.string s33) /\
 ∃ n36, w3.cell? ((⟨r3, 0, none⟩ : Addr).add 2) = some (.int .i64 n36) /\
 ∃ n37 : Int, ∃ w25, (Builtin.min_ #[3, 3] 3 #[.int .i64 (s33.size : Int), .int .i64 n36]).run prog w3 = .ok (.int .i64 n37) w25 /\
 0 <= n37 /\ n37.toNat <= s31.size /\ 0 <= n37.toNat /\
 Calls prog 99 #[.string (s31.extract 0 n37.toNat)] w25 fun e w26 =>
 ∃ s39 : ByteArray, e = .returned (.string s39) /\
 Calls prog 100 #[.string s39, .int .i64 n1] w26 fun e w27 =>
 ∃ b42 : Bool, e = .returned (.bool b42) /\
 Br (!b42) (
 stA prog 28 (⟨r6, 0, none⟩ : Addr) #[.int .i64 0, .int .i64 0, .string (⟨#[]⟩ : ByteArray)] w27 fun w28 =>
 zQd prog ds w28 fun w29 =>
 ∃ nR0_0, w29.cell? ((⟨r6, 0, none⟩ : Addr).add 0) = some (.int .i64 nR0_0) /\
 ∃ nR0_1, w29.cell? ((⟨r6, 0, none⟩ : Addr).add 1) = some (.int .i64 nR0_1) /\
 ∃ sR0_2, w29.cell? ((⟨r6, 0, none⟩ : Addr).add 2) = some (.string sR0_2) /\
 R (.returned (.tuple #[.agg #[.int .i64 nR0_0, .int .i64 nR0_1, .string sR0_2], .int .i64 10])) w29) (
 Calls prog 101 #[.string s39] w27 fun e w30 =>
 ∃ n46_0 : Int, ∃ n46_1 : Int, ∃ s46_2 : ByteArray, e = .returned (.agg #[.int .i64 n46_0, .int .i64 n46_1, .string s46_2]) /\
 stA prog 28 (⟨r6, 0, none⟩ : Addr) #[.int .i64 n46_0, .int .i64 n46_1, .string s46_2] w30 fun w31 =>
 zQd prog ds w31 fun w32 =>
 ∃ nR0_0, w32.cell? ((⟨r6, 0, none⟩ : Addr).add 0) = some (.int .i64 nR0_0) /\
 ∃ nR0_1, w32.cell? ((⟨r6, 0, none⟩ : Addr).add 1) = some (.int .i64 nR0_1) /\
 ∃ sR0_2, w32.cell? ((⟨r6, 0, none⟩ : Addr).add 2) = some (.string sR0_2) /\
 R (.returned (.tuple #[.agg #[.int .i64 nR0_0, .int .i64 nR0_1, .string sR0_2], .int .i64 0])) w32)) (
 ∃ s47_0, w3.cell? ((⟨r3, 0, none⟩ : Addr).add 0) = some (.string s47_0) /\
 ∃ n47_1, w3.cell? ((⟨r3, 0, none⟩ : Addr).add 1) = some (.int .i64 n47_1) /\
 ∃ n47_2, w3.cell? ((⟨r3, 0, none⟩ : Addr).add 2) = some (.int .i64 n47_2) /\
 ∃ b47_3, w3.cell? ((⟨r3, 0, none⟩ : Addr).add 3) = some (.bool b47_3) /\
 ∃ n49_0, w3.cell? ((⟨r5, 0, none⟩ : Addr).add 0) = some (.int .i64 n49_0) /\
 ∃ n49_1, w3.cell? ((⟨r5, 0, none⟩ : Addr).add 1) = some (.int .i64 n49_1) /\
 ∃ s49_2, w3.cell? ((⟨r5, 0, none⟩ : Addr).add 2) = some (.string s49_2) /\
 Calls prog 96 #[.agg #[.string s47_0, .int .i64 n47_1, .int .i64 n47_2, .bool b47_3], .int .i64 n1, .agg #[.int .i64 n49_0, .int .i64 n49_1, .string s49_2]] w3 fun e w33 =>
 ∃ b50 : Bool, e = .returned (.bool b50) /\
 Br (!b50) (
 stA prog 28 (⟨r6, 0, none⟩ : Addr) #[.int .i64 0, .int .i64 0, .string (⟨#[]⟩ : ByteArray)] w33 fun w34 =>
 zQd prog ds w34 fun w35 =>
 ∃ nR0_0, w35.cell? ((⟨r6, 0, none⟩ : Addr).add 0) = some (.int .i64 nR0_0) /\
 ∃ nR0_1, w35.cell? ((⟨r6, 0, none⟩ : Addr).add 1) = some (.int .i64 nR0_1) /\
 ∃ sR0_2, w35.cell? ((⟨r6, 0, none⟩ : Addr).add 2) = some (.string sR0_2) /\
 R (.returned (.tuple #[.agg #[.int .i64 nR0_0, .int .i64 nR0_1, .string sR0_2], .int .i64 10])) w35) (
 ∃ n53_0, w33.cell? ((⟨r5, 0, none⟩ : Addr).add 0) = some (.int .i64 n53_0) /\
 ∃ n53_1, w33.cell? ((⟨r5, 0, none⟩ : Addr).add 1) = some (.int .i64 n53_1) /\
 ∃ s53_2, w33.cell? ((⟨r5, 0, none⟩ : Addr).add 2) = some (.string s53_2) /\
 stA prog 28 (⟨r6, 0, none⟩ : Addr) #[.int .i64 n53_0, .int .i64 n53_1, .string s53_2] w33 fun w36 =>
 zQd prog ds w36 fun w37 =>
 ∃ nR0_0, w37.cell? ((⟨r6, 0, none⟩ : Addr).add 0) = some (.int .i64 nR0_0) /\
 ∃ nR0_1, w37.cell? ((⟨r6, 0, none⟩ : Addr).add 1) = some (.int .i64 nR0_1) /\
 ∃ sR0_2, w37.cell? ((⟨r6, 0, none⟩ : Addr).add 2) = some (.string sR0_2) /\
 R (.returned (.tuple #[.agg #[.int .i64 nR0_0, .int .i64 nR0_1, .string sR0_2], .int .i64 0])) w37)))))
theorem F46_p : Pl prog f46 [aS 0 [.str, .int .i64, .int .i64, .bool], iS 1, aS 2 [.int .i64, .int .i64, .str]] F46_1 := fun R =>
 lf
theorem yJJ (s0_0 : ByteArray) (n0_1 n0_2 : Int) (b0_3 : Bool) (n1 n2_0 n2_1 : Int) (s2_2 : ByteArray) (w : World) (R : Rt) (h : F46_1 R s0_0 n0_1 n0_2 b0_3 n1 n2_0 n2_1 s2_2 [] w) : Calls prog 46 #[.agg #[.string s0_0, .int .i64 n0_1, .int .i64 n0_2, .bool b0_3], .int .i64 n1, .agg #[.int .i64 n2_0, .int .i64 n2_1, .string s2_2]] w R :=
 plC F46_p func46 h
def F96_1 (R : Rt) (s0_0 : ByteArray) (n0_1 n0_2 : Int) (b0_3 : Bool) (n1 n2_0 n2_1 : Int) (s2_2 : ByteArray) (ds : Ds) (w : World) : Prop :=
 alE (.cells #[.string s0_0, .int .i64 n0_1, .int .i64 n0_2, .bool b0_3] 38) w fun r3 w1 =>
 alE (.cells #[.int .i64 n2_0, .int .i64 n2_1, .string s2_2] 28) w1 fun r5 w2 =>
 ∃ n7_0, w2.cell? ((⟨r5, 0, none⟩ : Addr).add 0) = some (.int .i64 n7_0) /\
 ∃ n7_1, w2.cell? ((⟨r5, 0, none⟩ : Addr).add 1) = some (.int .i64 n7_1) /\
 ∃ s7_2, w2.cell? ((⟨r5, 0, none⟩ : Addr).add 2) = some (.string s7_2) /\
 Calls prog 45 #[.agg #[.int .i64 n7_0, .int .i64 n7_1, .string s7_2]] w2 fun e w3 =>
 ∃ n8 : Int, e = .returned (.int .i64 n8) /\
 Br (n8 != 0) (
 zQd prog ds w3 fun w4 =>
 R (.returned (.bool false)) w4) (
 ∃ n12, w3.cell? (⟨r5, 0, none⟩ : Addr) = some (.int .i64 n12) /\
 Br (n12 == 0) (
 ∃ b15, w3.cell? ((⟨r3, 0, none⟩ : Addr).add 3) = some (.bool b15) /\
 zQd prog ds w3 fun w5 =>
 R (.returned (.bool b15)) w5) (
 ∃ n18, w3.cell? ((⟨r3, 0, none⟩ : Addr).add 1) = some (.int .i64 n18) /\
 Br (n18 == 5) (
 ∃ n21, w3.cell? (⟨r5, 0, none⟩ : Addr) = some (.int .i64 n21) /\
 Br (n21 == 2) (
 ∃ n25, w3.cell? ((⟨r5, 0, none⟩ : Addr).add 1) = some (.int .i64 n25) /\
 Calls prog 146 #[.int .i64 n25] w3 fun e w6 =>
 ∃ b26 : Bool, e = .returned (.bool b26) /\
 zQd prog ds w6 fun w7 =>
 R (.returned (.bool b26)) w7) (
 zQd prog ds w3 fun w8 =>
 R (.returned (.bool false)) w8)) (
 ∃ n30, w3.cell? (⟨r5, 0, none⟩ : Addr) = some (.int .i64 n30) /\
 ∃ n32, w3.cell? ((⟨r3, 0, none⟩ : Addr).add 1) = some (.int .i64 n32) /\
 Br (n30 != n32) (
 zQd prog ds w3 fun w9 =>
 R (.returned (.bool false)) w9) (
 ∃ n36, w3.cell? ((⟨r3, 0, none⟩ : Addr).add 1) = some (.int .i64 n36) /\
 Br (n36 == 2) (
 dwE w3 fun w10 =>
 ∃ S1 : World -> Prop, S1 w10 /\
 ∃ n39, (∀ w', S1 w' -> w'.cell? ((⟨r5, 0, none⟩ : Addr).add 1) = some (.int .i64 n39)) /\
 ∃ n43, (∀ w', S1 w' -> w'.cell? ((⟨r3, 0, none⟩ : Addr).add 2) = some (.int .i64 n43)) /\
 Calls prog 147 #[.int .i64 n39] w10 fun e w11 =>
 ∃ s40 : ByteArray, e = .returned (.string s40) /\
 S1 w11 /\
 zQd prog ds w11 fun w12 =>
 R (.returned (.bool (decide ((s40.size : Int) <= n43)))) w12) (
 ∃ n47, w3.cell? ((⟨r3, 0, none⟩ : Addr).add 1) = some (.int .i64 n47) /\
 Br (n47 == 4) (
 dwE w3 fun w13 =>
 ∃ S2 : World -> Prop, S2 w13 /\
 ∃ s50, (∀ w', S2 w' -> w'.cell? ((⟨r5, 0, none⟩ : Addr).add 2) = some (.string s50)) /\
 ∃ n53, (∀ w', S2 w' -> w'.cell? ((⟨r3, 0, none⟩ : Addr).add 2) = some (.int .i64 n53)) /\
 Br (decide ((s50.size : Int) <= n53)) (
 ∃ s57, (∀ w', S2 w' -> w'.cell? ((⟨r5, 0, none⟩ : Addr).add 2) = some (.string s57)) /\
 ∃ s60, (∀ w', S2 w' -> w'.cell? ((⟨r5, 0, none⟩ : Addr).add 2) = some (.string s60)) /\
 Calls prog 99 #[.string s57] w13 fun e w14 =>
 ∃ s58 : ByteArray, e = .returned (.string s58) /\
 S2 w14 /\
 Br (s58.toList == s60.toList) (
 ∃ s65, (∀ w', S2 w' -> w'.cell? ((⟨r5, 0, none⟩ : Addr).add 2) = some (.string s65)) /\
 Calls prog 100 #[.string s65, .int .i64 n1] w14 fun e w15 =>
 ∃ b67 : Bool, e = .returned (.bool b67) /\
 zQd prog ds w15 fun w16 =>
 R (.returned (.bool b67)) w16) (
 zQd prog ds w14 fun w17 =>
 R (.returned (.bool false)) w17)) (
 zQd prog ds w13 fun w18 =>
 R (.returned (.bool false)) w18)) (
 zQd prog ds w3 fun w19 =>
 R (.returned (.bool true)) w19))))))
theorem F96_p : Pl prog f96 [aS 0 [.str, .int .i64, .int .i64, .bool], iS 1, aS 2 [.int .i64, .int .i64, .str]] F96_1 := fun R =>
 lf
theorem yJy (s0_0 : ByteArray) (n0_1 n0_2 : Int) (b0_3 : Bool) (n1 n2_0 n2_1 : Int) (s2_2 : ByteArray) (w : World) (R : Rt) (h : F96_1 R s0_0 n0_1 n0_2 b0_3 n1 n2_0 n2_1 s2_2 [] w) : Calls prog 96 #[.agg #[.string s0_0, .int .i64 n0_1, .int .i64 n0_2, .bool b0_3], .int .i64 n1, .agg #[.int .i64 n2_0, .int .i64 n2_1, .string s2_2]] w R :=
 plC F96_p func96 h
def yY7 (R : Rt) (n0 : Int) (ds : Ds) (w : World) : Prop :=
 Br (decide (n0 >= 0)) (
 zQd prog ds w fun w1 =>
 R (.returned (.bool (decide (n0 <= 99999999)))) w1) (
 zQd prog ds w fun w2 =>
 R (.returned (.bool false)) w2)
theorem F146_p : Pl prog f146 [iS 0] yY7 := fun R =>
 lf
theorem yXQ (n0 : Int) (w : World) (R : Rt) (h : yY7 R n0 [] w) : Calls prog 146 #[.int .i64 n0] w R :=
 plC F146_p func146 h
end Go.Proofs.YtcihcbfcgjepfaaGreatDoor
/- Shallow texts of functions, printed by program, each checked by the kernel against the loaded code. No condition. -/
namespace Go.Proofs.YtcihcbfcgjepfaaGreatDoor
open Go.Sh Tryz
def F93_1 (R : Rt) (l0 : SV) (ds : Ds) (w : World) : Prop :=
 Br (decide ((l0.len : Int) > 16)) (
 zQd prog ds w fun w1 =>
 R (.returned (.int .i64 3)) w1) (
 Calls prog 144 #[.slice l0.a l0.len l0.cap] w fun e w2 =>
 ∃ n33 : Int, e = .returned (.int .i64 n33) /\
 Br (decide (n33 > 2000)) (
 zQd prog ds w2 fun w3 =>
 R (.returned (.int .i64 3)) w3) (
 zQd prog ds w2 fun w4 =>
 R (.returned (.int .i64 0)) w4))
def F93_2 (R : Rt) (J1 : (Int) -> World -> Prop) (l0 : SV) (m3 : Option Nat) (l14 : SV) (n15 n16 : Int) (ds : Ds) (w : World) : Prop :=
 Br (decide (n16 < n15)) (
 ∃ a5, l14.a = some a5 /\ 0 <= n16 /\ n16 < (l14.len : Int) /\
 ∃ s19_0, w.cell? ((a5.add (n16.toNat * 4)).add 0) = some (.string s19_0) /\
 ∃ n19_1, w.cell? ((a5.add (n16.toNat * 4)).add 1) = some (.int .i64 n19_1) /\
 ∃ n19_2, w.cell? ((a5.add (n16.toNat * 4)).add 2) = some (.int .i64 n19_2) /\
 ∃ b19_3, w.cell? ((a5.add (n16.toNat * 4)).add 3) = some (.bool b19_3) /\
 alE (.cells #[.string (⟨#[]⟩ : ByteArray), .int .i64 0, .int .i64 0, .bool false] 38) w fun r5 w6 =>
 stA prog 38 (⟨r5, 0, none⟩ : Addr) #[.string s19_0, .int .i64 n19_1, .int .i64 n19_2, .bool b19_3] w6 fun w7 =>
 ∃ s22, w7.cell? (⟨r5, 0, none⟩ : Addr) = some (.string s22) /\
 ∃ b23 : Bool, ∃ w8, (Instr.lookup 177 (.map m3) (.string s22) false).run prog w7 = .ok (.bool b23) w8 /\
 Br b23 (
 zQd prog ds w8 fun w9 =>
 R (.returned (.int .i64 5)) w9) (
 ∃ s26, w8.cell? (⟨r5, 0, none⟩ : Addr) = some (.string s26) /\
 doE prog (Instr.mapUpdate 177 (.map m3) (.string s26) (.bool true)) w8 fun w10 =>
 J1 (IntKind.i64.wrap (n16 + 1)) w10)) (
 F93_1 R l0 ds w)
def F93_3 (R : Rt) (l0 : SV) (m3 : Option Nat) (l14 : SV) (n15 n16 : Int) (ds : Ds) (w : World) : Prop :=
 zQD (fun (J1 : (Int) -> World -> Prop) (s : Int) (w : World) => F93_2 R J1 l0 m3 l14 n15 s ds w) n16 w
def F93_5 (R : Rt) (l0 : SV) (ds : Ds) (w : World) : Prop :=
 Br ((l0.len : Int) == 0) (
 zQd prog ds w fun w11 =>
 R (.returned (.int .i64 1)) w11) (
 Calls prog 142 #[.slice l0.a l0.len l0.cap, .func (.func 143) #[] #[]] w fun e w12 =>
 ∃ b11 : Bool, e = .returned (.bool b11) /\
 Br b11 (
 zQd prog ds w12 fun w13 =>
 R (.returned (.int .i64 1)) w13) (
 alE (.map #[] 0) w12 fun r13 w14 =>
 F93_3 R l0 (some r13) l0 (l0.len : Int) 0 ds w14))
theorem F93_p : Pl prog f93 [lS 0] F93_5 := fun R =>
 pc 5 (zQx [lS 0, mS 3, lS 14, iS 15, iS 16] (F93_3 R) (bk 0 (zQx [lS 0] (F93_1 R) lf) (lp [iS 16] [lS 0, mS 3, lS 14, iS 15, iS 16] (F93_2 R) zXz fun J1 => lf)))
theorem yKH (l0 : SV) (w : World) (R : Rt) (h : F93_5 R l0 [] w) : Calls prog 93 #[.slice l0.a l0.len l0.cap] w R :=
 plC F93_p func93 h
def yY8 (R : Rt) (l0 : SV) (v1 : Value) (ds : Ds) (w : World) : Prop :=
 Calls prog 104 #[.slice l0.a l0.len l0.cap, v1] w fun e w1 =>
 ∃ n7 : Int, e = .returned (.int .i64 n7) /\
 zQd prog ds w1 fun w2 =>
 R (.returned (.bool (decide (n7 >= 0)))) w2
theorem F142_p : Pl prog f142 [lS 0, vS 1] yY8 := fun R =>
 lf
theorem yZk (l0 : SV) (v1 : Value) (w : World) (R : Rt) (h : yY8 R l0 v1 [] w) : Calls prog 142 #[.slice l0.a l0.len l0.cap, v1] w R :=
 plC F142_p func142 h
def xQb (R : Rt) (s0_0 : ByteArray) (n0_1 n0_2 : Int) (b0_3 : Bool) (ds : Ds) (w : World) : Prop :=
 alE (.cells #[.string s0_0, .int .i64 n0_1, .int .i64 n0_2, .bool b0_3] 38) w fun r1 w1 =>
 ∃ s3_0, w1.cell? ((⟨r1, 0, none⟩ : Addr).add 0) = some (.string s3_0) /\
 ∃ n3_1, w1.cell? ((⟨r1, 0, none⟩ : Addr).add 1) = some (.int .i64 n3_1) /\
 ∃ n3_2, w1.cell? ((⟨r1, 0, none⟩ : Addr).add 2) = some (.int .i64 n3_2) /\
 ∃ b3_3, w1.cell? ((⟨r1, 0, none⟩ : Addr).add 3) = some (.bool b3_3) /\
 Calls prog 106 #[.agg #[.string s3_0, .int .i64 n3_1, .int .i64 n3_2, .bool b3_3]] w1 fun e w2 =>
 ∃ b4 : Bool, e = .returned (.bool b4) /\
 zQd prog ds w2 fun w3 =>
 R (.returned (.bool (!b4))) w3
theorem F143_p : Pl prog f143 [aS 0 [.str, .int .i64, .int .i64, .bool]] xQb := fun R =>
 lf
theorem yZM (s0_0 : ByteArray) (n0_1 n0_2 : Int) (b0_3 : Bool) (w : World) (R : Rt) (h : xQb R s0_0 n0_1 n0_2 b0_3 [] w) : Calls prog 143 #[.agg #[.string s0_0, .int .i64 n0_1, .int .i64 n0_2, .bool b0_3]] w R :=
 plC F143_p func143 h
def yY3 (R : Rt) (n3 : Int) (ds : Ds) (w : World) : Prop :=
 zQd prog ds w fun w1 =>
 R (.returned (.int .i64 n3)) w1
def yYS (R : Rt) (J1 : (Int × Int) -> World -> Prop) (n3 : Int) (l9 : SV) (n10 n11 : Int) (ds : Ds) (w : World) : Prop :=
 Br (decide (n11 < n10)) (
 ∃ a2, l9.a = some a2 /\ 0 <= n11 /\ n11 < (l9.len : Int) /\
 ∃ s14_0, w.cell? ((a2.add (n11.toNat * 4)).add 0) = some (.string s14_0) /\
 ∃ n14_1, w.cell? ((a2.add (n11.toNat * 4)).add 1) = some (.int .i64 n14_1) /\
 ∃ n14_2, w.cell? ((a2.add (n11.toNat * 4)).add 2) = some (.int .i64 n14_2) /\
 ∃ b14_3, w.cell? ((a2.add (n11.toNat * 4)).add 3) = some (.bool b14_3) /\
 alE (.cells #[.string (⟨#[]⟩ : ByteArray), .int .i64 0, .int .i64 0, .bool false] 38) w fun r5 w3 =>
 stA prog 38 (⟨r5, 0, none⟩ : Addr) #[.string s14_0, .int .i64 n14_1, .int .i64 n14_2, .bool b14_3] w3 fun w4 =>
 ∃ n17, w4.cell? ((⟨r5, 0, none⟩ : Addr).add 2) = some (.int .i64 n17) /\
 J1 ((IntKind.i64.wrap (n3 + n17)), (IntKind.i64.wrap (n11 + 1))) w4) (
 yY3 R n3 ds w)
def xQX (R : Rt) (n3 : Int) (l9 : SV) (n10 n11 : Int) (ds : Ds) (w : World) : Prop :=
 zQD (fun (J1 : (Int × Int) -> World -> Prop) (s : Int × Int) (w : World) => yYS R J1 s.1 l9 n10 s.2 ds w) (n3, n11) w
def xXc (R : Rt) (l0 : SV) (ds : Ds) (w : World) : Prop :=
 Calls prog 176 #[.slice l0.a l0.len l0.cap] w fun e w5 =>
 ∃ n7 : Int, e = .returned (.int .i64 n7) /\
 xQX R (IntKind.i64.wrap ((1 : Int) + n7)) l0 (l0.len : Int) 0 ds w5
theorem F144_p : Pl prog f144 [lS 0] xXc := fun R =>
 pc 3 (zQx [iS 3, lS 9, iS 10, iS 11] (xQX R) (bk 0 (zQx [iS 3] (yY3 R) lf) (lp [iS 3, iS 11] [iS 3, lS 9, iS 10, iS 11] (yYS R) zXz fun J1 => lf)))
theorem yZI (l0 : SV) (w : World) (R : Rt) (h : xXc R l0 [] w) : Calls prog 144 #[.slice l0.a l0.len l0.cap] w R :=
 plC F144_p func144 h
def yYQ (R : Rt) (n3 : Int) (ds : Ds) (w : World) : Prop :=
 IntKind.i64 = IntKind.i64 /\ (8 : Int) ≠ 0 /\
 zQd prog ds w fun w1 =>
 R (.returned (.int .i64 (IntKind.i64.wrap ((IntKind.i64.wrap (n3 + 7)).tdiv 8)))) w1
def xXq (R : Rt) (J1 : (Int × Int) -> World -> Prop) (n3 : Int) (l6 : SV) (n7 n8 : Int) (ds : Ds) (w : World) : Prop :=
 Br (decide (n8 < n7)) (
 ∃ a2, l6.a = some a2 /\ 0 <= n8 /\ n8 < (l6.len : Int) /\
 ∃ s11_0, w.cell? ((a2.add (n8.toNat * 4)).add 0) = some (.string s11_0) /\
 ∃ n11_1, w.cell? ((a2.add (n8.toNat * 4)).add 1) = some (.int .i64 n11_1) /\
 ∃ n11_2, w.cell? ((a2.add (n8.toNat * 4)).add 2) = some (.int .i64 n11_2) /\
 ∃ b11_3, w.cell? ((a2.add (n8.toNat * 4)).add 3) = some (.bool b11_3) /\
 alE (.cells #[.string (⟨#[]⟩ : ByteArray), .int .i64 0, .int .i64 0, .bool false] 38) w fun r5 w3 =>
 stA prog 38 (⟨r5, 0, none⟩ : Addr) #[.string s11_0, .int .i64 n11_1, .int .i64 n11_2, .bool b11_3] w3 fun w4 =>
 ∃ b13, w4.cell? ((⟨r5, 0, none⟩ : Addr).add 3) = some (.bool b13) /\
 Br b13 (
 J1 ((IntKind.i64.wrap (n3 + 1)), (IntKind.i64.wrap (n8 + 1))) w4) (
 J1 (n3, (IntKind.i64.wrap (n8 + 1))) w4)) (
 yYQ R n3 ds w)
def xQc (R : Rt) (n3 : Int) (l6 : SV) (n7 n8 : Int) (ds : Ds) (w : World) : Prop :=
 zQD (fun (J1 : (Int × Int) -> World -> Prop) (s : Int × Int) (w : World) => xXq R J1 s.1 l6 n7 s.2 ds w) (n3, n8) w
def xXn (R : Rt) (l0 : SV) (ds : Ds) (w : World) : Prop :=
 xQc R 0 l0 (l0.len : Int) 0 ds w
theorem F176_p : Pl prog f176 [lS 0] xXn := fun R =>
 pc 3 (zQx [iS 3, lS 6, iS 7, iS 8] (xQc R) (bk 0 (zQx [iS 3] (yYQ R) lf) (lp [iS 3, iS 8] [iS 3, lS 6, iS 7, iS 8] (xXq R) zXz fun J1 => lf)))
theorem yZg (l0 : SV) (w : World) (R : Rt) (h : xXn R l0 [] w) : Calls prog 176 #[.slice l0.a l0.len l0.cap] w R :=
 plC F176_p func176 h
def F42_1 (R : Rt) (l0 : SV) (ds : Ds) (w : World) : Prop :=
 Br (decide ((l0.len : Int) > 16)) (
 zQd prog ds w fun w1 =>
 R (.returned (.int .i64 3)) w1) (
 Calls prog 95 #[.slice l0.a l0.len l0.cap] w fun e w2 =>
 ∃ n48 : Int, e = .returned (.int .i64 n48) /\
 Br (decide (n48 > 2000)) (
 zQd prog ds w2 fun w3 =>
 R (.returned (.int .i64 3)) w3) (
 zQd prog ds w2 fun w4 =>
 R (.returned (.int .i64 0)) w4))
def F42_2 (R : Rt) (J1 : (Int) -> World -> Prop) (l0 : SV) (n4 : Int) (ds : Ds) (w : World) : Prop :=
 J1 (IntKind.i64.wrap (n4 + 1)) w
def F42_3 (R : Rt) (J1 : (Int) -> World -> Prop) (J2 : (Int) -> World -> Prop) (l0 : SV) (n4 n5 : Int) (ds : Ds) (w : World) : Prop :=
 Br (decide (n5 < n4)) (
 dwE w fun w5 =>
 ∃ a6, l0.a = some a6 /\ 0 <= n4 /\ n4 < (l0.len : Int) /\
 ∃ s36, w5.cell? (a6.add (n4.toNat * 4)) = some (.string s36) /\
 ∃ a7, l0.a = some a7 /\ 0 <= n5 /\ n5 < (l0.len : Int) /\
 ∃ s41, w5.cell? (a7.add (n5.toNat * 4)) = some (.string s41) /\
 Br (s36.toList == s41.toList) (
 zQd prog ds w5 fun w8 =>
 R (.returned (.int .i64 5)) w8) (
 J2 (IntKind.i64.wrap (n5 + 1)) w5)) (
 F42_2 R J1 l0 n4 ds w)
def F42_4 (R : Rt) (J1 : (Int) -> World -> Prop) (l0 : SV) (n4 n5 : Int) (ds : Ds) (w : World) : Prop :=
 zQD (fun (J2 : (Int) -> World -> Prop) (s : Int) (w : World) => F42_3 R J1 J2 l0 n4 s ds w) n5 w
def F42_6 (R : Rt) (J1 : (Int) -> World -> Prop) (l0 : SV) (n4 : Int) (ds : Ds) (w : World) : Prop :=
 F42_4 R J1 l0 n4 0 ds w
def F42_8 (R : Rt) (J1 : (Int) -> World -> Prop) (l0 : SV) (n4 : Int) (ds : Ds) (w : World) : Prop :=
 Br (decide (n4 < (l0.len : Int))) (
 F42_6 R J1 l0 n4 ds w) (
 F42_1 R l0 ds w)
def F42_9 (R : Rt) (l0 : SV) (n4 : Int) (ds : Ds) (w : World) : Prop :=
 zQD (fun (J1 : (Int) -> World -> Prop) (s : Int) (w : World) => F42_8 R J1 l0 s ds w) n4 w
def yYi (R : Rt) (l0 : SV) (ds : Ds) (w : World) : Prop :=
 F42_9 R l0 0 ds w
def xQ1 (R : Rt) (J1 : (Int) -> World -> Prop) (l0 : SV) (n3 : Int) (ds : Ds) (w : World) : Prop :=
 Br (decide (n3 < (l0.len : Int))) (
 ∃ a9, l0.a = some a9 /\ 0 <= n3 /\ n3 < (l0.len : Int) /\
 ∃ s18_0, w.cell? ((a9.add (n3.toNat * 4)).add 0) = some (.string s18_0) /\
 ∃ n18_1, w.cell? ((a9.add (n3.toNat * 4)).add 1) = some (.int .i64 n18_1) /\
 ∃ n18_2, w.cell? ((a9.add (n3.toNat * 4)).add 2) = some (.int .i64 n18_2) /\
 ∃ b18_3, w.cell? ((a9.add (n3.toNat * 4)).add 3) = some (.bool b18_3) /\
 Calls prog 44 #[.agg #[.string s18_0, .int .i64 n18_1, .int .i64 n18_2, .bool b18_3]] w fun e w10 =>
 ∃ b19 : Bool, e = .returned (.bool b19) /\
 Br (!b19) (
 zQd prog ds w10 fun w11 =>
 R (.returned (.int .i64 1)) w11) (
 J1 (IntKind.i64.wrap (n3 + 1)) w10)) (
 yYi R l0 ds w)
def xQq (R : Rt) (l0 : SV) (n3 : Int) (ds : Ds) (w : World) : Prop :=
 zQD (fun (J1 : (Int) -> World -> Prop) (s : Int) (w : World) => xQ1 R J1 l0 s ds w) n3 w
def yYF (R : Rt) (l0 : SV) (ds : Ds) (w : World) : Prop :=
 Br ((l0.len : Int) == 0) (
 zQd prog ds w fun w12 =>
 R (.returned (.int .i64 1)) w12) (
 xQq R l0 0 ds w)
theorem F42_p : Pl prog f42 [lS 0] yYF := fun R =>
 pc 4 (zQx [lS 0, iS 3] (xQq R) (bk 0 (zQx [lS 0] (yYi R) (pc 1 (zQx [lS 0, iS 4] (F42_9 R) (bk 2 (zQx [lS 0] (F42_1 R) lf) (lp [iS 4] [lS 0, iS 4] (F42_8 R) zXz fun J1 => pc 2 (zQx [lS 0, iS 4] (F42_6 R J1) (bk 3 (zQx [lS 0, iS 4] (F42_2 R J1) lf) (pc 1 (zQx [lS 0, iS 4, iS 5] (F42_4 R J1) (bk 4 zXz (lp [iS 5] [lS 0, iS 4, iS 5] (F42_3 R J1) zXz fun J2 => lf))))))))))) (lp [iS 3] [lS 0, iS 3] (xQ1 R) zXz fun J1 => lf)))
theorem yKn (l0 : SV) (w : World) (R : Rt) (h : yYF R l0 [] w) : Calls prog 42 #[.slice l0.a l0.len l0.cap] w R :=
 plC F42_p func42 h
def F95_1 (R : Rt) (n3 : Int) (ds : Ds) (w : World) : Prop :=
 zQd prog ds w fun w1 =>
 R (.returned (.int .i64 n3)) w1
def F95_2 (R : Rt) (J1 : (Int × Int) -> World -> Prop) (l0 : SV) (n3 n4 : Int) (ds : Ds) (w : World) : Prop :=
 Br (decide (n4 < (l0.len : Int))) (
 ∃ a2, l0.a = some a2 /\ 0 <= n4 /\ n4 < (l0.len : Int) /\
 ∃ n19, w.cell? ((a2.add (n4.toNat * 4)).add 2) = some (.int .i64 n19) /\
 J1 ((IntKind.i64.wrap (n3 + n19)), (IntKind.i64.wrap (n4 + 1))) w) (
 F95_1 R n3 ds w)
def F95_3 (R : Rt) (l0 : SV) (n3 n4 : Int) (ds : Ds) (w : World) : Prop :=
 zQD (fun (J1 : (Int × Int) -> World -> Prop) (s : Int × Int) (w : World) => F95_2 R J1 l0 s.1 s.2 ds w) (n3, n4) w
def F95_5 (R : Rt) (l0 : SV) (ds : Ds) (w : World) : Prop :=
 Calls prog 145 #[.slice l0.a l0.len l0.cap] w fun e w3 =>
 ∃ n6 : Int, e = .returned (.int .i64 n6) /\
 F95_3 R l0 (IntKind.i64.wrap ((1 : Int) + n6)) 0 ds w3
theorem F95_p : Pl prog f95 [lS 0] F95_5 := fun R =>
 pc 3 (zQx [lS 0, iS 3, iS 4] (F95_3 R) (bk 0 (zQx [iS 3] (F95_1 R) lf) (lp [iS 3, iS 4] [lS 0, iS 3, iS 4] (F95_2 R) zXz fun J1 => lf)))
theorem yJu (l0 : SV) (w : World) (R : Rt) (h : F95_5 R l0 [] w) : Calls prog 95 #[.slice l0.a l0.len l0.cap] w R :=
 plC F95_p func95 h
def xQO (R : Rt) (n3 : Int) (ds : Ds) (w : World) : Prop :=
 IntKind.i64 = IntKind.i64 /\ (8 : Int) ≠ 0 /\
 zQd prog ds w fun w1 =>
 R (.returned (.int .i64 (IntKind.i64.wrap ((IntKind.i64.wrap (n3 + 7)).tdiv 8)))) w1
def yYu (R : Rt) (J1 : (Int × Int) -> World -> Prop) (l0 : SV) (n3 n4 : Int) (ds : Ds) (w : World) : Prop :=
 Br (decide (n4 < (l0.len : Int))) (
 ∃ a2, l0.a = some a2 /\ 0 <= n4 /\ n4 < (l0.len : Int) /\
 ∃ b15, w.cell? ((a2.add (n4.toNat * 4)).add 3) = some (.bool b15) /\
 Br b15 (
 J1 ((IntKind.i64.wrap (n3 + 1)), (IntKind.i64.wrap (n4 + 1))) w) (
 J1 (n3, (IntKind.i64.wrap (n4 + 1))) w)) (
 xQO R n3 ds w)
def xQr (R : Rt) (l0 : SV) (n3 n4 : Int) (ds : Ds) (w : World) : Prop :=
 zQD (fun (J1 : (Int × Int) -> World -> Prop) (s : Int × Int) (w : World) => yYu R J1 l0 s.1 s.2 ds w) (n3, n4) w
def yYk (R : Rt) (l0 : SV) (ds : Ds) (w : World) : Prop :=
 xQr R l0 0 0 ds w
theorem F145_p : Pl prog f145 [lS 0] yYk := fun R =>
 pc 3 (zQx [lS 0, iS 3, iS 4] (xQr R) (bk 0 (zQx [iS 3] (xQO R) lf) (lp [iS 3, iS 4] [lS 0, iS 3, iS 4] (yYu R) zXz fun J1 => lf)))
theorem yZa (l0 : SV) (w : World) (R : Rt) (h : yYk R l0 [] w) : Calls prog 145 #[.slice l0.a l0.len l0.cap] w R :=
 plC F145_p func145 h
end Go.Proofs.YtcihcbfcgjepfaaGreatDoor
/- Shallow texts of functions, printed by program, each checked by the kernel against the loaded code. No condition. -/
namespace Go.Proofs.YtcihcbfcgjepfaaGreatDoor
open Go.Sh Tryz
def yY6 (R : Rt) (ds : Ds) (w : World) : Prop :=
 zQd prog ds w fun w1 =>
 R (.returned (.int .i64 (-1))) w1
def yYH (R : Rt) (J1 : (Int) -> World -> Prop) (l0 : SV) (v1 : Value) (n7 n8 : Int) (ds : Ds) (w : World) : Prop :=
 Br (decide (n8 < n7)) (
 ∃ a2, l0.a = some a2 /\ 0 <= n8 /\ n8 < (l0.len : Int) /\
 ∃ s15_0, w.cell? ((a2.add (n8.toNat * 4)).add 0) = some (.string s15_0) /\
 ∃ n15_1, w.cell? ((a2.add (n8.toNat * 4)).add 1) = some (.int .i64 n15_1) /\
 ∃ n15_2, w.cell? ((a2.add (n8.toNat * 4)).add 2) = some (.int .i64 n15_2) /\
 ∃ b15_3, w.cell? ((a2.add (n8.toNat * 4)).add 3) = some (.bool b15_3) /\
 fnE v1 fun f16 first16 cap16 =>
 zXF prog f16 = true /\ Calls prog f16 (first16.toList ++ (([.agg #[.string s15_0, .int .i64 n15_1, .int .i64 n15_2, .bool b15_3]] : List Value) ++ cap16.toList)).toArray w fun e w3 =>
 ∃ b16 : Bool, e = .returned (.bool b16) /\
 Br b16 (
 zQd prog ds w3 fun w4 =>
 R (.returned (.int .i64 n8)) w4) (
 J1 (IntKind.i64.wrap (n8 + 1)) w3)) (
 yY6 R ds w)
def yYT (R : Rt) (l0 : SV) (v1 : Value) (n7 n8 : Int) (ds : Ds) (w : World) : Prop :=
 zQD (fun (J1 : (Int) -> World -> Prop) (s : Int) (w : World) => yYH R J1 l0 v1 n7 s ds w) n8 w
def yYR (R : Rt) (l0 : SV) (v1 : Value) (ds : Ds) (w : World) : Prop :=
 yYT R l0 (v1) (l0.len : Int) 0 ds w
theorem F104_p : Pl prog f104 [lS 0, vS 1] yYR := fun R =>
 pc 2 (zQx [lS 0, vS 1, iS 7, iS 8] (yYT R) (bk 0 (zQx [] (yY6 R) lf) (lp [iS 8] [lS 0, vS 1, iS 7, iS 8] (yYH R) zXz fun J1 => lf)))
theorem yXW (l0 : SV) (v1 : Value) (w : World) (R : Rt) (h : yYR R l0 v1 [] w) : Calls prog 104 #[.slice l0.a l0.len l0.cap, v1] w R :=
 plC F104_p func104 h
def xQx (R : Rt) (s0_0 : ByteArray) (n0_1 n0_2 : Int) (b0_3 : Bool) (v1 : Value) (ds : Ds) (w : World) : Prop :=
 alE (.cells #[.string s0_0, .int .i64 n0_1, .int .i64 n0_2, .bool b0_3] 38) w fun r2 w1 =>
 ∃ s5, w1.cell? (⟨r2, 0, none⟩ : Addr) = some (.string s5) /\
 zJ4 v1 fun a2 =>
 ∃ s6, w1.cell? a2 = some (.string s6) /\
 zQd prog ds w1 fun w3 =>
 R (.returned (.bool (s5.toList == s6.toList))) w3
theorem F105_p : Pl prog f105 [aS 0 [.str, .int .i64, .int .i64, .bool], vS 1] xQx := fun R =>
 lf
theorem yZw (s0_0 : ByteArray) (n0_1 n0_2 : Int) (b0_3 : Bool) (v1 : Value) (w : World) (R : Rt) (h : xQx R s0_0 n0_1 n0_2 b0_3 v1 [] w) : Calls prog 105 #[.agg #[.string s0_0, .int .i64 n0_1, .int .i64 n0_2, .bool b0_3], v1] w R :=
 plC F105_p func105 h
def F51_1 (R : Rt) (l0 : SV) (s1 : ByteArray) (ds : Ds) (w : World) : Prop :=
 alE (.cells #[.string s1] 9) w fun r3 w1 =>
 Calls prog 104 #[.slice l0.a l0.len l0.cap, .func (.func 105) #[] #[.pointer (some (⟨r3, 0, none⟩ : Addr))]] w1 fun e w2 =>
 ∃ n9 : Int, e = .returned (.int .i64 n9) /\
 ∃ n11 : Int, ∃ w3, (Builtin.max_ #[3, 3] 3 #[.int .i64 n9, .int .i64 0]).run prog w2 = .ok (.int .i64 n11) w3 /\
 zQd prog ds w3 fun w4 =>
 R (.returned (.tuple #[.int .i64 n11, .bool (decide (n9 >= 0))])) w4
theorem F51_p : Pl prog f51 [lS 0, sS 1] F51_1 := fun R =>
 lf
theorem yJ5 (l0 : SV) (s1 : ByteArray) (w : World) (R : Rt) (h : F51_1 R l0 s1 [] w) : Calls prog 51 #[.slice l0.a l0.len l0.cap, .string s1] w R :=
 plC F51_p func51 h
def xQw (R : Rt) (ds : Ds) (w : World) : Prop :=
 zQd prog ds w fun w1 =>
 R (.returned (.tuple #[.int .i64 0, .bool false])) w1
def yYV (R : Rt) (J1 : (Int) -> World -> Prop) (l0 : SV) (s1 : ByteArray) (n6 : Int) (ds : Ds) (w : World) : Prop :=
 Br (decide (n6 < (l0.len : Int))) (
 ∃ a2, l0.a = some a2 /\ 0 <= n6 /\ n6 < (l0.len : Int) /\
 ∃ s17, w.cell? (a2.add (n6.toNat * 4)) = some (.string s17) /\
 Br (s17.toList == s1.toList) (
 zQd prog ds w fun w3 =>
 R (.returned (.tuple #[.int .i64 n6, .bool true])) w3) (
 J1 (IntKind.i64.wrap (n6 + 1)) w)) (
 xQw R ds w)
def yYO (R : Rt) (l0 : SV) (s1 : ByteArray) (n6 : Int) (ds : Ds) (w : World) : Prop :=
 zQD (fun (J1 : (Int) -> World -> Prop) (s : Int) (w : World) => yYV R J1 l0 s1 s ds w) n6 w
def xQ8 (R : Rt) (l0 : SV) (s1 : ByteArray) (ds : Ds) (w : World) : Prop :=
 yYO R l0 s1 0 ds w
theorem F122_p : Pl prog f122 [lS 0, sS 1] xQ8 := fun R =>
 pc 2 (zQx [lS 0, sS 1, iS 6] (yYO R) (bk 0 (zQx [] (xQw R) lf) (lp [iS 6] [lS 0, sS 1, iS 6] (yYV R) zXz fun J1 => lf)))
theorem yZA (l0 : SV) (s1 : ByteArray) (w : World) (R : Rt) (h : xQ8 R l0 s1 [] w) : Calls prog 122 #[.slice l0.a l0.len l0.cap, .string s1] w R :=
 plC F122_p func122 h
end Go.Proofs.YtcihcbfcgjepfaaGreatDoor
/- Shallow texts of functions, printed by program, each checked by the kernel against the loaded code. No condition. -/
namespace Go.Proofs.YtcihcbfcgjepfaaGreatDoor
open Go.Sh Tryz
def F38_1 (R : Rt) (ds : Ds) (w : World) : Prop :=
 zQd prog ds w fun w1 =>
 R (.returned (.int .i64 0)) w1
def xXZ (R : Rt) (J1 : (Int) -> World -> Prop) (p1 : Option Addr) (l23 : SV) (n24 n25 : Int) (ds : Ds) (w : World) : Prop :=
 J1 (IntKind.i64.wrap (n25 + 1)) w
def F38_3 (R : Rt) (J1 : (Int) -> World -> Prop) (J2 : (Int) -> World -> Prop) (p1 p5 : Option Addr) (l23 : SV) (n24 n25 : Int) (l37 : SV) (n38 n39 : Int) (ds : Ds) (w : World) : Prop :=
 Br (decide (n39 < n38)) (
 ∃ a2, l37.a = some a2 /\ 0 <= n39 /\ n39 < (l37.len : Int) /\
 ∃ s43_0, w.cell? ((a2.add (n39.toNat * 4)).add 0) = some (.string s43_0) /\
 ∃ n43_1, w.cell? ((a2.add (n39.toNat * 4)).add 1) = some (.int .i64 n43_1) /\
 ∃ n43_2, w.cell? ((a2.add (n39.toNat * 4)).add 2) = some (.int .i64 n43_2) /\
 ∃ b43_3, w.cell? ((a2.add (n39.toNat * 4)).add 3) = some (.bool b43_3) /\
 alE (.cells #[.string (⟨#[]⟩ : ByteArray), .int .i64 0, .int .i64 0, .bool false] 38) w fun r7 w3 =>
 stA prog 38 (⟨r7, 0, none⟩ : Addr) #[.string s43_0, .int .i64 n43_1, .int .i64 n43_2, .bool b43_3] w3 fun w4 =>
 dwE w4 fun w5 =>
 ∃ s44_0, w5.cell? ((⟨r7, 0, none⟩ : Addr).add 0) = some (.string s44_0) /\
 ∃ n44_1, w5.cell? ((⟨r7, 0, none⟩ : Addr).add 1) = some (.int .i64 n44_1) /\
 ∃ n44_2, w5.cell? ((⟨r7, 0, none⟩ : Addr).add 2) = some (.int .i64 n44_2) /\
 ∃ b44_3, w5.cell? ((⟨r7, 0, none⟩ : Addr).add 3) = some (.bool b44_3) /\
 zQi p1 fun a6 =>
 ∃ n46, w5.cell? a6 = some (.int .i64 n46) /\
 zQi p5 fun a7 =>
 ∃ l48 : SV, w5.cell? (a7.add 1) = some (.slice l48.a l48.len l48.cap) /\
 ∃ a8, l48.a = some a8 /\ 0 <= n39 /\ n39 < (l48.len : Int) /\
 ∃ n51_0, w5.cell? ((a8.add (n39.toNat * 3)).add 0) = some (.int .i64 n51_0) /\
 ∃ n51_1, w5.cell? ((a8.add (n39.toNat * 3)).add 1) = some (.int .i64 n51_1) /\
 ∃ s51_2, w5.cell? ((a8.add (n39.toNat * 3)).add 2) = some (.string s51_2) /\
 Calls prog 94 #[.agg #[.string s44_0, .int .i64 n44_1, .int .i64 n44_2, .bool b44_3], .int .i64 n46, .agg #[.int .i64 n51_0, .int .i64 n51_1, .string s51_2]] w5 fun e w9 =>
 ∃ b52 : Bool, e = .returned (.bool b52) /\
 Br (!b52) (
 zQd prog ds w9 fun w10 =>
 R (.returned (.int .i64 1)) w10) (
 J2 (IntKind.i64.wrap (n39 + 1)) w9)) (
 xXZ R J1 p1 l23 n24 n25 ds w)
def F38_4 (R : Rt) (J1 : (Int) -> World -> Prop) (p1 p5 : Option Addr) (l23 : SV) (n24 n25 : Int) (l37 : SV) (n38 n39 : Int) (ds : Ds) (w : World) : Prop :=
 zQD (fun (J2 : (Int) -> World -> Prop) (s : Int) (w : World) => F38_3 R J1 J2 p1 p5 l23 n24 n25 l37 n38 s ds w) n39 w
def F38_6 (R : Rt) (J1 : (Int) -> World -> Prop) (p1 : Option Addr) (l23 : SV) (n24 n25 : Int) (ds : Ds) (w : World) : Prop :=
 ∃ a11, l23.a = some a11 /\ 0 <= n25 /\ n25 < (l23.len : Int) /\
 ∃ b28_0, w.cell? ((a11.add (n25.toNat * 2)).add 0) = some (.bool b28_0) /\
 ∃ l28_1 : SV, w.cell? ((a11.add (n25.toNat * 2)).add 1) = some (.slice l28_1.a l28_1.len l28_1.cap) /\
 alE (.cells #[.bool false, .slice none 0 0] 77) w fun r5 w12 =>
 stA prog 77 (⟨r5, 0, none⟩ : Addr) #[.bool b28_0, .slice l28_1.a l28_1.len l28_1.cap] w12 fun w13 =>
 ∃ l30 : SV, w13.cell? ((⟨r5, 0, none⟩ : Addr).add 1) = some (.slice l30.a l30.len l30.cap) /\
 zQi p1 fun a14 =>
 ∃ l33 : SV, w13.cell? (a14.add 1) = some (.slice l33.a l33.len l33.cap) /\
 Br ((l30.len : Int) != (l33.len : Int)) (
 zQd prog ds w13 fun w15 =>
 R (.returned (.int .i64 10)) w15) (
 zQi p1 fun a16 =>
 ∃ l37 : SV, w13.cell? (a16.add 1) = some (.slice l37.a l37.len l37.cap) /\
 F38_4 R J1 p1 (some (⟨r5, 0, none⟩ : Addr)) l23 n24 n25 l37 (l37.len : Int) 0 ds w13)
def F38_8 (R : Rt) (J1 : (Int) -> World -> Prop) (p1 : Option Addr) (l23 : SV) (n24 n25 : Int) (ds : Ds) (w : World) : Prop :=
 Br (decide (n25 < n24)) (
 F38_6 R J1 p1 l23 n24 n25 ds w) (
 F38_1 R ds w)
def F38_9 (R : Rt) (p1 : Option Addr) (l23 : SV) (n24 n25 : Int) (ds : Ds) (w : World) : Prop :=
 zQD (fun (J1 : (Int) -> World -> Prop) (s : Int) (w : World) => F38_8 R J1 p1 l23 n24 s ds w) n25 w
def yYm (R : Rt) (n0_0 : Int) (l0_1 l0_2 : SV) (ds : Ds) (w : World) : Prop :=
 alE (.cells #[.int .i64 n0_0, .slice l0_1.a l0_1.len l0_1.cap, .slice l0_2.a l0_2.len l0_2.cap] 25) w fun r1 w17 =>
 ∃ n9, w17.cell? (⟨r1, 0, none⟩ : Addr) = some (.int .i64 n9) /\
 Calls prog 92 #[.int .i64 n9] w17 fun e w18 =>
 ∃ b10 : Bool, e = .returned (.bool b10) /\
 Br (!b10) (
 zQd prog ds w18 fun w19 =>
 R (.returned (.int .i64 1)) w19) (
 ∃ l13 : SV, w18.cell? ((⟨r1, 0, none⟩ : Addr).add 1) = some (.slice l13.a l13.len l13.cap) /\
 Calls prog 93 #[.slice l13.a l13.len l13.cap] w18 fun e w20 =>
 ∃ n14 : Int, e = .returned (.int .i64 n14) /\
 Br (n14 != 0) (
 zQd prog ds w20 fun w21 =>
 R (.returned (.int .i64 n14)) w21) (
 ∃ l19 : SV, w20.cell? ((⟨r1, 0, none⟩ : Addr).add 2) = some (.slice l19.a l19.len l19.cap) /\
 Br (decide ((l19.len : Int) > 300)) (
 zQd prog ds w20 fun w22 =>
 R (.returned (.int .i64 3)) w22) (
 ∃ l23 : SV, w20.cell? ((⟨r1, 0, none⟩ : Addr).add 2) = some (.slice l23.a l23.len l23.cap) /\
 F38_9 R (some (⟨r1, 0, none⟩ : Addr)) l23 (l23.len : Int) 0 ds w20)))
theorem F38_p : Pl prog f38 [aS 0 [.int .i64, .slice, .slice]] yYm := fun R =>
 pc 9 (zQx [pS 1, lS 23, iS 24, iS 25] (F38_9 R) (bk 0 (zQx [] (F38_1 R) lf) (lp [iS 25] [pS 1, lS 23, iS 24, iS 25] (F38_8 R) zXz fun J1 => pc 2 (zQx [pS 1, lS 23, iS 24, iS 25] (F38_6 R J1) (bk 1 (zQx [pS 1, lS 23, iS 24, iS 25] (xXZ R J1) lf) (pc 4 (zQx [pS 1, pS 5, lS 23, iS 24, iS 25, lS 37, iS 38, iS 39] (F38_4 R J1) (bk 2 zXz (lp [iS 39] [pS 1, pS 5, lS 23, iS 24, iS 25, lS 37, iS 38, iS 39] (F38_3 R J1) zXz fun J2 => lf)))))))))
theorem yKs (n0_0 : Int) (l0_1 l0_2 : SV) (w : World) (R : Rt) (h : yYm R n0_0 l0_1 l0_2 [] w) : Calls prog 38 #[.agg #[.int .i64 n0_0, .slice l0_1.a l0_1.len l0_1.cap, .slice l0_2.a l0_2.len l0_2.cap]] w R :=
 plC F38_p func38 h
def F94_1 (R : Rt) (s0_0 : ByteArray) (n0_1 n0_2 : Int) (b0_3 : Bool) (n1 n2_0 n2_1 : Int) (s2_2 : ByteArray) (ds : Ds) (w : World) : Prop :=
 alE (.cells #[.string s0_0, .int .i64 n0_1, .int .i64 n0_2, .bool b0_3] 38) w fun r3 w1 =>
 alE (.cells #[.int .i64 n2_0, .int .i64 n2_1, .string s2_2] 28) w1 fun r5 w2 =>
 ∃ n10, w2.cell? (⟨r5, 0, none⟩ : Addr) = some (.int .i64 n10) /\
 Br (n10 == 0) (
 ∃ b13, w2.cell? ((⟨r3, 0, none⟩ : Addr).add 3) = some (.bool b13) /\
 Br b13 (
 ∃ n15_0, w2.cell? ((⟨r5, 0, none⟩ : Addr).add 0) = some (.int .i64 n15_0) /\
 ∃ n15_1, w2.cell? ((⟨r5, 0, none⟩ : Addr).add 1) = some (.int .i64 n15_1) /\
 ∃ s15_2, w2.cell? ((⟨r5, 0, none⟩ : Addr).add 2) = some (.string s15_2) /\
 ∃ b17 : Bool, ∃ w3, (eqS .eql 28 (.tmp 15) (.tmp 16) (.agg #[.int .i64 n15_0, .int .i64 n15_1, .string s15_2]) (.agg #[.int .i64 0, .int .i64 0, .string (⟨#[]⟩ : ByteArray)])).run prog w2 = .ok (.bool b17) w3 /\
 zQd prog ds w3 fun w4 =>
 R (.returned (.bool b17)) w4) (
 zQd prog ds w2 fun w5 =>
 R (.returned (.bool false)) w5)) (
 ∃ n19_0, w2.cell? ((⟨r5, 0, none⟩ : Addr).add 0) = some (.int .i64 n19_0) /\
 ∃ n19_1, w2.cell? ((⟨r5, 0, none⟩ : Addr).add 1) = some (.int .i64 n19_1) /\
 ∃ s19_2, w2.cell? ((⟨r5, 0, none⟩ : Addr).add 2) = some (.string s19_2) /\
 Calls prog 107 #[.agg #[.int .i64 n19_0, .int .i64 n19_1, .string s19_2]] w2 fun e w6 =>
 ∃ n20 : Int, e = .returned (.int .i64 n20) /\
 Br (n20 != 0) (
 zQd prog ds w6 fun w7 =>
 R (.returned (.bool false)) w7) (
 ∃ s23_0, w6.cell? ((⟨r3, 0, none⟩ : Addr).add 0) = some (.string s23_0) /\
 ∃ n23_1, w6.cell? ((⟨r3, 0, none⟩ : Addr).add 1) = some (.int .i64 n23_1) /\
 ∃ n23_2, w6.cell? ((⟨r3, 0, none⟩ : Addr).add 2) = some (.int .i64 n23_2) /\
 ∃ b23_3, w6.cell? ((⟨r3, 0, none⟩ : Addr).add 3) = some (.bool b23_3) /\
 ∃ n25_0, w6.cell? ((⟨r5, 0, none⟩ : Addr).add 0) = some (.int .i64 n25_0) /\
 ∃ n25_1, w6.cell? ((⟨r5, 0, none⟩ : Addr).add 1) = some (.int .i64 n25_1) /\
 ∃ s25_2, w6.cell? ((⟨r5, 0, none⟩ : Addr).add 2) = some (.string s25_2) /\
 Calls prog 52 #[.agg #[.string s23_0, .int .i64 n23_1, .int .i64 n23_2, .bool b23_3], .int .i64 n1, .agg #[.int .i64 n25_0, .int .i64 n25_1, .string s25_2]] w6 fun e w8 =>
 ∃ n26_0_0 : Int, ∃ n26_0_1 : Int, ∃ s26_0_2 : ByteArray, ∃ n26_1 : Int, e = .returned (.tuple #[.agg #[.int .i64 n26_0_0, .int .i64 n26_0_1, .string s26_0_2], .int .i64 n26_1]) /\
 alE (.cells #[.int .i64 0, .int .i64 0, .string (⟨#[]⟩ : ByteArray)] 28) w8 fun r7 w9 =>
 stA prog 28 (⟨r7, 0, none⟩ : Addr) #[.int .i64 n26_0_0, .int .i64 n26_0_1, .string s26_0_2] w9 fun w10 =>
 Br (n26_1 == 0) (
 ∃ n32_0, w10.cell? ((⟨r7, 0, none⟩ : Addr).add 0) = some (.int .i64 n32_0) /\
 ∃ n32_1, w10.cell? ((⟨r7, 0, none⟩ : Addr).add 1) = some (.int .i64 n32_1) /\
 ∃ s32_2, w10.cell? ((⟨r7, 0, none⟩ : Addr).add 2) = some (.string s32_2) /\
 ∃ n33_0, w10.cell? ((⟨r5, 0, none⟩ : Addr).add 0) = some (.int .i64 n33_0) /\
 ∃ n33_1, w10.cell? ((⟨r5, 0, none⟩ : Addr).add 1) = some (.int .i64 n33_1) /\
 ∃ s33_2, w10.cell? ((⟨r5, 0, none⟩ : Addr).add 2) = some (.string s33_2) /\
 ∃ b34 : Bool, ∃ w11, (eqS .eql 28 (.tmp 32) (.tmp 33) (.agg #[.int .i64 n32_0, .int .i64 n32_1, .string s32_2]) (.agg #[.int .i64 n33_0, .int .i64 n33_1, .string s33_2])).run prog w10 = .ok (.bool b34) w11 /\
 zQd prog ds w11 fun w12 =>
 R (.returned (.bool b34)) w12) (
 zQd prog ds w10 fun w13 =>
 R (.returned (.bool false)) w13)))
theorem F94_p : Pl prog f94 [aS 0 [.str, .int .i64, .int .i64, .bool], iS 1, aS 2 [.int .i64, .int .i64, .str]] F94_1 := fun R =>
 lf
theorem yWO (s0_0 : ByteArray) (n0_1 n0_2 : Int) (b0_3 : Bool) (n1 n2_0 n2_1 : Int) (s2_2 : ByteArray) (w : World) (R : Rt) (h : F94_1 R s0_0 n0_1 n0_2 b0_3 n1 n2_0 n2_1 s2_2 [] w) : Calls prog 94 #[.agg #[.string s0_0, .int .i64 n0_1, .int .i64 n0_2, .bool b0_3], .int .i64 n1, .agg #[.int .i64 n2_0, .int .i64 n2_1, .string s2_2]] w R :=
 plC F94_p func94 h
def F12_1 (R : Rt) (ds : Ds) (w : World) : Prop :=
 zQd prog ds w fun w1 =>
 R (.returned (.int .i64 0)) w1
def F12_2 (R : Rt) (J1 : (Int) -> World -> Prop) (p1 : Option Addr) (n4 : Int) (ds : Ds) (w : World) : Prop :=
 zQi p1 fun a2 =>
 ∃ l22 : SV, w.cell? (a2.add 2) = some (.slice l22.a l22.len l22.cap) /\
 Br (decide (n4 < (l22.len : Int))) (
 dwE w fun w3 =>
 zQi p1 fun a4 =>
 ∃ l28 : SV, w3.cell? (a4.add 1) = some (.slice l28.a l28.len l28.cap) /\
 zQi p1 fun a5 =>
 ∃ n30, w3.cell? a5 = some (.int .i64 n30) /\
 zQi p1 fun a6 =>
 ∃ l32 : SV, w3.cell? (a6.add 2) = some (.slice l32.a l32.len l32.cap) /\
 ∃ a7, l32.a = some a7 /\ 0 <= n4 /\ n4 < (l32.len : Int) /\
 ∃ b35_0, w3.cell? ((a7.add (n4.toNat * 2)).add 0) = some (.bool b35_0) /\
 ∃ l35_1 : SV, w3.cell? ((a7.add (n4.toNat * 2)).add 1) = some (.slice l35_1.a l35_1.len l35_1.cap) /\
 Calls prog 43 #[.slice l28.a l28.len l28.cap, .int .i64 n30, .agg #[.bool b35_0, .slice l35_1.a l35_1.len l35_1.cap]] w3 fun e w8 =>
 ∃ n36 : Int, e = .returned (.int .i64 n36) /\
 Br (n36 != 0) (
 zQd prog ds w8 fun w9 =>
 R (.returned (.int .i64 n36)) w9) (
 J1 (IntKind.i64.wrap (n4 + 1)) w8)) (
 F12_1 R ds w)
def F12_3 (R : Rt) (p1 : Option Addr) (n4 : Int) (ds : Ds) (w : World) : Prop :=
 zQD (fun (J1 : (Int) -> World -> Prop) (s : Int) (w : World) => F12_2 R J1 p1 s ds w) n4 w
def F12_5 (R : Rt) (n0_0 : Int) (l0_1 l0_2 : SV) (ds : Ds) (w : World) : Prop :=
 alE (.cells #[.int .i64 n0_0, .slice l0_1.a l0_1.len l0_1.cap, .slice l0_2.a l0_2.len l0_2.cap] 25) w fun r1 w10 =>
 ∃ n7, w10.cell? (⟨r1, 0, none⟩ : Addr) = some (.int .i64 n7) /\
 Calls prog 41 #[.int .i64 n7] w10 fun e w11 =>
 ∃ b8 : Bool, e = .returned (.bool b8) /\
 Br (!b8) (
 zQd prog ds w11 fun w12 =>
 R (.returned (.int .i64 1)) w12) (
 ∃ l11 : SV, w11.cell? ((⟨r1, 0, none⟩ : Addr).add 1) = some (.slice l11.a l11.len l11.cap) /\
 Calls prog 42 #[.slice l11.a l11.len l11.cap] w11 fun e w13 =>
 ∃ n12 : Int, e = .returned (.int .i64 n12) /\
 Br (n12 != 0) (
 zQd prog ds w13 fun w14 =>
 R (.returned (.int .i64 n12)) w14) (
 ∃ l17 : SV, w13.cell? ((⟨r1, 0, none⟩ : Addr).add 2) = some (.slice l17.a l17.len l17.cap) /\
 Br (decide ((l17.len : Int) > 300)) (
 zQd prog ds w13 fun w15 =>
 R (.returned (.int .i64 3)) w15) (
 F12_3 R (some (⟨r1, 0, none⟩ : Addr)) 0 ds w13)))
theorem F12_p : Pl prog f12 [aS 0 [.int .i64, .slice, .slice]] F12_5 := fun R =>
 pc 9 (zQx [pS 1, iS 4] (F12_3 R) (bk 0 (zQx [] (F12_1 R) lf) (lp [iS 4] [pS 1, iS 4] (F12_2 R) zXz fun J1 => lf)))
theorem yKW (n0_0 : Int) (l0_1 l0_2 : SV) (w : World) (R : Rt) (h : F12_5 R n0_0 l0_1 l0_2 [] w) : Calls prog 12 #[.agg #[.int .i64 n0_0, .slice l0_1.a l0_1.len l0_1.cap, .slice l0_2.a l0_2.len l0_2.cap]] w R :=
 plC F12_p func12 h
def F43_1 (R : Rt) (ds : Ds) (w : World) : Prop :=
 zQd prog ds w fun w1 =>
 R (.returned (.int .i64 0)) w1
def F43_2 (R : Rt) (J1 : (Int) -> World -> Prop) (l0 : SV) (n1 : Int) (p5 : Option Addr) (n7 : Int) (ds : Ds) (w : World) : Prop :=
 Br (decide (n7 < (l0.len : Int))) (
 dwE w fun w2 =>
 ∃ a3, l0.a = some a3 /\ 0 <= n7 /\ n7 < (l0.len : Int) /\
 ∃ s23_0, w2.cell? ((a3.add (n7.toNat * 4)).add 0) = some (.string s23_0) /\
 ∃ n23_1, w2.cell? ((a3.add (n7.toNat * 4)).add 1) = some (.int .i64 n23_1) /\
 ∃ n23_2, w2.cell? ((a3.add (n7.toNat * 4)).add 2) = some (.int .i64 n23_2) /\
 ∃ b23_3, w2.cell? ((a3.add (n7.toNat * 4)).add 3) = some (.bool b23_3) /\
 zQi p5 fun a4 =>
 ∃ l26 : SV, w2.cell? (a4.add 1) = some (.slice l26.a l26.len l26.cap) /\
 ∃ a5, l26.a = some a5 /\ 0 <= n7 /\ n7 < (l26.len : Int) /\
 ∃ n29_0, w2.cell? ((a5.add (n7.toNat * 3)).add 0) = some (.int .i64 n29_0) /\
 ∃ n29_1, w2.cell? ((a5.add (n7.toNat * 3)).add 1) = some (.int .i64 n29_1) /\
 ∃ s29_2, w2.cell? ((a5.add (n7.toNat * 3)).add 2) = some (.string s29_2) /\
 Calls prog 96 #[.agg #[.string s23_0, .int .i64 n23_1, .int .i64 n23_2, .bool b23_3], .int .i64 n1, .agg #[.int .i64 n29_0, .int .i64 n29_1, .string s29_2]] w2 fun e w6 =>
 ∃ b30 : Bool, e = .returned (.bool b30) /\
 Br (!b30) (
 zQd prog ds w6 fun w7 =>
 R (.returned (.int .i64 1)) w7) (
 J1 (IntKind.i64.wrap (n7 + 1)) w6)) (
 F43_1 R ds w)
def F43_3 (R : Rt) (l0 : SV) (n1 : Int) (p5 : Option Addr) (n7 : Int) (ds : Ds) (w : World) : Prop :=
 zQD (fun (J1 : (Int) -> World -> Prop) (s : Int) (w : World) => F43_2 R J1 l0 n1 p5 s ds w) n7 w
def F43_5 (R : Rt) (l0 : SV) (n1 : Int) (b2_0 : Bool) (l2_1 : SV) (ds : Ds) (w : World) : Prop :=
 alE (.cells #[.bool b2_0, .slice l2_1.a l2_1.len l2_1.cap] 77) w fun r5 w8 =>
 ∃ l9 : SV, w8.cell? ((⟨r5, 0, none⟩ : Addr).add 1) = some (.slice l9.a l9.len l9.cap) /\
 Br ((l9.len : Int) != (l0.len : Int)) (
 zQd prog ds w8 fun w9 =>
 R (.returned (.int .i64 10)) w9) (
 F43_3 R l0 n1 (some (⟨r5, 0, none⟩ : Addr)) 0 ds w8)
theorem F43_p : Pl prog f43 [lS 0, iS 1, aS 2 [.bool, .slice]] F43_5 := fun R =>
 pc 4 (zQx [lS 0, iS 1, pS 5, iS 7] (F43_3 R) (bk 0 (zQx [] (F43_1 R) lf) (lp [iS 7] [lS 0, iS 1, pS 5, iS 7] (F43_2 R) zXz fun J1 => lf)))
theorem yJT (l0 : SV) (n1 : Int) (b2_0 : Bool) (l2_1 : SV) (w : World) (R : Rt) (h : F43_5 R l0 n1 b2_0 l2_1 [] w) : Calls prog 43 #[.slice l0.a l0.len l0.cap, .int .i64 n1, .agg #[.bool b2_0, .slice l2_1.a l2_1.len l2_1.cap]] w R :=
 plC F43_p func43 h
end Go.Proofs.YtcihcbfcgjepfaaGreatDoor
/- Shallow texts of functions, printed by program, each checked by the kernel against the loaded code. No condition. -/
namespace Go.Proofs.YtcihcbfcgjepfaaGreatDoor
open Go.Sh Tryz
def F72_1 (R : Rt) (ds : Ds) (w : World) : Prop :=
 zQd prog ds w fun w1 =>
 R (.returned (.bool true)) w1
def F72_2 (R : Rt) (J1 : (Int) -> World -> Prop) (l0 l1 : SV) (n5 : Int) (ds : Ds) (w : World) : Prop :=
 Br (decide (n5 < (l0.len : Int))) (
 dwE w fun w2 =>
 ∃ a3, l0.a = some a3 /\ 0 <= n5 /\ n5 < (l0.len : Int) /\
 ∃ n20, w2.cell? (a3.add (n5.toNat * 1)) = some (.int .i64 n20) /\
 ∃ a4, l1.a = some a4 /\ 0 <= n5 /\ n5 < (l1.len : Int) /\
 ∃ n24, w2.cell? (a4.add (n5.toNat * 1)) = some (.int .i64 n24) /\
 Br (n20 != n24) (
 zQd prog ds w2 fun w5 =>
 R (.returned (.bool false)) w5) (
 J1 (IntKind.i64.wrap (n5 + 1)) w2)) (
 F72_1 R ds w)
def F72_3 (R : Rt) (l0 l1 : SV) (n5 : Int) (ds : Ds) (w : World) : Prop :=
 zQD (fun (J1 : (Int) -> World -> Prop) (s : Int) (w : World) => F72_2 R J1 l0 l1 s ds w) n5 w
def F72_5 (R : Rt) (l0 l1 : SV) (ds : Ds) (w : World) : Prop :=
 Br ((l0.len : Int) != (l1.len : Int)) (
 zQd prog ds w fun w6 =>
 R (.returned (.bool false)) w6) (
 F72_3 R l0 l1 0 ds w)
theorem F72_p : Pl prog f72 [lS 0, lS 1] F72_5 := fun R =>
 pc 4 (zQx [lS 0, lS 1, iS 5] (F72_3 R) (bk 0 (zQx [] (F72_1 R) lf) (lp [iS 5] [lS 0, lS 1, iS 5] (F72_2 R) zXz fun J1 => lf)))
theorem yJx (l0 l1 : SV) (w : World) (R : Rt) (h : F72_5 R l0 l1 [] w) : Calls prog 72 #[.slice l0.a l0.len l0.cap, .slice l1.a l1.len l1.cap] w R :=
 plC F72_p func72 h
end Go.Proofs.YtcihcbfcgjepfaaGreatDoor
/- Shallow texts of functions, printed by program, each checked by the kernel against the loaded code. No condition. -/
namespace Go.Proofs.YtcihcbfcgjepfaaGreatDoor
open Go.Sh Tryz
def F36_1 (R : Rt) (n3 : Int) (ds : Ds) (w : World) : Prop :=
 zQd prog ds w fun w1 =>
 R (.returned (.int .i64 n3)) w1
def F36_2 (R : Rt) (J1 : (Int × Int) -> World -> Prop) (p1 : Option Addr) (n3 n5 : Int) (ds : Ds) (w : World) : Prop :=
 zQi p1 fun a2 =>
 ∃ l28 : SV, w.cell? (a2.add 2) = some (.slice l28.a l28.len l28.cap) /\
 Br (decide (n5 < (l28.len : Int))) (
 zQi p1 fun a3 =>
 ∃ l35 : SV, w.cell? (a3.add 2) = some (.slice l35.a l35.len l35.cap) /\
 ∃ a4, l35.a = some a4 /\ 0 <= n5 /\ n5 < (l35.len : Int) /\
 ∃ l39 : SV, w.cell? ((a4.add (n5.toNat * 2)).add 1) = some (.slice l39.a l39.len l39.cap) /\
 Calls prog 91 #[.slice l39.a l39.len l39.cap] w fun e w5 =>
 ∃ n40 : Int, e = .returned (.int .i64 n40) /\
 J1 ((IntKind.i64.wrap (n3 + (IntKind.i64.wrap ((8 : Int) + n40)))), (IntKind.i64.wrap (n5 + 1))) w5) (
 F36_1 R n3 ds w)
def F36_3 (R : Rt) (p1 : Option Addr) (n3 n5 : Int) (ds : Ds) (w : World) : Prop :=
 zQD (fun (J1 : (Int × Int) -> World -> Prop) (s : Int × Int) (w : World) => F36_2 R J1 p1 s.1 s.2 ds w) (n3, n5) w
def F36_5 (R : Rt) (p1 : Option Addr) (n3 : Int) (ds : Ds) (w : World) : Prop :=
 F36_3 R p1 n3 0 ds w
def F36_6 (R : Rt) (J1 : (Int × Int) -> World -> Prop) (p1 : Option Addr) (n3 n4 : Int) (ds : Ds) (w : World) : Prop :=
 zQi p1 fun a6 =>
 ∃ l12 : SV, w.cell? (a6.add 1) = some (.slice l12.a l12.len l12.cap) /\
 Br (decide (n4 < (l12.len : Int))) (
 zQi p1 fun a7 =>
 ∃ l19 : SV, w.cell? (a7.add 1) = some (.slice l19.a l19.len l19.cap) /\
 ∃ a8, l19.a = some a8 /\ 0 <= n4 /\ n4 < (l19.len : Int) /\
 ∃ s23, w.cell? (a8.add (n4.toNat * 4)) = some (.string s23) /\
 J1 ((IntKind.i64.wrap (n3 + (s23.size : Int))), (IntKind.i64.wrap (n4 + 1))) w) (
 F36_5 R p1 n3 ds w)
def F36_7 (R : Rt) (p1 : Option Addr) (n3 n4 : Int) (ds : Ds) (w : World) : Prop :=
 zQD (fun (J1 : (Int × Int) -> World -> Prop) (s : Int × Int) (w : World) => F36_6 R J1 p1 s.1 s.2 ds w) (n3, n4) w
def F36_9 (R : Rt) (n0_0 : Int) (l0_1 l0_2 : SV) (ds : Ds) (w : World) : Prop :=
 alE (.cells #[.int .i64 n0_0, .slice l0_1.a l0_1.len l0_1.cap, .slice l0_2.a l0_2.len l0_2.cap] 25) w fun r1 w9 =>
 ∃ l7 : SV, w9.cell? ((⟨r1, 0, none⟩ : Addr).add 1) = some (.slice l7.a l7.len l7.cap) /\
 F36_7 R (some (⟨r1, 0, none⟩ : Addr)) (IntKind.i64.wrap ((16 : Int) * (l7.len : Int))) 0 ds w9
theorem F36_p : Pl prog f36 [aS 0 [.int .i64, .slice, .slice]] F36_9 := fun R =>
 pc 3 (zQx [pS 1, iS 3, iS 4] (F36_7 R) (bk 0 (zQx [pS 1, iS 3] (F36_5 R) (pc 1 (zQx [pS 1, iS 3, iS 5] (F36_3 R) (bk 2 (zQx [iS 3] (F36_1 R) lf) (lp [iS 3, iS 5] [pS 1, iS 3, iS 5] (F36_2 R) zXz fun J1 => lf))))) (lp [iS 3, iS 4] [pS 1, iS 3, iS 4] (F36_6 R) zXz fun J1 => lf)))
theorem yKb (n0_0 : Int) (l0_1 l0_2 : SV) (w : World) (R : Rt) (h : F36_9 R n0_0 l0_1 l0_2 [] w) : Calls prog 36 #[.agg #[.int .i64 n0_0, .slice l0_1.a l0_1.len l0_1.cap, .slice l0_2.a l0_2.len l0_2.cap]] w R :=
 plC F36_p func36 h
def F91_1 (R : Rt) (n3 : Int) (ds : Ds) (w : World) : Prop :=
 zQd prog ds w fun w1 =>
 R (.returned (.int .i64 n3)) w1
def F91_2 (R : Rt) (J1 : (Int × Int) -> World -> Prop) (l0 : SV) (n3 n4 : Int) (ds : Ds) (w : World) : Prop :=
 Br (decide (n4 < (l0.len : Int))) (
 ∃ a2, l0.a = some a2 /\ 0 <= n4 /\ n4 < (l0.len : Int) /\
 ∃ s19, w.cell? ((a2.add (n4.toNat * 3)).add 2) = some (.string s19) /\
 J1 ((IntKind.i64.wrap (n3 + (s19.size : Int))), (IntKind.i64.wrap (n4 + 1))) w) (
 F91_1 R n3 ds w)
def F91_3 (R : Rt) (l0 : SV) (n3 n4 : Int) (ds : Ds) (w : World) : Prop :=
 zQD (fun (J1 : (Int × Int) -> World -> Prop) (s : Int × Int) (w : World) => F91_2 R J1 l0 s.1 s.2 ds w) (n3, n4) w
def F91_5 (R : Rt) (l0 : SV) (ds : Ds) (w : World) : Prop :=
 F91_3 R l0 (IntKind.i64.wrap ((8 : Int) * (l0.len : Int))) 0 ds w
theorem F91_p : Pl prog f91 [lS 0] F91_5 := fun R =>
 pc 3 (zQx [lS 0, iS 3, iS 4] (F91_3 R) (bk 0 (zQx [iS 3] (F91_1 R) lf) (lp [iS 3, iS 4] [lS 0, iS 3, iS 4] (F91_2 R) zXz fun J1 => lf)))
theorem yJt (l0 : SV) (w : World) (R : Rt) (h : F91_5 R l0 [] w) : Calls prog 91 #[.slice l0.a l0.len l0.cap] w R :=
 plC F91_p func91 h
end Go.Proofs.YtcihcbfcgjepfaaGreatDoor
/- Shallow texts of functions, printed by program, each checked by the kernel against the loaded code. No condition. -/
namespace Go.Proofs.YtcihcbfcgjepfaaGreatDoor
open Go.Sh Tryz
def F19_1 (R : Rt) (n0_0 n0_1 : Int) (s0_2 : ByteArray) (n1_0 n1_1 : Int) (s1_2 : ByteArray) (ds : Ds) (w : World) : Prop :=
 alE (.cells #[.int .i64 n0_0, .int .i64 n0_1, .string s0_2] 28) w fun r2 w1 =>
 alE (.cells #[.int .i64 n1_0, .int .i64 n1_1, .string s1_2] 28) w1 fun r3 w2 =>
 ∃ n6, w2.cell? (⟨r2, 0, none⟩ : Addr) = some (.int .i64 n6) /\
 ∃ n8, w2.cell? (⟨r3, 0, none⟩ : Addr) = some (.int .i64 n8) /\
 Br (n6 == n8) (
 ∃ n12, w2.cell? ((⟨r2, 0, none⟩ : Addr).add 1) = some (.int .i64 n12) /\
 ∃ n14, w2.cell? ((⟨r3, 0, none⟩ : Addr).add 1) = some (.int .i64 n14) /\
 Br (n12 == n14) (
 ∃ s19, w2.cell? ((⟨r2, 0, none⟩ : Addr).add 2) = some (.string s19) /\
 ∃ s21, w2.cell? ((⟨r3, 0, none⟩ : Addr).add 2) = some (.string s21) /\
 zQd prog ds w2 fun w3 =>
 R (.returned (.bool (s19.toList == s21.toList))) w3) (
 zQd prog ds w2 fun w4 =>
 R (.returned (.bool false)) w4)) (
 zQd prog ds w2 fun w5 =>
 R (.returned (.bool false)) w5)
theorem F19_p : Pl prog f19 [aS 0 [.int .i64, .int .i64, .str], aS 1 [.int .i64, .int .i64, .str]] F19_1 := fun R =>
 lf
theorem yJ0 (n0_0 n0_1 : Int) (s0_2 : ByteArray) (n1_0 n1_1 : Int) (s1_2 : ByteArray) (w : World) (R : Rt) (h : F19_1 R n0_0 n0_1 s0_2 n1_0 n1_1 s1_2 [] w) : Calls prog 19 #[.agg #[.int .i64 n0_0, .int .i64 n0_1, .string s0_2], .agg #[.int .i64 n1_0, .int .i64 n1_1, .string s1_2]] w R :=
 plC F19_p func19 h
end Go.Proofs.YtcihcbfcgjepfaaGreatDoor
/- Shallow texts of functions, printed by program, each checked by the kernel against the loaded code. No condition. -/
namespace Go.Proofs.YtcihcbfcgjepfaaGreatDoor
open Go.Sh Tryz
def F81_1 (R : Rt) (p2 p5 : Option Addr) (ds : Ds) (w : World) : Prop :=
 zQi p5 fun a1 =>
 ∃ b28_0, w.cell? (a1.add 0) = some (.bool b28_0) /\
 ∃ l28_1 : SV, w.cell? (a1.add 1) = some (.slice l28_1.a l28_1.len l28_1.cap) /\
 zQi p2 fun a2 =>
 stA prog 77 a2 #[.bool b28_0, .slice l28_1.a l28_1.len l28_1.cap] w fun w3 =>
 zQd prog ds w3 fun w4 =>
 zQi p2 fun a5 =>
 ∃ bR0_0, w4.cell? (a5.add 0) = some (.bool bR0_0) /\
 ∃ lR0_1 : SV, w4.cell? (a5.add 1) = some (.slice lR0_1.a lR0_1.len lR0_1.cap) /\
 R (.returned (.tuple #[.agg #[.bool bR0_0, .slice lR0_1.a lR0_1.len lR0_1.cap], .int .i64 0])) w4
def F81_2 (R : Rt) (J1 : (Int) -> World -> Prop) (p2 p5 : Option Addr) (l14 : SV) (n15 n16 : Int) (ds : Ds) (w : World) : Prop :=
 Br (decide (n16 < n15)) (
 ∃ a6, l14.a = some a6 /\ 0 <= n16 /\ n16 < (l14.len : Int) /\
 ∃ s19_0, w.cell? ((a6.add (n16.toNat * 4)).add 0) = some (.string s19_0) /\
 ∃ n19_1, w.cell? ((a6.add (n16.toNat * 4)).add 1) = some (.int .i64 n19_1) /\
 ∃ n19_2, w.cell? ((a6.add (n16.toNat * 4)).add 2) = some (.int .i64 n19_2) /\
 ∃ b19_3, w.cell? ((a6.add (n16.toNat * 4)).add 3) = some (.bool b19_3) /\
 alE (.cells #[.string (⟨#[]⟩ : ByteArray), .int .i64 0, .int .i64 0, .bool false] 38) w fun r7 w7 =>
 stA prog 38 (⟨r7, 0, none⟩ : Addr) #[.string s19_0, .int .i64 n19_1, .int .i64 n19_2, .bool b19_3] w7 fun w8 =>
 dwE w8 fun w9 =>
 ∃ S1 : World -> Prop, S1 w9 /\
 zQi p5 fun a10 =>
 ∃ l21 : SV, (∀ w', S1 w' -> w'.cell? (a10.add 1) = some (.slice l21.a l21.len l21.cap)) /\
 ∃ s22_0, (∀ w', S1 w' -> w'.cell? ((⟨r7, 0, none⟩ : Addr).add 0) = some (.string s22_0)) /\
 ∃ n22_1, (∀ w', S1 w' -> w'.cell? ((⟨r7, 0, none⟩ : Addr).add 1) = some (.int .i64 n22_1)) /\
 ∃ n22_2, (∀ w', S1 w' -> w'.cell? ((⟨r7, 0, none⟩ : Addr).add 2) = some (.int .i64 n22_2)) /\
 ∃ b22_3, (∀ w', S1 w' -> w'.cell? ((⟨r7, 0, none⟩ : Addr).add 3) = some (.bool b22_3)) /\
 Calls prog 108 #[.agg #[.string s22_0, .int .i64 n22_1, .int .i64 n22_2, .bool b22_3]] w9 fun e w11 =>
 ∃ n23_0 : Int, ∃ n23_1 : Int, ∃ s23_2 : ByteArray, e = .returned (.agg #[.int .i64 n23_0, .int .i64 n23_1, .string s23_2]) /\
 S1 w11 /\
 alE (.cells #[.int .i64 n23_0, .int .i64 n23_1, .string s23_2] 28) w11 fun r24 w12 =>
 S1 w12 /\
 ∃ l25 : SV, ∃ w13, (Builtin.append_ #[75, 75] 75 #[.slice l21.a l21.len l21.cap, .slice (some ⟨r24, 0, none⟩) 1 1]).run prog w12 = .ok (.slice l25.a l25.len l25.cap) w13 /\
 zQi p5 fun a14 =>
 st1 (a14.add 1) (.slice l25.a l25.len l25.cap) w13 fun w15 =>
 J1 (IntKind.i64.wrap (n16 + 1)) w15) (
 F81_1 R p2 p5 ds w)
def F81_3 (R : Rt) (p2 p5 : Option Addr) (l14 : SV) (n15 n16 : Int) (ds : Ds) (w : World) : Prop :=
 zQD (fun (J1 : (Int) -> World -> Prop) (s : Int) (w : World) => F81_2 R J1 p2 p5 l14 n15 s ds w) n16 w
def F81_5 (R : Rt) (l0 : SV) (ds : Ds) (w : World) : Prop :=
 alE (.cells #[.bool false, .slice none 0 0] 77) w fun r2 w16 =>
 Calls prog 93 #[.slice l0.a l0.len l0.cap] w16 fun e w17 =>
 ∃ n9 : Int, e = .returned (.int .i64 n9) /\
 Br (n9 != 0) (
 stA prog 77 (⟨r2, 0, none⟩ : Addr) #[.bool false, .slice none 0 0] w17 fun w18 =>
 zQd prog ds w18 fun w19 =>
 ∃ bR0_0, w19.cell? ((⟨r2, 0, none⟩ : Addr).add 0) = some (.bool bR0_0) /\
 ∃ lR0_1 : SV, w19.cell? ((⟨r2, 0, none⟩ : Addr).add 1) = some (.slice lR0_1.a lR0_1.len lR0_1.cap) /\
 R (.returned (.tuple #[.agg #[.bool bR0_0, .slice lR0_1.a lR0_1.len lR0_1.cap], .int .i64 n9])) w19) (
 alE (.cells #[.bool false, .slice none 0 0] 77) w17 fun r5 w20 =>
 F81_3 R (some (⟨r2, 0, none⟩ : Addr)) (some (⟨r5, 0, none⟩ : Addr)) l0 (l0.len : Int) 0 ds w20)
theorem F81_p : Pl prog f81 [lS 0] F81_5 := fun R =>
 pc 6 (zQx [pS 2, pS 5, lS 14, iS 15, iS 16] (F81_3 R) (bk 0 (zQx [pS 2, pS 5] (F81_1 R) lf) (lp [iS 16] [pS 2, pS 5, lS 14, iS 15, iS 16] (F81_2 R) zXz fun J1 => lf)))
theorem yW4 (l0 : SV) (w : World) (R : Rt) (h : F81_5 R l0 [] w) : Calls prog 81 #[.slice l0.a l0.len l0.cap] w R :=
 plC F81_p func81 h
def yY5 (R : Rt) (p2 p3 : Option Addr) (ds : Ds) (w : World) : Prop :=
 zQi p3 fun a1 =>
 ∃ b21_0, w.cell? (a1.add 0) = some (.bool b21_0) /\
 ∃ l21_1 : SV, w.cell? (a1.add 1) = some (.slice l21_1.a l21_1.len l21_1.cap) /\
 zQi p2 fun a2 =>
 stA prog 77 a2 #[.bool b21_0, .slice l21_1.a l21_1.len l21_1.cap] w fun w3 =>
 zQd prog ds w3 fun w4 =>
 zQi p2 fun a5 =>
 ∃ bR0_0, w4.cell? (a5.add 0) = some (.bool bR0_0) /\
 ∃ lR0_1 : SV, w4.cell? (a5.add 1) = some (.slice lR0_1.a lR0_1.len lR0_1.cap) /\
 R (.returned (.agg #[.bool bR0_0, .slice lR0_1.a lR0_1.len lR0_1.cap])) w4
def yYM (R : Rt) (J1 : (Int) -> World -> Prop) (l0 : SV) (p2 p3 : Option Addr) (n4 : Int) (ds : Ds) (w : World) : Prop :=
 Br (decide (n4 < (l0.len : Int))) (
 dwE w fun w6 =>
 ∃ S1 : World -> Prop, S1 w6 /\
 zQi p3 fun a7 =>
 ∃ l12 : SV, (∀ w', S1 w' -> w'.cell? (a7.add 1) = some (.slice l12.a l12.len l12.cap)) /\
 ∃ a8, l0.a = some a8 /\ 0 <= n4 /\ n4 < (l0.len : Int) /\
 ∃ s16_0, (∀ w', S1 w' -> w'.cell? ((a8.add (n4.toNat * 4)).add 0) = some (.string s16_0)) /\
 ∃ n16_1, (∀ w', S1 w' -> w'.cell? ((a8.add (n4.toNat * 4)).add 1) = some (.int .i64 n16_1)) /\
 ∃ n16_2, (∀ w', S1 w' -> w'.cell? ((a8.add (n4.toNat * 4)).add 2) = some (.int .i64 n16_2)) /\
 ∃ b16_3, (∀ w', S1 w' -> w'.cell? ((a8.add (n4.toNat * 4)).add 3) = some (.bool b16_3)) /\
 Calls prog 163 #[.agg #[.string s16_0, .int .i64 n16_1, .int .i64 n16_2, .bool b16_3]] w6 fun e w9 =>
 ∃ n17_0 : Int, ∃ n17_1 : Int, ∃ s17_2 : ByteArray, e = .returned (.agg #[.int .i64 n17_0, .int .i64 n17_1, .string s17_2]) /\
 S1 w9 /\
 alE (.cells #[.int .i64 n17_0, .int .i64 n17_1, .string s17_2] 28) w9 fun r18 w10 =>
 S1 w10 /\
 ∃ l19 : SV, ∃ w11, (Builtin.append_ #[75, 75] 75 #[.slice l12.a l12.len l12.cap, .slice (some ⟨r18, 0, none⟩) 1 1]).run prog w10 = .ok (.slice l19.a l19.len l19.cap) w11 /\
 zQi p3 fun a12 =>
 st1 (a12.add 1) (.slice l19.a l19.len l19.cap) w11 fun w13 =>
 J1 (IntKind.i64.wrap (n4 + 1)) w13) (
 yY5 R p2 p3 ds w)
def xQE (R : Rt) (l0 : SV) (p2 p3 : Option Addr) (n4 : Int) (ds : Ds) (w : World) : Prop :=
 zQD (fun (J1 : (Int) -> World -> Prop) (s : Int) (w : World) => yYM R J1 l0 p2 p3 s ds w) n4 w
def yYB (R : Rt) (l0 : SV) (ds : Ds) (w : World) : Prop :=
 alE (.cells #[.bool false, .slice none 0 0] 77) w fun r2 w14 =>
 alE (.cells #[.bool false, .slice none 0 0] 77) w14 fun r3 w15 =>
 xQE R l0 (some (⟨r2, 0, none⟩ : Addr)) (some (⟨r3, 0, none⟩ : Addr)) 0 ds w15
theorem F125_p : Pl prog f125 [lS 0] yYB := fun R =>
 pc 3 (zQx [lS 0, pS 2, pS 3, iS 4] (xQE R) (bk 0 (zQx [pS 2, pS 3] (yY5 R) lf) (lp [iS 4] [lS 0, pS 2, pS 3, iS 4] (yYM R) zXz fun J1 => lf)))
theorem yXL (l0 : SV) (w : World) (R : Rt) (h : yYB R l0 [] w) : Calls prog 125 #[.slice l0.a l0.len l0.cap] w R :=
 plC F125_p func125 h
def F60_1 (R : Rt) (b0_0 : Bool) (l0_1 : SV) (b1_0 : Bool) (l1_1 : SV) (ds : Ds) (w : World) : Prop :=
 alE (.cells #[.bool b0_0, .slice l0_1.a l0_1.len l0_1.cap] 77) w fun r2 w1 =>
 alE (.cells #[.bool b1_0, .slice l1_1.a l1_1.len l1_1.cap] 77) w1 fun r3 w2 =>
 ∃ b6, w2.cell? (⟨r2, 0, none⟩ : Addr) = some (.bool b6) /\
 ∃ b8, w2.cell? (⟨r3, 0, none⟩ : Addr) = some (.bool b8) /\
 Br (b6 == b8) (
 ∃ l12 : SV, w2.cell? ((⟨r2, 0, none⟩ : Addr).add 1) = some (.slice l12.a l12.len l12.cap) /\
 ∃ l14 : SV, w2.cell? ((⟨r3, 0, none⟩ : Addr).add 1) = some (.slice l14.a l14.len l14.cap) /\
 Calls prog 117 #[.slice l12.a l12.len l12.cap, .slice l14.a l14.len l14.cap] w2 fun e w3 =>
 ∃ b15 : Bool, e = .returned (.bool b15) /\
 zQd prog ds w3 fun w4 =>
 R (.returned (.bool b15)) w4) (
 zQd prog ds w2 fun w5 =>
 R (.returned (.bool false)) w5)
theorem F60_p : Pl prog f60 [aS 0 [.bool, .slice], aS 1 [.bool, .slice]] F60_1 := fun R =>
 lf
theorem yKv (b0_0 : Bool) (l0_1 : SV) (b1_0 : Bool) (l1_1 : SV) (w : World) (R : Rt) (h : F60_1 R b0_0 l0_1 b1_0 l1_1 [] w) : Calls prog 60 #[.agg #[.bool b0_0, .slice l0_1.a l0_1.len l0_1.cap], .agg #[.bool b1_0, .slice l1_1.a l1_1.len l1_1.cap]] w R :=
 plC F60_p func60 h
def xXl (R : Rt) (ds : Ds) (w : World) : Prop :=
 zQd prog ds w fun w1 =>
 R (.returned (.bool true)) w1
def xQu (R : Rt) (J1 : (Int) -> World -> Prop) (l0 l1 : SV) (n5 : Int) (ds : Ds) (w : World) : Prop :=
 Br (decide (n5 < (l0.len : Int))) (
 dwE w fun w2 =>
 ∃ a3, l0.a = some a3 /\ 0 <= n5 /\ n5 < (l0.len : Int) /\
 ∃ n20_0, w2.cell? ((a3.add (n5.toNat * 3)).add 0) = some (.int .i64 n20_0) /\
 ∃ n20_1, w2.cell? ((a3.add (n5.toNat * 3)).add 1) = some (.int .i64 n20_1) /\
 ∃ s20_2, w2.cell? ((a3.add (n5.toNat * 3)).add 2) = some (.string s20_2) /\
 ∃ a4, l1.a = some a4 /\ 0 <= n5 /\ n5 < (l1.len : Int) /\
 ∃ n24_0, w2.cell? ((a4.add (n5.toNat * 3)).add 0) = some (.int .i64 n24_0) /\
 ∃ n24_1, w2.cell? ((a4.add (n5.toNat * 3)).add 1) = some (.int .i64 n24_1) /\
 ∃ s24_2, w2.cell? ((a4.add (n5.toNat * 3)).add 2) = some (.string s24_2) /\
 Calls prog 19 #[.agg #[.int .i64 n20_0, .int .i64 n20_1, .string s20_2], .agg #[.int .i64 n24_0, .int .i64 n24_1, .string s24_2]] w2 fun e w5 =>
 ∃ b25 : Bool, e = .returned (.bool b25) /\
 Br (!b25) (
 zQd prog ds w5 fun w6 =>
 R (.returned (.bool false)) w6) (
 J1 (IntKind.i64.wrap (n5 + 1)) w5)) (
 xXl R ds w)
def yYU (R : Rt) (l0 l1 : SV) (n5 : Int) (ds : Ds) (w : World) : Prop :=
 zQD (fun (J1 : (Int) -> World -> Prop) (s : Int) (w : World) => xQu R J1 l0 l1 s ds w) n5 w
def yYv (R : Rt) (l0 l1 : SV) (ds : Ds) (w : World) : Prop :=
 Br ((l0.len : Int) != (l1.len : Int)) (
 zQd prog ds w fun w7 =>
 R (.returned (.bool false)) w7) (
 yYU R l0 l1 0 ds w)
theorem F117_p : Pl prog f117 [lS 0, lS 1] yYv := fun R =>
 pc 4 (zQx [lS 0, lS 1, iS 5] (yYU R) (bk 0 (zQx [] (xXl R) lf) (lp [iS 5] [lS 0, lS 1, iS 5] (xQu R) zXz fun J1 => lf)))
theorem yZC (l0 l1 : SV) (w : World) (R : Rt) (h : yYv R l0 l1 [] w) : Calls prog 117 #[.slice l0.a l0.len l0.cap, .slice l1.a l1.len l1.cap] w R :=
 plC F117_p func117 h
end Go.Proofs.YtcihcbfcgjepfaaGreatDoor
/- Shallow texts of functions, printed by program, each checked by the kernel against the loaded code. No condition. -/
namespace Go.Proofs.YtcihcbfcgjepfaaGreatDoor
open Go.Sh Tryz
def F37_1 (R : Rt) (n0 : Int) (ds : Ds) (w : World) : Prop :=
 alE (.cells #[.int .i64 0, .int .i64 0, .string (⟨#[]⟩ : ByteArray)] 28) w fun r2 w1 =>
 stA prog 28 (⟨r2, 0, none⟩ : Addr) #[.int .i64 2, .int .i64 n0, .string (⟨#[]⟩ : ByteArray)] w1 fun w2 =>
 zQd prog ds w2 fun w3 =>
 ∃ nR0_0, w3.cell? ((⟨r2, 0, none⟩ : Addr).add 0) = some (.int .i64 nR0_0) /\
 ∃ nR0_1, w3.cell? ((⟨r2, 0, none⟩ : Addr).add 1) = some (.int .i64 nR0_1) /\
 ∃ sR0_2, w3.cell? ((⟨r2, 0, none⟩ : Addr).add 2) = some (.string sR0_2) /\
 R (.returned (.agg #[.int .i64 nR0_0, .int .i64 nR0_1, .string sR0_2])) w3
theorem F37_p : Pl prog f37 [iS 0] F37_1 := fun R =>
 lf
theorem yWK (n0 : Int) (w : World) (R : Rt) (h : F37_1 R n0 [] w) : Calls prog 37 #[.int .i64 n0] w R :=
 plC F37_p func37 h
end Go.Proofs.YtcihcbfcgjepfaaGreatDoor
/- Shallow texts of functions, printed by program, each checked by the kernel against the loaded code. No condition. -/
namespace Go.Proofs.YtcihcbfcgjepfaaGreatDoor
open Go.Sh Tryz
def F85_1 (R : Rt) (p0 : Option Addr) (ds : Ds) (w : World) : Prop :=
 zQi p0 fun a1 =>
 Calls prog 138 #[.pointer (some a1)] w fun e w2 =>
 e = .returned (.tuple #[]) /\
 zQd prog ds w2 fun w3 =>
 R (.returned (.tuple #[])) w3
theorem F85_p : Pl prog f85 [pS 0] F85_1 := fun R =>
 lf
theorem yJO (p0 : Option Addr) (w : World) (R : Rt) (h : F85_1 R p0 [] w) : Calls prog 85 #[.pointer p0] w R :=
 plC F85_p func85 h
def F86_1 (R : Rt) (p0 : Option Addr) (ds : Ds) (w : World) : Prop :=
 zQi p0 fun a1 =>
 Calls prog 139 #[.pointer (some a1)] w fun e w2 =>
 e = .returned (.tuple #[]) /\
 zQd prog ds w2 fun w3 =>
 R (.returned (.tuple #[])) w3
theorem F86_p : Pl prog f86 [pS 0] F86_1 := fun R =>
 lf
theorem yZi (p0 : Option Addr) (w : World) (R : Rt) (u : FrameMode) (h : F86_1 R p0 [] w) : CallsD prog 86 #[.pointer p0] u w fun e u' w' => u' = u /\ R e w' :=
 plD F86_p func86 u h
def xQU (R : Rt) (p0 : Option Addr) (ds : Ds) (w : World) : Prop :=
 ∃ w1, (callFunc 168 #[]).run prog w = .ok (.value (.tuple #[])) w1 /\
 zQi p0 fun a2 =>
 ∃ b6 : Bool, ∃ w3, (callFunc 169 #[.pointer (some a2), .int .i32 0, .int .i32 1]).run prog w1 = .ok (.value (.bool b6)) w3 /\
 Br b6 (
 ∃ w4, (callFunc 170 #[]).run prog w3 = .ok (.value (.tuple #[])) w4 /\
 ∃ v9 : Value, ∃ w5, (convert 202 206 (.pointer p0)).run prog w4 = .ok (v9) w5 /\
 ∃ w6, (callFunc 171 #[v9]).run prog w5 = .ok (.value (.tuple #[])) w6 /\
 zQd prog ds w6 fun w7 =>
 R (.returned (.tuple #[])) w7) (
 Calls prog 172 #[.pointer p0] w3 fun e w8 =>
 e = .returned (.tuple #[]) /\
 zQd prog ds w8 fun w9 =>
 R (.returned (.tuple #[])) w9)
theorem F138_p : Pl prog f138 [pS 0] xQU := fun R =>
 lf
theorem yXF (p0 : Option Addr) (w : World) (R : Rt) (h : xQU R p0 [] w) : Calls prog 138 #[.pointer p0] w R :=
 plC F138_p func138 h
def xXp (R : Rt) (p0 : Option Addr) (ds : Ds) (w : World) : Prop :=
 zQi p0 fun a1 =>
 ∃ n6, w.cell? a1 = some (.int .i32 n6) /\
 ∃ v8 : Value, ∃ w2, (convert 202 206 (.pointer p0)).run prog w = .ok (v8) w2 /\
 ∃ w3, (callFunc 173 #[v8]).run prog w2 = .ok (.value (.tuple #[])) w3 /\
 ∃ w4, (callFunc 168 #[]).run prog w3 = .ok (.value (.tuple #[])) w4 /\
 zQi p0 fun a5 =>
 ∃ n14 : Int, ∃ w6, (callFunc 174 #[.pointer (some a5), .int .i32 (-1)]).run prog w4 = .ok (.value (.int .i32 n14)) w6 /\
 Br (n14 != 0) (
 Calls prog 175 #[.pointer p0, .int .i32 n14] w6 fun e w7 =>
 e = .returned (.tuple #[]) /\
 ∃ w8, (callFunc 170 #[]).run prog w7 = .ok (.value (.tuple #[])) w8 /\
 zQd prog ds w8 fun w9 =>
 R (.returned (.tuple #[])) w9) (
 ∃ w10, (callFunc 170 #[]).run prog w6 = .ok (.value (.tuple #[])) w10 /\
 zQd prog ds w10 fun w11 =>
 R (.returned (.tuple #[])) w11)
theorem F139_p : Pl prog f139 [pS 0] xXp := fun R =>
 lf
theorem yXT (p0 : Option Addr) (w : World) (R : Rt) (h : xXp R p0 [] w) : Calls prog 139 #[.pointer p0] w R :=
 plC F139_p func139 h
def F47_1 (R : Rt) (p0 : Option Addr) (n1 : Int) (ds : Ds) (w : World) : Prop :=
 ∃ b8 : Bool, ∃ w1, (eqS .eql 32 (.tmp 7) (.const (.pointer none)) (.pointer p0) (.pointer none)).run prog w = .ok (.bool b8) w1 /\
 Br b8 (
 zQd prog ds w1 fun w2 =>
 R (.returned (.tuple #[.pointer none, .func (.func 102) #[] #[], .int .i64 9])) w2) (
 zQi p0 fun a3 =>
 Calls prog 85 #[.pointer (some a3)] w1 fun e w4 =>
 e = .returned (.tuple #[]) /\
 Br (decide (n1 < 0)) (
 dwE w4 fun w5 =>
 zQi p0 fun a6 =>
 zQd prog ds w5 fun w7 =>
 R (.returned (.tuple #[.pointer none, .func (.func 86) #[.pointer (some a6)] #[], .int .i64 1])) w7) (
 Br (decide (n1 >= 4)) (
 dwE w4 fun w8 =>
 zQi p0 fun a9 =>
 zQd prog ds w8 fun w10 =>
 R (.returned (.tuple #[.pointer none, .func (.func 86) #[.pointer (some a9)] #[], .int .i64 1])) w10) (
 dwE w4 fun w11 =>
 zQi p0 fun a12 =>
 0 <= n1 /\ n1 < (4 : Int) /\
 zQi p0 fun a13 =>
 zQd prog ds w11 fun w14 =>
 R (.returned (.tuple #[.pointer (some ((a12.add 5).add (n1.toNat * 4))), .func (.func 86) #[.pointer (some a13)] #[], .int .i64 0])) w14)))
theorem F47_p : Pl prog f47 [pS 0, iS 1] F47_1 := fun R =>
 lf
theorem yKV (p0 : Option Addr) (n1 : Int) (w : World) (R : Rt) (h : F47_1 R p0 n1 [] w) : Calls prog 47 #[.pointer p0, .int .i64 n1] w R :=
 plC F47_p func47 h
end Go.Proofs.YtcihcbfcgjepfaaGreatDoor
/- Shallow texts of functions, printed by program, each checked by the kernel against the loaded code. No condition. -/
namespace Go.Proofs.YtcihcbfcgjepfaaGreatDoor
open Go.Sh Tryz
def F11_1 (R : Rt) (p5 : Option Addr) (ds : Ds) (w : World) : Prop :=
 zQd prog ds w fun w1 =>
 R (.returned (.tuple #[.pointer p5, .int .i64 0])) w1
def F11_2 (R : Rt) (J1 : (Int) -> World -> Prop) (p5 : Option Addr) (n24 : Int) (ds : Ds) (w : World) : Prop :=
 Br (decide (n24 < 4)) (
 alE (.map #[] 0) w fun r29 w2 =>
 zQi p5 fun a3 =>
 0 <= n24 /\ n24 < (4 : Int) /\
 st1 (((a3.add 5).add (n24.toNat * 4)).add 2) (.map (some r29)) w2 fun w4 =>
 J1 (IntKind.i64.wrap (n24 + 1)) w4) (
 F11_1 R p5 ds w)
def F11_3 (R : Rt) (p5 : Option Addr) (n24 : Int) (ds : Ds) (w : World) : Prop :=
 zQD (fun (J1 : (Int) -> World -> Prop) (s : Int) (w : World) => F11_2 R J1 p5 s ds w) n24 w
def F11_5 (R : Rt) (n0_0 : Int) (l0_1 l0_2 : SV) (ds : Ds) (w : World) : Prop :=
 alE (.cells #[.int .i64 n0_0, .slice l0_1.a l0_1.len l0_1.cap, .slice l0_2.a l0_2.len l0_2.cap] 25) w fun r1 w5 =>
 ∃ n7_0, w5.cell? ((⟨r1, 0, none⟩ : Addr).add 0) = some (.int .i64 n7_0) /\
 ∃ l7_1 : SV, w5.cell? ((⟨r1, 0, none⟩ : Addr).add 1) = some (.slice l7_1.a l7_1.len l7_1.cap) /\
 ∃ l7_2 : SV, w5.cell? ((⟨r1, 0, none⟩ : Addr).add 2) = some (.slice l7_2.a l7_2.len l7_2.cap) /\
 Calls prog 38 #[.agg #[.int .i64 n7_0, .slice l7_1.a l7_1.len l7_1.cap, .slice l7_2.a l7_2.len l7_2.cap]] w5 fun e w6 =>
 ∃ n8 : Int, e = .returned (.int .i64 n8) /\
 Br (n8 != 0) (
 zQd prog ds w6 fun w7 =>
 R (.returned (.tuple #[.pointer none, .int .i64 n8])) w7) (
 dwE w6 fun w8 =>
 ∃ S1 : World -> Prop, S1 w8 /\
 ∃ l13 : SV, (∀ w', S1 w' -> w'.cell? ((⟨r1, 0, none⟩ : Addr).add 1) = some (.slice l13.a l13.len l13.cap)) /\
 ∃ l16 : SV, (∀ w', S1 w' -> w'.cell? ((⟨r1, 0, none⟩ : Addr).add 2) = some (.slice l16.a l16.len l16.cap)) /\
 Calls prog 39 #[.slice l13.a l13.len l13.cap] w8 fun e w9 =>
 ∃ l14 : SV, e = .returned (.slice l14.a l14.len l14.cap) /\
 S1 w9 /\
 Calls prog 40 #[.slice l16.a l16.len l16.cap] w9 fun e w10 =>
 ∃ l17 : SV, e = .returned (.slice l17.a l17.len l17.cap) /\
 st1 ((⟨r1, 0, none⟩ : Addr).add 1) (.slice l14.a l14.len l14.cap) w10 fun w11 =>
 st1 ((⟨r1, 0, none⟩ : Addr).add 2) (.slice l17.a l17.len l17.cap) w11 fun w12 =>
 ∃ n20_0, w12.cell? ((⟨r1, 0, none⟩ : Addr).add 0) = some (.int .i64 n20_0) /\
 ∃ l20_1 : SV, w12.cell? ((⟨r1, 0, none⟩ : Addr).add 1) = some (.slice l20_1.a l20_1.len l20_1.cap) /\
 ∃ l20_2 : SV, w12.cell? ((⟨r1, 0, none⟩ : Addr).add 2) = some (.slice l20_2.a l20_2.len l20_2.cap) /\
 alE (.map #[] 0) w12 fun r21 w13 =>
 alE (.cells #[.int .i32 0, .int .u32 0, .int .i64 n20_0, .slice l20_1.a l20_1.len l20_1.cap, .slice l20_2.a l20_2.len l20_2.cap, .int .i64 0, .int .i64 0, .map none, .slice none 0 0, .int .i64 0, .int .i64 0, .map none, .slice none 0 0, .int .i64 0, .int .i64 0, .map none, .slice none 0 0, .int .i64 0, .int .i64 0, .map none, .slice none 0 0, .map (some r21)] 93) w13 fun r23 w14 =>
 F11_3 R (some (⟨r23, 0, none⟩ : Addr)) 0 ds w14)
theorem F11_p : Pl prog f11 [aS 0 [.int .i64, .slice, .slice]] F11_5 := fun R =>
 pc 7 (zQx [pS 5, iS 24] (F11_3 R) (bk 0 (zQx [pS 5] (F11_1 R) lf) (lp [iS 24] [pS 5, iS 24] (F11_2 R) zXz fun J1 => lf)))
theorem yWU (n0_0 : Int) (l0_1 l0_2 : SV) (w : World) (R : Rt) (h : F11_5 R n0_0 l0_1 l0_2 [] w) : Calls prog 11 #[.agg #[.int .i64 n0_0, .slice l0_1.a l0_1.len l0_1.cap, .slice l0_2.a l0_2.len l0_2.cap]] w R :=
 plC F11_p func11 h
def F40_1 (R : Rt) (l3 : SV) (ds : Ds) (w : World) : Prop :=
 zQd prog ds w fun w1 =>
 R (.returned (.slice l3.a l3.len l3.cap)) w1
def F40_2 (R : Rt) (J1 : (SV × Int) -> World -> Prop) (l3 l6 : SV) (n7 n8 : Int) (ds : Ds) (w : World) : Prop :=
 Br (decide (n8 < n7)) (
 ∃ a2, l6.a = some a2 /\ 0 <= n8 /\ n8 < (l6.len : Int) /\
 ∃ b11_0, w.cell? ((a2.add (n8.toNat * 2)).add 0) = some (.bool b11_0) /\
 ∃ l11_1 : SV, w.cell? ((a2.add (n8.toNat * 2)).add 1) = some (.slice l11_1.a l11_1.len l11_1.cap) /\
 alE (.cells #[.bool false, .slice none 0 0] 77) w fun r5 w3 =>
 stA prog 77 (⟨r5, 0, none⟩ : Addr) #[.bool b11_0, .slice l11_1.a l11_1.len l11_1.cap] w3 fun w4 =>
 ∃ b13_0, w4.cell? ((⟨r5, 0, none⟩ : Addr).add 0) = some (.bool b13_0) /\
 ∃ l13_1 : SV, w4.cell? ((⟨r5, 0, none⟩ : Addr).add 1) = some (.slice l13_1.a l13_1.len l13_1.cap) /\
 Calls prog 88 #[.agg #[.bool b13_0, .slice l13_1.a l13_1.len l13_1.cap]] w4 fun e w5 =>
 ∃ b14_0 : Bool, ∃ l14_1 : SV, e = .returned (.agg #[.bool b14_0, .slice l14_1.a l14_1.len l14_1.cap]) /\
 alE (.cells #[.bool b14_0, .slice l14_1.a l14_1.len l14_1.cap] 77) w5 fun r15 w6 =>
 ∃ l16 : SV, ∃ w7, (Builtin.append_ #[23, 23] 23 #[.slice l3.a l3.len l3.cap, .slice (some ⟨r15, 0, none⟩) 1 1]).run prog w6 = .ok (.slice l16.a l16.len l16.cap) w7 /\
 J1 (l16, (IntKind.i64.wrap (n8 + 1))) w7) (
 F40_1 R l3 ds w)
def F40_3 (R : Rt) (l3 l6 : SV) (n7 n8 : Int) (ds : Ds) (w : World) : Prop :=
 zQD (fun (J1 : (SV × Int) -> World -> Prop) (s : SV × Int) (w : World) => F40_2 R J1 s.1 l6 n7 s.2 ds w) (l3, n8) w
def F40_5 (R : Rt) (l0 : SV) (ds : Ds) (w : World) : Prop :=
 F40_3 R ⟨none, 0, 0⟩ l0 (l0.len : Int) 0 ds w
theorem F40_p : Pl prog f40 [lS 0] F40_5 := fun R =>
 pc 3 (zQx [lS 3, lS 6, iS 7, iS 8] (F40_3 R) (bk 0 (zQx [lS 3] (F40_1 R) lf) (lp [lS 3, iS 8] [lS 3, lS 6, iS 7, iS 8] (F40_2 R) zXz fun J1 => lf)))
theorem yWv (l0 : SV) (w : World) (R : Rt) (h : F40_5 R l0 [] w) : Calls prog 40 #[.slice l0.a l0.len l0.cap] w R :=
 plC F40_p func40 h
def F88_1 (R : Rt) (b0_0 : Bool) (l0_1 : SV) (ds : Ds) (w : World) : Prop :=
 alE (.cells #[.bool b0_0, .slice l0_1.a l0_1.len l0_1.cap] 77) w fun r1 w1 =>
 alE (.cells #[.bool false, .slice none 0 0] 77) w1 fun r2 w2 =>
 dwE w2 fun w3 =>
 ∃ S1 : World -> Prop, S1 w3 /\
 ∃ b4, (∀ w', S1 w' -> w'.cell? (⟨r1, 0, none⟩ : Addr) = some (.bool b4)) /\
 ∃ l6 : SV, (∀ w', S1 w' -> w'.cell? ((⟨r1, 0, none⟩ : Addr).add 1) = some (.slice l6.a l6.len l6.cap)) /\
 Calls prog 141 #[.slice l6.a l6.len l6.cap] w3 fun e w4 =>
 ∃ l7 : SV, e = .returned (.slice l7.a l7.len l7.cap) /\
 S1 w4 /\
 stA prog 77 (⟨r2, 0, none⟩ : Addr) #[.bool b4, .slice l7.a l7.len l7.cap] w4 fun w5 =>
 zQd prog ds w5 fun w6 =>
 ∃ bR0_0, w6.cell? ((⟨r2, 0, none⟩ : Addr).add 0) = some (.bool bR0_0) /\
 ∃ lR0_1 : SV, w6.cell? ((⟨r2, 0, none⟩ : Addr).add 1) = some (.slice lR0_1.a lR0_1.len lR0_1.cap) /\
 R (.returned (.agg #[.bool bR0_0, .slice lR0_1.a lR0_1.len lR0_1.cap])) w6
theorem F88_p : Pl prog f88 [aS 0 [.bool, .slice]] F88_1 := fun R =>
 lf
theorem yKS (b0_0 : Bool) (l0_1 : SV) (w : World) (R : Rt) (h : F88_1 R b0_0 l0_1 [] w) : Calls prog 88 #[.agg #[.bool b0_0, .slice l0_1.a l0_1.len l0_1.cap]] w R :=
 plC F88_p func88 h
def xQ9 (R : Rt) (l0 : SV) (ds : Ds) (w : World) : Prop :=
 ∃ b4 : Bool, ∃ w1, (eqS .eql 75 (.tmp 3) (.const (.slice none 0 0)) (.slice l0.a l0.len l0.cap) (.slice none 0 0)).run prog w = .ok (.bool b4) w1 /\
 Br b4 (
 zQd prog ds w1 fun w2 =>
 R (.returned (.slice none 0 0)) w2) (
 alE (.cells #[] 28) w1 fun r5 w3 =>
 ∃ l7 : SV, ∃ w4, (Builtin.append_ #[75, 75] 75 #[.slice (some ⟨r5, 0, none⟩) 0 0, .slice l0.a l0.len l0.cap]).run prog w3 = .ok (.slice l7.a l7.len l7.cap) w4 /\
 zQd prog ds w4 fun w5 =>
 R (.returned (.slice l7.a l7.len l7.cap)) w5)
theorem F141_p : Pl prog f141 [lS 0] xQ9 := fun R =>
 lf
theorem yZT (l0 : SV) (w : World) (R : Rt) (h : xQ9 R l0 [] w) : Calls prog 141 #[.slice l0.a l0.len l0.cap] w R :=
 plC F141_p func141 h
def F14_1 (R : Rt) (p0 : Option Addr) (n1 n2 : Int) (ds : Ds) (w : World) : Prop :=
 Calls prog 47 #[.pointer p0, .int .i64 n1] w fun e w1 =>
 ∃ p13_0 : Option Addr, ∃ v13_1 : Value, ∃ n13_2 : Int, e = .returned (.tuple #[.pointer p13_0, v13_1, .int .i64 n13_2]) /\
 fnE v13_1 fun fx firstx capx =>
 Br (n13_2 != 0) (
 zQd prog ({ target := .fn (.func fx) capx, args := (firstx.toList ++ ([] : List Value)).toArray } :: ds) w1 fun w2 =>
 R (.returned (.int .i64 n13_2)) w2) (
 Br (decide (n2 < 0)) (
 zQd prog ({ target := .fn (.func fx) capx, args := (firstx.toList ++ ([] : List Value)).toArray } :: ds) w1 fun w3 =>
 R (.returned (.int .i64 1)) w3) (
 Br (decide (n2 > 4)) (
 zQd prog ({ target := .fn (.func fx) capx, args := (firstx.toList ++ ([] : List Value)).toArray } :: ds) w1 fun w4 =>
 R (.returned (.int .i64 1)) w4) (
 Calls prog 48 #[.pointer p13_0] w1 fun e w5 =>
 ∃ b31 : Bool, e = .returned (.bool b31) /\
 Br (!b31) (
 zQd prog ({ target := .fn (.func fx) capx, args := (firstx.toList ++ ([] : List Value)).toArray } :: ds) w5 fun w6 =>
 R (.returned (.int .i64 9)) w6) (
 zQi p13_0 fun a7 =>
 st1 a7 (.int .i64 n2) w5 fun w8 =>
 zQd prog ({ target := .fn (.func fx) capx, args := (firstx.toList ++ ([] : List Value)).toArray } :: ds) w8 fun w9 =>
 R (.returned (.int .i64 0)) w9))))
theorem F14_p : Pl prog f14 [pS 0, iS 1, iS 2] F14_1 := fun R =>
 lf
theorem yWi (p0 : Option Addr) (n1 n2 : Int) (w : World) (R : Rt) (h : F14_1 R p0 n1 n2 [] w) : Calls prog 14 #[.pointer p0, .int .i64 n1, .int .i64 n2] w R :=
 plC F14_p func14 h
def F48_1 (R : Rt) (p0 : Option Addr) (ds : Ds) (w : World) : Prop :=
 zQi p0 fun a1 =>
 ∃ m6, w.cell? (a1.add 2) = some (.map m6) /\
 ∃ n7 : Int, ∃ w2, (Builtin.len_ #[88] 3 #[.map m6]).run prog w = .ok (.int .i64 n7) w2 /\
 Br (n7 == 0) (
 zQi p0 fun a3 =>
 ∃ l13 : SV, w2.cell? (a3.add 3) = some (.slice l13.a l13.len l13.cap) /\
 zQd prog ds w2 fun w4 =>
 R (.returned (.bool ((l13.len : Int) == 0))) w4) (
 zQd prog ds w2 fun w5 =>
 R (.returned (.bool false)) w5)
theorem F48_p : Pl prog f48 [pS 0] F48_1 := fun R =>
 lf
theorem yKG (p0 : Option Addr) (w : World) (R : Rt) (h : F48_1 R p0 [] w) : Calls prog 48 #[.pointer p0] w R :=
 plC F48_p func48 h
def yY0 (R : Rt) (p0 : Option Addr) (ds : Ds) (w : World) : Prop :=
 zQi p0 fun a1 =>
 ∃ n6, w.cell? a1 = some (.int .i64 n6) /\
 Br (n6 == 1) (
 zQd prog ds w fun w2 =>
 R (.returned (.bool true)) w2) (
 zQi p0 fun a3 =>
 ∃ n12, w.cell? a3 = some (.int .i64 n12) /\
 zQd prog ds w fun w4 =>
 R (.returned (.bool (n12 == 2))) w4)
theorem F103_p : Pl prog f103 [pS 0] yY0 := fun R =>
 lf
theorem yZL (p0 : Option Addr) (w : World) (R : Rt) (h : yY0 R p0 [] w) : Calls prog 103 #[.pointer p0] w R :=
 plC F103_p func103 h
def xZf (R : Rt) (p0 : Option Addr) (n2 : Int) (p6 p8 : Option Addr) (b9 : Bool) (ds : Ds) (w : World) : Prop :=
 Br b9 (
 zQi p8 fun a1 =>
 ∃ b55_0, w.cell? ((a1.add 2).add 0) = some (.bool b55_0) /\
 ∃ l55_1 : SV, w.cell? ((a1.add 2).add 1) = some (.slice l55_1.a l55_1.len l55_1.cap) /\
 zQi p6 fun a2 =>
 stA prog 77 a2 #[.bool b55_0, .slice l55_1.a l55_1.len l55_1.cap] w fun w3 =>
 zQd prog ds w3 fun w4 =>
 zQi p6 fun a5 =>
 ∃ bR0_0, w4.cell? (a5.add 0) = some (.bool bR0_0) /\
 ∃ lR0_1 : SV, w4.cell? (a5.add 1) = some (.slice lR0_1.a lR0_1.len lR0_1.cap) /\
 R (.returned (.tuple #[.agg #[.bool bR0_0, .slice lR0_1.a lR0_1.len lR0_1.cap], .bool true])) w4) (
 zQi p0 fun a6 =>
 ∃ l60 : SV, w.cell? ((a6.add 2).add 2) = some (.slice l60.a l60.len l60.cap) /\
 ∃ a7, l60.a = some a7 /\ 0 <= (IntKind.i64.wrap (n2 - 1)) /\ (IntKind.i64.wrap (n2 - 1)) < (l60.len : Int) /\
 ∃ b64_0, w.cell? ((a7.add ((IntKind.i64.wrap (n2 - 1)).toNat * 2)).add 0) = some (.bool b64_0) /\
 ∃ l64_1 : SV, w.cell? ((a7.add ((IntKind.i64.wrap (n2 - 1)).toNat * 2)).add 1) = some (.slice l64_1.a l64_1.len l64_1.cap) /\
 zQi p6 fun a8 =>
 stA prog 77 a8 #[.bool b64_0, .slice l64_1.a l64_1.len l64_1.cap] w fun w9 =>
 zQd prog ds w9 fun w10 =>
 zQi p6 fun a11 =>
 ∃ bR0_0, w10.cell? (a11.add 0) = some (.bool bR0_0) /\
 ∃ lR0_1 : SV, w10.cell? (a11.add 1) = some (.slice lR0_1.a lR0_1.len lR0_1.cap) /\
 R (.returned (.tuple #[.agg #[.bool bR0_0, .slice lR0_1.a lR0_1.len lR0_1.cap], .bool true])) w10)
def F49_2 (R : Rt) (p0 p1 : Option Addr) (n2 : Int) (ds : Ds) (w : World) : Prop :=
 alE (.cells #[.bool false, .slice none 0 0] 77) w fun r6 w12 =>
 Br (decide (n2 < 0)) (
 zQi p1 fun a13 =>
 ∃ l17 : SV, w12.cell? (a13.add 3) = some (.slice l17.a l17.len l17.cap) /\
 Br (decide (n2 >= (IntKind.i64.wrap (0 - (l17.len : Int))))) (
 zQi p1 fun a14 =>
 ∃ l25 : SV, w12.cell? (a14.add 3) = some (.slice l25.a l25.len l25.cap) /\
 ∃ a15, l25.a = some a15 /\ 0 <= (IntKind.i64.wrap ((IntKind.i64.wrap (0 - n2)) - 1)) /\ (IntKind.i64.wrap ((IntKind.i64.wrap (0 - n2)) - 1)) < (l25.len : Int) /\
 ∃ b30_0, w12.cell? ((a15.add ((IntKind.i64.wrap ((IntKind.i64.wrap (0 - n2)) - 1)).toNat * 2)).add 0) = some (.bool b30_0) /\
 ∃ l30_1 : SV, w12.cell? ((a15.add ((IntKind.i64.wrap ((IntKind.i64.wrap (0 - n2)) - 1)).toNat * 2)).add 1) = some (.slice l30_1.a l30_1.len l30_1.cap) /\
 stA prog 77 (⟨r6, 0, none⟩ : Addr) #[.bool b30_0, .slice l30_1.a l30_1.len l30_1.cap] w12 fun w16 =>
 zQd prog ds w16 fun w17 =>
 ∃ bR0_0, w17.cell? ((⟨r6, 0, none⟩ : Addr).add 0) = some (.bool bR0_0) /\
 ∃ lR0_1 : SV, w17.cell? ((⟨r6, 0, none⟩ : Addr).add 1) = some (.slice lR0_1.a lR0_1.len lR0_1.cap) /\
 R (.returned (.tuple #[.agg #[.bool bR0_0, .slice lR0_1.a lR0_1.len lR0_1.cap], .bool true])) w17) (
 Br (decide (n2 < 1)) (
 stA prog 77 (⟨r6, 0, none⟩ : Addr) #[.bool false, .slice none 0 0] w12 fun w18 =>
 zQd prog ds w18 fun w19 =>
 ∃ bR0_0, w19.cell? ((⟨r6, 0, none⟩ : Addr).add 0) = some (.bool bR0_0) /\
 ∃ lR0_1 : SV, w19.cell? ((⟨r6, 0, none⟩ : Addr).add 1) = some (.slice lR0_1.a lR0_1.len lR0_1.cap) /\
 R (.returned (.tuple #[.agg #[.bool bR0_0, .slice lR0_1.a lR0_1.len lR0_1.cap], .bool false])) w19) (
 zQi p0 fun a20 =>
 ∃ l39 : SV, w12.cell? ((a20.add 2).add 2) = some (.slice l39.a l39.len l39.cap) /\
 Br (decide (n2 > (l39.len : Int))) (
 stA prog 77 (⟨r6, 0, none⟩ : Addr) #[.bool false, .slice none 0 0] w12 fun w21 =>
 zQd prog ds w21 fun w22 =>
 ∃ bR0_0, w22.cell? ((⟨r6, 0, none⟩ : Addr).add 0) = some (.bool bR0_0) /\
 ∃ lR0_1 : SV, w22.cell? ((⟨r6, 0, none⟩ : Addr).add 1) = some (.slice lR0_1.a lR0_1.len lR0_1.cap) /\
 R (.returned (.tuple #[.agg #[.bool bR0_0, .slice lR0_1.a lR0_1.len lR0_1.cap], .bool false])) w22) (
 zQi p1 fun a23 =>
 ∃ m48, w12.cell? (a23.add 2) = some (.map m48) /\
 ∃ b50_0_0 : Bool, ∃ l50_0_1 : SV, ∃ b50_0_2 : Bool, ∃ l50_0_3 : SV, ∃ b50_1 : Bool, ∃ w24, (Instr.lookup 88 (.map m48) (.int .i64 n2) true).run prog w12 = .ok (.tuple #[.agg #[.bool b50_0_0, .slice l50_0_1.a l50_0_1.len l50_0_1.cap, .bool b50_0_2, .slice l50_0_3.a l50_0_3.len l50_0_3.cap], .bool b50_1]) w24 /\
 alE (.cells #[.bool false, .slice none 0 0, .bool false, .slice none 0 0] 133) w24 fun r8 w25 =>
 stA prog 133 (⟨r8, 0, none⟩ : Addr) #[.bool b50_0_0, .slice l50_0_1.a l50_0_1.len l50_0_1.cap, .bool b50_0_2, .slice l50_0_3.a l50_0_3.len l50_0_3.cap] w25 fun w26 =>
 xZf R p0 n2 (some (⟨r6, 0, none⟩ : Addr)) (some (⟨r8, 0, none⟩ : Addr)) b50_1 ds w26)))) (
 Br (decide (n2 < 1)) (
 stA prog 77 (⟨r6, 0, none⟩ : Addr) #[.bool false, .slice none 0 0] w12 fun w27 =>
 zQd prog ds w27 fun w28 =>
 ∃ bR0_0, w28.cell? ((⟨r6, 0, none⟩ : Addr).add 0) = some (.bool bR0_0) /\
 ∃ lR0_1 : SV, w28.cell? ((⟨r6, 0, none⟩ : Addr).add 1) = some (.slice lR0_1.a lR0_1.len lR0_1.cap) /\
 R (.returned (.tuple #[.agg #[.bool bR0_0, .slice lR0_1.a lR0_1.len lR0_1.cap], .bool false])) w28) (
 zQi p0 fun a29 =>
 ∃ l39 : SV, w12.cell? ((a29.add 2).add 2) = some (.slice l39.a l39.len l39.cap) /\
 Br (decide (n2 > (l39.len : Int))) (
 stA prog 77 (⟨r6, 0, none⟩ : Addr) #[.bool false, .slice none 0 0] w12 fun w30 =>
 zQd prog ds w30 fun w31 =>
 ∃ bR0_0, w31.cell? ((⟨r6, 0, none⟩ : Addr).add 0) = some (.bool bR0_0) /\
 ∃ lR0_1 : SV, w31.cell? ((⟨r6, 0, none⟩ : Addr).add 1) = some (.slice lR0_1.a lR0_1.len lR0_1.cap) /\
 R (.returned (.tuple #[.agg #[.bool bR0_0, .slice lR0_1.a lR0_1.len lR0_1.cap], .bool false])) w31) (
 zQi p1 fun a32 =>
 ∃ m48, w12.cell? (a32.add 2) = some (.map m48) /\
 ∃ b50_0_0 : Bool, ∃ l50_0_1 : SV, ∃ b50_0_2 : Bool, ∃ l50_0_3 : SV, ∃ b50_1 : Bool, ∃ w33, (Instr.lookup 88 (.map m48) (.int .i64 n2) true).run prog w12 = .ok (.tuple #[.agg #[.bool b50_0_0, .slice l50_0_1.a l50_0_1.len l50_0_1.cap, .bool b50_0_2, .slice l50_0_3.a l50_0_3.len l50_0_3.cap], .bool b50_1]) w33 /\
 alE (.cells #[.bool false, .slice none 0 0, .bool false, .slice none 0 0] 133) w33 fun r8 w34 =>
 stA prog 133 (⟨r8, 0, none⟩ : Addr) #[.bool b50_0_0, .slice l50_0_1.a l50_0_1.len l50_0_1.cap, .bool b50_0_2, .slice l50_0_3.a l50_0_3.len l50_0_3.cap] w34 fun w35 =>
 xZf R p0 n2 (some (⟨r6, 0, none⟩ : Addr)) (some (⟨r8, 0, none⟩ : Addr)) b50_1 ds w35)))
theorem F49_p : Pl prog f49 [pS 0, pS 1, iS 2] F49_2 := fun R =>
 pc 6 (zQx [pS 0, iS 2, pS 6, pS 8, bS 9] (xZf R) lf)
theorem yJK (p0 p1 : Option Addr) (n2 : Int) (w : World) (R : Rt) (h : F49_2 R p0 p1 n2 [] w) : Calls prog 49 #[.pointer p0, .pointer p1, .int .i64 n2] w R :=
 plC F49_p func49 h
def F15_1 (R : Rt) (p0 : Option Addr) (n1 n2 : Int) (ds : Ds) (w : World) : Prop :=
 Calls prog 47 #[.pointer p0, .int .i64 n1] w fun e w1 =>
 ∃ p16_0 : Option Addr, ∃ v16_1 : Value, ∃ n16_2 : Int, e = .returned (.tuple #[.pointer p16_0, v16_1, .int .i64 n16_2]) /\
 fnE v16_1 fun fx firstx capx =>
 Br (n16_2 != 0) (
 zQd prog ({ target := .fn (.func fx) capx, args := (firstx.toList ++ ([] : List Value)).toArray } :: ds) w1 fun w2 =>
 R (.returned (.int .i64 n16_2)) w2) (
 Calls prog 49 #[.pointer p0, .pointer p16_0, .int .i64 n2] w1 fun e w3 =>
 ∃ b28_0_0 : Bool, ∃ l28_0_1 : SV, ∃ b28_1 : Bool, e = .returned (.tuple #[.agg #[.bool b28_0_0, .slice l28_0_1.a l28_0_1.len l28_0_1.cap], .bool b28_1]) /\
 alE (.cells #[.bool false, .slice none 0 0] 77) w3 fun r10 w4 =>
 stA prog 77 (⟨r10, 0, none⟩ : Addr) #[.bool b28_0_0, .slice l28_0_1.a l28_0_1.len l28_0_1.cap] w4 fun w5 =>
 Br (!b28_1) (
 zQd prog ({ target := .fn (.func fx) capx, args := (firstx.toList ++ ([] : List Value)).toArray } :: ds) w5 fun w6 =>
 R (.returned (.int .i64 4)) w6) (
 zQi p16_0 fun a7 =>
 ∃ n37, w5.cell? (a7.add 1) = some (.int .i64 n37) /\
 Br (n2 != n37) (
 Calls prog 50 #[.pointer p0, .int .i64 n1, .pointer p16_0] w5 fun e w8 =>
 ∃ n42 : Int, e = .returned (.int .i64 n42) /\
 Br (n42 != 0) (
 zQd prog ({ target := .fn (.func fx) capx, args := (firstx.toList ++ ([] : List Value)).toArray } :: ds) w8 fun w9 =>
 R (.returned (.int .i64 n42)) w9) (
 zQi p16_0 fun a10 =>
 st1 (a10.add 1) (.int .i64 n2) w8 fun w11 =>
 zQd prog ({ target := .fn (.func fx) capx, args := (firstx.toList ++ ([] : List Value)).toArray } :: ds) w11 fun w12 =>
 R (.returned (.int .i64 0)) w12)) (
 zQi p16_0 fun a13 =>
 st1 (a13.add 1) (.int .i64 n2) w5 fun w14 =>
 zQd prog ({ target := .fn (.func fx) capx, args := (firstx.toList ++ ([] : List Value)).toArray } :: ds) w14 fun w15 =>
 R (.returned (.int .i64 0)) w15)))
theorem F15_p : Pl prog f15 [pS 0, iS 1, iS 2] F15_1 := fun R =>
 lf
theorem yJo (p0 : Option Addr) (n1 n2 : Int) (w : World) (R : Rt) (h : F15_1 R p0 n1 n2 [] w) : Calls prog 15 #[.pointer p0, .int .i64 n1, .int .i64 n2] w R :=
 plC F15_p func15 h
def F50_1 (R : Rt) (p0 : Option Addr) (n1 : Int) (p2 : Option Addr) (ds : Ds) (w : World) : Prop :=
 Calls prog 103 #[.pointer p2] w fun e w1 =>
 ∃ b10 : Bool, e = .returned (.bool b10) /\
 Br (!b10) (
 zQd prog ds w1 fun w2 =>
 R (.returned (.int .i64 0)) w2) (
 Calls prog 48 #[.pointer p2] w1 fun e w3 =>
 ∃ b14 : Bool, e = .returned (.bool b14) /\
 Br b14 (
 zQd prog ds w3 fun w4 =>
 R (.returned (.int .i64 0)) w4) (
 Calls prog 55 #[.pointer p0, .int .i64 n1, .pointer p2, .bool false] w3 fun e w5 =>
 ∃ l20_0 : SV, ∃ n20_1 : Int, e = .returned (.tuple #[.slice l20_0.a l20_0.len l20_0.cap, .int .i64 n20_1]) /\
 zQd prog ds w5 fun w6 =>
 R (.returned (.int .i64 n20_1)) w6))
theorem F50_p : Pl prog f50 [pS 0, iS 1, pS 2] F50_1 := fun R =>
 lf
theorem yKQ (p0 : Option Addr) (n1 : Int) (p2 : Option Addr) (w : World) (R : Rt) (h : F50_1 R p0 n1 p2 [] w) : Calls prog 50 #[.pointer p0, .int .i64 n1, .pointer p2] w R :=
 plC F50_p func50 h
end Go.Proofs.YtcihcbfcgjepfaaGreatDoor
/- Shallow texts of functions, printed by program, each checked by the kernel against the loaded code. No condition. -/
namespace Go.Proofs.YtcihcbfcgjepfaaGreatDoor
open Go.Sh Tryz
def F39_1 (R : Rt) (l0 : SV) (ds : Ds) (w : World) : Prop :=
 ∃ b4 : Bool, ∃ w1, (eqS .eql 22 (.tmp 3) (.const (.slice none 0 0)) (.slice l0.a l0.len l0.cap) (.slice none 0 0)).run prog w = .ok (.bool b4) w1 /\
 Br b4 (
 zQd prog ds w1 fun w2 =>
 R (.returned (.slice none 0 0)) w2) (
 alE (.cells #[] 38) w1 fun r5 w3 =>
 ∃ l7 : SV, ∃ w4, (Builtin.append_ #[22, 22] 22 #[.slice (some ⟨r5, 0, none⟩) 0 0, .slice l0.a l0.len l0.cap]).run prog w3 = .ok (.slice l7.a l7.len l7.cap) w4 /\
 zQd prog ds w4 fun w5 =>
 R (.returned (.slice l7.a l7.len l7.cap)) w5)
theorem F39_p : Pl prog f39 [lS 0] F39_1 := fun R =>
 lf
theorem yW8 (l0 : SV) (w : World) (R : Rt) (h : F39_1 R l0 [] w) : Calls prog 39 #[.slice l0.a l0.len l0.cap] w R :=
 plC F39_p func39 h
end Go.Proofs.YtcihcbfcgjepfaaGreatDoor
/- Shallow texts of functions, printed by program, each checked by the kernel against the loaded code. No condition. -/
namespace Go.Proofs.YtcihcbfcgjepfaaGreatDoor
open Go.Sh Tryz
def F28_1 (R : Rt) (p0 p6 : Option Addr) (n10 : Int) (ds : Ds) (w : World) : Prop :=
 Br (decide (n10 >= 300)) (
 zQd prog ds w fun w1 =>
 R (.returned (.tuple #[.int .i64 0, .int .i64 3])) w1) (
 zQi p0 fun a2 =>
 ∃ l59 : SV, w.cell? ((a2.add 2).add 1) = some (.slice l59.a l59.len l59.cap) /\
 Calls prog 81 #[.slice l59.a l59.len l59.cap] w fun e w3 =>
 ∃ b60_0_0 : Bool, ∃ l60_0_1 : SV, ∃ n60_1 : Int, e = .returned (.tuple #[.agg #[.bool b60_0_0, .slice l60_0_1.a l60_0_1.len l60_0_1.cap], .int .i64 n60_1]) /\
 alE (.cells #[.bool false, .slice none 0 0] 77) w3 fun r13 w4 =>
 stA prog 77 (⟨r13, 0, none⟩ : Addr) #[.bool b60_0_0, .slice l60_0_1.a l60_0_1.len l60_0_1.cap] w4 fun w5 =>
 zQi p6 fun a6 =>
 ∃ n66, w5.cell? a6 = some (.int .i64 n66) /\
 Br (n66 == 0) (
 dwE w5 fun w7 =>
 ∃ S1 : World -> Prop, S1 w7 /\
 zQi p0 fun a8 =>
 ∃ l73 : SV, (∀ w', S1 w' -> w'.cell? ((a8.add 2).add 2) = some (.slice l73.a l73.len l73.cap)) /\
 ∃ b74_0, (∀ w', S1 w' -> w'.cell? ((⟨r13, 0, none⟩ : Addr).add 0) = some (.bool b74_0)) /\
 ∃ l74_1 : SV, (∀ w', S1 w' -> w'.cell? ((⟨r13, 0, none⟩ : Addr).add 1) = some (.slice l74_1.a l74_1.len l74_1.cap)) /\
 alE (.cells #[.bool b74_0, .slice l74_1.a l74_1.len l74_1.cap] 77) w7 fun r75 w9 =>
 S1 w9 /\
 ∃ l76 : SV, ∃ w10, (Builtin.append_ #[23, 23] 23 #[.slice l73.a l73.len l73.cap, .slice (some ⟨r75, 0, none⟩) 1 1]).run prog w9 = .ok (.slice l76.a l76.len l76.cap) w10 /\
 zQi p0 fun a11 =>
 st1 ((a11.add 2).add 2) (.slice l76.a l76.len l76.cap) w10 fun w12 =>
 zQi p0 fun a13 =>
 ∃ l85 : SV, w12.cell? ((a13.add 2).add 2) = some (.slice l85.a l85.len l85.cap) /\
 zQi p6 fun a14 =>
 st1 (a14.add 1) (.int .i64 (l85.len : Int)) w12 fun w15 =>
 zQi p6 fun a16 =>
 ∃ n111, w15.cell? (a16.add 1) = some (.int .i64 n111) /\
 zQd prog ds w15 fun w17 =>
 R (.returned (.tuple #[.int .i64 n111, .int .i64 0])) w17) (
 dwE w5 fun w18 =>
 ∃ S2 : World -> Prop, S2 w18 /\
 zQi p6 fun a19 =>
 ∃ l93 : SV, (∀ w', S2 w' -> w'.cell? (a19.add 3) = some (.slice l93.a l93.len l93.cap)) /\
 ∃ b94_0, (∀ w', S2 w' -> w'.cell? ((⟨r13, 0, none⟩ : Addr).add 0) = some (.bool b94_0)) /\
 ∃ l94_1 : SV, (∀ w', S2 w' -> w'.cell? ((⟨r13, 0, none⟩ : Addr).add 1) = some (.slice l94_1.a l94_1.len l94_1.cap)) /\
 alE (.cells #[.bool b94_0, .slice l94_1.a l94_1.len l94_1.cap] 77) w18 fun r95 w20 =>
 S2 w20 /\
 ∃ l96 : SV, ∃ w21, (Builtin.append_ #[23, 23] 23 #[.slice l93.a l93.len l93.cap, .slice (some ⟨r95, 0, none⟩) 1 1]).run prog w20 = .ok (.slice l96.a l96.len l96.cap) w21 /\
 zQi p6 fun a22 =>
 st1 (a22.add 3) (.slice l96.a l96.len l96.cap) w21 fun w23 =>
 zQi p6 fun a24 =>
 ∃ l103 : SV, w23.cell? (a24.add 3) = some (.slice l103.a l103.len l103.cap) /\
 zQi p6 fun a25 =>
 st1 (a25.add 1) (.int .i64 (IntKind.i64.wrap (0 - (l103.len : Int)))) w23 fun w26 =>
 zQi p6 fun a27 =>
 ∃ n111, w26.cell? (a27.add 1) = some (.int .i64 n111) /\
 zQd prog ds w26 fun w28 =>
 R (.returned (.tuple #[.int .i64 n111, .int .i64 0])) w28))
def F28_2 (R : Rt) (J1 : (Int × Int) -> World -> Prop) (p0 p6 : Option Addr) (n10 n42_0 n42_1 : Int) (m42_2 : Option Nat) (l42_3 : SV) (n42_4 n42_5 : Int) (m42_6 : Option Nat) (l42_7 : SV) (n42_8 n42_9 : Int) (m42_10 : Option Nat) (l42_11 : SV) (n42_12 n42_13 : Int) (m42_14 : Option Nat) (l42_15 : SV) (n43 : Int) (ds : Ds) (w : World) : Prop :=
 Br (decide (n43 < 4)) (
 ∃ n45_0 : Int, ∃ n45_1 : Int, ∃ m45_2 : Option Nat, ∃ l45_3 : SV, ∃ w29, (Instr.index 91 (.agg #[.int .i64 n42_0, .int .i64 n42_1, .map m42_2, .slice l42_3.a l42_3.len l42_3.cap, .int .i64 n42_4, .int .i64 n42_5, .map m42_6, .slice l42_7.a l42_7.len l42_7.cap, .int .i64 n42_8, .int .i64 n42_9, .map m42_10, .slice l42_11.a l42_11.len l42_11.cap, .int .i64 n42_12, .int .i64 n42_13, .map m42_14, .slice l42_15.a l42_15.len l42_15.cap]) (.int .i64 n43)).run prog w = .ok (.agg #[.int .i64 n45_0, .int .i64 n45_1, .map m45_2, .slice l45_3.a l45_3.len l45_3.cap]) w29 /\
 alE (.cells #[.int .i64 0, .int .i64 0, .map none, .slice none 0 0] 90) w29 fun r12 w30 =>
 stA prog 90 (⟨r12, 0, none⟩ : Addr) #[.int .i64 n45_0, .int .i64 n45_1, .map m45_2, .slice l45_3.a l45_3.len l45_3.cap] w30 fun w31 =>
 ∃ l48 : SV, w31.cell? ((⟨r12, 0, none⟩ : Addr).add 3) = some (.slice l48.a l48.len l48.cap) /\
 J1 ((IntKind.i64.wrap (n10 + (l48.len : Int))), (IntKind.i64.wrap (n43 + 1))) w31) (
 F28_1 R p0 p6 n10 ds w)
def F28_3 (R : Rt) (p0 p6 : Option Addr) (n10 n42_0 n42_1 : Int) (m42_2 : Option Nat) (l42_3 : SV) (n42_4 n42_5 : Int) (m42_6 : Option Nat) (l42_7 : SV) (n42_8 n42_9 : Int) (m42_10 : Option Nat) (l42_11 : SV) (n42_12 n42_13 : Int) (m42_14 : Option Nat) (l42_15 : SV) (n43 : Int) (ds : Ds) (w : World) : Prop :=
 zQD (fun (J1 : (Int × Int) -> World -> Prop) (s : Int × Int) (w : World) => F28_2 R J1 p0 p6 s.1 n42_0 n42_1 m42_2 l42_3 n42_4 n42_5 m42_6 l42_7 n42_8 n42_9 m42_10 l42_11 n42_12 n42_13 m42_14 l42_15 s.2 ds w) (n10, n43) w
def F28_5 (R : Rt) (p0 : Option Addr) (n1 : Int) (ds : Ds) (w : World) : Prop :=
 Calls prog 47 #[.pointer p0, .int .i64 n1] w fun e w32 =>
 ∃ p18_0 : Option Addr, ∃ v18_1 : Value, ∃ n18_2 : Int, e = .returned (.tuple #[.pointer p18_0, v18_1, .int .i64 n18_2]) /\
 fnE v18_1 fun fx firstx capx =>
 Br (n18_2 != 0) (
 zQd prog ({ target := .fn (.func fx) capx, args := (firstx.toList ++ ([] : List Value)).toArray } :: ds) w32 fun w33 =>
 R (.returned (.tuple #[.int .i64 0, .int .i64 n18_2])) w33) (
 Calls prog 50 #[.pointer p0, .int .i64 n1, .pointer p18_0] w32 fun e w34 =>
 ∃ n29 : Int, e = .returned (.int .i64 n29) /\
 Br (n29 != 0) (
 zQd prog ({ target := .fn (.func fx) capx, args := (firstx.toList ++ ([] : List Value)).toArray } :: ds) w34 fun w35 =>
 R (.returned (.tuple #[.int .i64 0, .int .i64 n29])) w35) (
 zQi p0 fun a36 =>
 ∃ l37 : SV, w34.cell? ((a36.add 2).add 2) = some (.slice l37.a l37.len l37.cap) /\
 zQi p0 fun a37 =>
 ∃ n42_0, w34.cell? ((a37.add 5).add 0) = some (.int .i64 n42_0) /\
 ∃ n42_1, w34.cell? ((a37.add 5).add 1) = some (.int .i64 n42_1) /\
 ∃ m42_2, w34.cell? ((a37.add 5).add 2) = some (.map m42_2) /\
 ∃ l42_3 : SV, w34.cell? ((a37.add 5).add 3) = some (.slice l42_3.a l42_3.len l42_3.cap) /\
 ∃ n42_4, w34.cell? ((a37.add 5).add 4) = some (.int .i64 n42_4) /\
 ∃ n42_5, w34.cell? ((a37.add 5).add 5) = some (.int .i64 n42_5) /\
 ∃ m42_6, w34.cell? ((a37.add 5).add 6) = some (.map m42_6) /\
 ∃ l42_7 : SV, w34.cell? ((a37.add 5).add 7) = some (.slice l42_7.a l42_7.len l42_7.cap) /\
 ∃ n42_8, w34.cell? ((a37.add 5).add 8) = some (.int .i64 n42_8) /\
 ∃ n42_9, w34.cell? ((a37.add 5).add 9) = some (.int .i64 n42_9) /\
 ∃ m42_10, w34.cell? ((a37.add 5).add 10) = some (.map m42_10) /\
 ∃ l42_11 : SV, w34.cell? ((a37.add 5).add 11) = some (.slice l42_11.a l42_11.len l42_11.cap) /\
 ∃ n42_12, w34.cell? ((a37.add 5).add 12) = some (.int .i64 n42_12) /\
 ∃ n42_13, w34.cell? ((a37.add 5).add 13) = some (.int .i64 n42_13) /\
 ∃ m42_14, w34.cell? ((a37.add 5).add 14) = some (.map m42_14) /\
 ∃ l42_15 : SV, w34.cell? ((a37.add 5).add 15) = some (.slice l42_15.a l42_15.len l42_15.cap) /\
 F28_3 R p0 p18_0 (l37.len : Int) n42_0 n42_1 m42_2 l42_3 n42_4 n42_5 m42_6 l42_7 n42_8 n42_9 m42_10 l42_11 n42_12 n42_13 m42_14 l42_15 0 ({ target := .fn (.func fx) capx, args := (firstx.toList ++ ([] : List Value)).toArray } :: ds) w34))
theorem F28_p : Pl prog f28 [pS 0, iS 1] F28_5 := fun R =>
 pc 10 (zQx [pS 0, pS 6, iS 10, aS 42 [.int .i64, .int .i64, .map, .slice, .int .i64, .int .i64, .map, .slice, .int .i64, .int .i64, .map, .slice, .int .i64, .int .i64, .map, .slice], iS 43] (F28_3 R) (bk 0 (zQx [pS 0, pS 6, iS 10] (F28_1 R) lf) (lp [iS 10, iS 43] [pS 0, pS 6, iS 10, aS 42 [.int .i64, .int .i64, .map, .slice, .int .i64, .int .i64, .map, .slice, .int .i64, .int .i64, .map, .slice, .int .i64, .int .i64, .map, .slice], iS 43] (F28_2 R) zXz fun J1 => lf)))
theorem yKA (p0 : Option Addr) (n1 : Int) (w : World) (R : Rt) (h : F28_5 R p0 n1 [] w) : Calls prog 28 #[.pointer p0, .int .i64 n1] w R :=
 plC F28_p func28 h
def yYL (R : Rt) (p0 : Option Addr) (n1 : Int) (p2 : Option Addr) (n3 n9 : Int) (b10 : Bool) (ds : Ds) (w : World) : Prop :=
 Br b10 (
 Br (n9 != n1) (
 zQd prog ds w fun w1 =>
 R (.returned (.int .i64 12)) w1) (
 zQi p2 fun a2 =>
 ∃ n45, w.cell? a2 = some (.int .i64 n45) /\
 Br (n45 != 0) (
 zQi p0 fun a3 =>
 ∃ m50, w.cell? (a3.add 21) = some (.map m50) /\
 doE prog (Instr.mapUpdate 80 (.map m50) (.int .i64 n3) (.int .i64 n1)) w fun w4 =>
 zQd prog ds w4 fun w5 =>
 R (.returned (.int .i64 0)) w5) (
 zQd prog ds w fun w6 =>
 R (.returned (.int .i64 0)) w6))) (
 zQi p2 fun a7 =>
 ∃ n45, w.cell? a7 = some (.int .i64 n45) /\
 Br (n45 != 0) (
 zQi p0 fun a8 =>
 ∃ m50, w.cell? (a8.add 21) = some (.map m50) /\
 doE prog (Instr.mapUpdate 80 (.map m50) (.int .i64 n3) (.int .i64 n1)) w fun w9 =>
 zQd prog ds w9 fun w10 =>
 R (.returned (.int .i64 0)) w10) (
 zQd prog ds w fun w11 =>
 R (.returned (.int .i64 0)) w11))
def xQZ (R : Rt) (p0 : Option Addr) (n1 : Int) (p2 : Option Addr) (n3 : Int) (ds : Ds) (w : World) : Prop :=
 zQi p2 fun a12 =>
 ∃ n14, w.cell? a12 = some (.int .i64 n14) /\
 Br (n14 == 2) (
 zQd prog ds w fun w13 =>
 R (.returned (.int .i64 0)) w13) (
 zQi p2 fun a14 =>
 ∃ n20, w.cell? a14 = some (.int .i64 n20) /\
 Br (n20 == 4) (
 zQd prog ds w fun w15 =>
 R (.returned (.int .i64 0)) w15) (
 Br (decide (n3 < 0)) (
 zQd prog ds w fun w16 =>
 R (.returned (.int .i64 0)) w16) (
 zQi p0 fun a17 =>
 ∃ m31, w.cell? (a17.add 21) = some (.map m31) /\
 ∃ n33_0 : Int, ∃ b33_1 : Bool, ∃ w18, (Instr.lookup 80 (.map m31) (.int .i64 n3) true).run prog w = .ok (.tuple #[.int .i64 n33_0, .bool b33_1]) w18 /\
 yYL R p0 n1 p2 n3 n33_0 b33_1 ds w18)))
theorem F113_p : Pl prog f113 [pS 0, iS 1, pS 2, iS 3] xQZ := fun R =>
 pc 4 (zQx [pS 0, iS 1, pS 2, iS 3, iS 9, bS 10] (yYL R) lf)
theorem yXN (p0 : Option Addr) (n1 : Int) (p2 : Option Addr) (n3 : Int) (w : World) (R : Rt) (h : xQZ R p0 n1 p2 n3 [] w) : Calls prog 113 #[.pointer p0, .int .i64 n1, .pointer p2, .int .i64 n3] w R :=
 plC F113_p func113 h
def F53_1 (R : Rt) (p0 : Option Addr) (n1 : Int) (p2 : Option Addr) (v3 : Value) (ds : Ds) (w : World) : Prop :=
 zQi p2 fun a1 =>
 ∃ n18, w.cell? (a1.add 1) = some (.int .i64 n18) /\
 Calls prog 113 #[.pointer p0, .int .i64 n1, .pointer p2, .int .i64 n18] w fun e w2 =>
 ∃ n19 : Int, e = .returned (.int .i64 n19) /\
 Br (n19 != 0) (
 zQd prog ds w2 fun w3 =>
 R (.returned (.int .i64 n19)) w3) (
 zQi p2 fun a4 =>
 ∃ n80, w2.cell? (a4.add 1) = some (.int .i64 n80) /\
 Br (decide (n80 < 0)) (
 dwE w2 fun w5 =>
 zQi p2 fun a6 =>
 ∃ l86 : SV, w5.cell? (a6.add 3) = some (.slice l86.a l86.len l86.cap) /\
 zQi p2 fun a7 =>
 ∃ n90, w5.cell? (a7.add 1) = some (.int .i64 n90) /\
 ∃ a8, l86.a = some a8 /\ 0 <= (IntKind.i64.wrap ((IntKind.i64.wrap (0 - n90)) - 1)) /\ (IntKind.i64.wrap ((IntKind.i64.wrap (0 - n90)) - 1)) < (l86.len : Int) /\
 fnE v3 fun f94 first94 cap94 =>
 zXF prog f94 = true /\ Calls prog f94 (first94.toList ++ (([.pointer (some (a8.add ((IntKind.i64.wrap ((IntKind.i64.wrap (0 - n90)) - 1)).toNat * 2)))] : List Value) ++ cap94.toList)).toArray w5 fun e w9 =>
 e = .returned (.tuple #[]) /\
 zQd prog ds w9 fun w10 =>
 R (.returned (.int .i64 0)) w10) (
 zQi p2 fun a11 =>
 ∃ n99, w2.cell? a11 = some (.int .i64 n99) /\
 Br (n99 == 0) (
 dwE w2 fun w12 =>
 zQi p0 fun a13 =>
 ∃ l106 : SV, w12.cell? ((a13.add 2).add 2) = some (.slice l106.a l106.len l106.cap) /\
 zQi p2 fun a14 =>
 ∃ n110, w12.cell? (a14.add 1) = some (.int .i64 n110) /\
 ∃ a15, l106.a = some a15 /\ 0 <= (IntKind.i64.wrap (n110 - 1)) /\ (IntKind.i64.wrap (n110 - 1)) < (l106.len : Int) /\
 fnE v3 fun f113 first113 cap113 =>
 zXF prog f113 = true /\ Calls prog f113 (first113.toList ++ (([.pointer (some (a15.add ((IntKind.i64.wrap (n110 - 1)).toNat * 2)))] : List Value) ++ cap113.toList)).toArray w12 fun e w16 =>
 e = .returned (.tuple #[]) /\
 zQd prog ds w16 fun w17 =>
 R (.returned (.int .i64 0)) w17) (
 dwE w2 fun w18 =>
 ∃ S3 : World -> Prop, S3 w18 /\
 zQi p2 fun a19 =>
 ∃ m27, (∀ w', S3 w' -> w'.cell? (a19.add 2) = some (.map m27)) /\
 zQi p2 fun a20 =>
 ∃ n31, (∀ w', S3 w' -> w'.cell? (a20.add 1) = some (.int .i64 n31)) /\
 ∃ b32_0_0 : Bool, ∃ l32_0_1 : SV, ∃ b32_0_2 : Bool, ∃ l32_0_3 : SV, ∃ b32_1 : Bool, (∀ w', S3 w' -> (Instr.lookup 88 (.map m27) (.int .i64 n31) true).run prog w' = .ok (.tuple #[.agg #[.bool b32_0_0, .slice l32_0_1.a l32_0_1.len l32_0_1.cap, .bool b32_0_2, .slice l32_0_3.a l32_0_3.len l32_0_3.cap], .bool b32_1]) w') /\
 alE (.cells #[.bool false, .slice none 0 0, .bool false, .slice none 0 0] 133) w18 fun r10 w21 =>
 S3 w21 /\
 stA prog 133 (⟨r10, 0, none⟩ : Addr) #[.bool b32_0_0, .slice l32_0_1.a l32_0_1.len l32_0_1.cap, .bool b32_0_2, .slice l32_0_3.a l32_0_3.len l32_0_3.cap] w21 fun w22 =>
 Br (!b32_1) (
 dwE w22 fun w23 =>
 ∃ S4 : World -> Prop, S4 w23 /\
 zQi p0 fun a24 =>
 ∃ l41 : SV, (∀ w', S4 w' -> w'.cell? ((a24.add 2).add 2) = some (.slice l41.a l41.len l41.cap)) /\
 zQi p2 fun a25 =>
 ∃ n45, (∀ w', S4 w' -> w'.cell? (a25.add 1) = some (.int .i64 n45)) /\
 ∃ a26, l41.a = some a26 /\ 0 <= (IntKind.i64.wrap (n45 - 1)) /\ (IntKind.i64.wrap (n45 - 1)) < (l41.len : Int) /\
 ∃ b48_0, (∀ w', S4 w' -> w'.cell? ((a26.add ((IntKind.i64.wrap (n45 - 1)).toNat * 2)).add 0) = some (.bool b48_0)) /\
 ∃ l48_1 : SV, (∀ w', S4 w' -> w'.cell? ((a26.add ((IntKind.i64.wrap (n45 - 1)).toNat * 2)).add 1) = some (.slice l48_1.a l48_1.len l48_1.cap)) /\
 zQi p0 fun a27 =>
 ∃ l54 : SV, (∀ w', S4 w' -> w'.cell? ((a27.add 2).add 2) = some (.slice l54.a l54.len l54.cap)) /\
 zQi p2 fun a28 =>
 ∃ n58, (∀ w', S4 w' -> w'.cell? (a28.add 1) = some (.int .i64 n58)) /\
 ∃ a29, l54.a = some a29 /\ 0 <= (IntKind.i64.wrap (n58 - 1)) /\ (IntKind.i64.wrap (n58 - 1)) < (l54.len : Int) /\
 ∃ b61_0, (∀ w', S4 w' -> w'.cell? ((a29.add ((IntKind.i64.wrap (n58 - 1)).toNat * 2)).add 0) = some (.bool b61_0)) /\
 ∃ l61_1 : SV, (∀ w', S4 w' -> w'.cell? ((a29.add ((IntKind.i64.wrap (n58 - 1)).toNat * 2)).add 1) = some (.slice l61_1.a l61_1.len l61_1.cap)) /\
 Calls prog 88 #[.agg #[.bool b48_0, .slice l48_1.a l48_1.len l48_1.cap]] w23 fun e w30 =>
 ∃ b49_0 : Bool, ∃ l49_1 : SV, e = .returned (.agg #[.bool b49_0, .slice l49_1.a l49_1.len l49_1.cap]) /\
 S4 w30 /\
 Calls prog 88 #[.agg #[.bool b61_0, .slice l61_1.a l61_1.len l61_1.cap]] w30 fun e w31 =>
 ∃ b62_0 : Bool, ∃ l62_1 : SV, e = .returned (.agg #[.bool b62_0, .slice l62_1.a l62_1.len l62_1.cap]) /\
 stA prog 133 (⟨r10, 0, none⟩ : Addr) #[.bool b49_0, .slice l49_1.a l49_1.len l49_1.cap, .bool b62_0, .slice l62_1.a l62_1.len l62_1.cap] w31 fun w32 =>
 fnE v3 fun f66 first66 cap66 =>
 zXF prog f66 = true /\ Calls prog f66 (first66.toList ++ (([.pointer (some ((⟨r10, 0, none⟩ : Addr).add 2))] : List Value) ++ cap66.toList)).toArray w32 fun e w33 =>
 e = .returned (.tuple #[]) /\
 dwE w33 fun w34 =>
 zQi p2 fun a35 =>
 ∃ m70, w34.cell? (a35.add 2) = some (.map m70) /\
 zQi p2 fun a36 =>
 ∃ n74, w34.cell? (a36.add 1) = some (.int .i64 n74) /\
 ∃ b75_0, w34.cell? ((⟨r10, 0, none⟩ : Addr).add 0) = some (.bool b75_0) /\
 ∃ l75_1 : SV, w34.cell? ((⟨r10, 0, none⟩ : Addr).add 1) = some (.slice l75_1.a l75_1.len l75_1.cap) /\
 ∃ b75_2, w34.cell? ((⟨r10, 0, none⟩ : Addr).add 2) = some (.bool b75_2) /\
 ∃ l75_3 : SV, w34.cell? ((⟨r10, 0, none⟩ : Addr).add 3) = some (.slice l75_3.a l75_3.len l75_3.cap) /\
 doE prog (Instr.mapUpdate 88 (.map m70) (.int .i64 n74) (.agg #[.bool b75_0, .slice l75_1.a l75_1.len l75_1.cap, .bool b75_2, .slice l75_3.a l75_3.len l75_3.cap])) w34 fun w37 =>
 zQd prog ds w37 fun w38 =>
 R (.returned (.int .i64 0)) w38) (
 fnE v3 fun f66 first66 cap66 =>
 zXF prog f66 = true /\ Calls prog f66 (first66.toList ++ (([.pointer (some ((⟨r10, 0, none⟩ : Addr).add 2))] : List Value) ++ cap66.toList)).toArray w22 fun e w39 =>
 e = .returned (.tuple #[]) /\
 dwE w39 fun w40 =>
 zQi p2 fun a41 =>
 ∃ m70, w40.cell? (a41.add 2) = some (.map m70) /\
 zQi p2 fun a42 =>
 ∃ n74, w40.cell? (a42.add 1) = some (.int .i64 n74) /\
 ∃ b75_0, w40.cell? ((⟨r10, 0, none⟩ : Addr).add 0) = some (.bool b75_0) /\
 ∃ l75_1 : SV, w40.cell? ((⟨r10, 0, none⟩ : Addr).add 1) = some (.slice l75_1.a l75_1.len l75_1.cap) /\
 ∃ b75_2, w40.cell? ((⟨r10, 0, none⟩ : Addr).add 2) = some (.bool b75_2) /\
 ∃ l75_3 : SV, w40.cell? ((⟨r10, 0, none⟩ : Addr).add 3) = some (.slice l75_3.a l75_3.len l75_3.cap) /\
 doE prog (Instr.mapUpdate 88 (.map m70) (.int .i64 n74) (.agg #[.bool b75_0, .slice l75_1.a l75_1.len l75_1.cap, .bool b75_2, .slice l75_3.a l75_3.len l75_3.cap])) w40 fun w43 =>
 zQd prog ds w43 fun w44 =>
 R (.returned (.int .i64 0)) w44))))
theorem F53_p : Pl prog f53 [pS 0, iS 1, pS 2, vS 3] F53_1 := fun R =>
 lf
theorem yJB (p0 : Option Addr) (n1 : Int) (p2 : Option Addr) (v3 : Value) (w : World) (R : Rt) (h : F53_1 R p0 n1 p2 v3 [] w) : Calls prog 53 #[.pointer p0, .int .i64 n1, .pointer p2, v3] w R :=
 plC F53_p func53 h
def F16_1 (R : Rt) (p0 : Option Addr) (n1 : Int) (s2 : ByteArray) (n3_0 n3_1 : Int) (s3_2 : ByteArray) (ds : Ds) (w : World) : Prop :=
 alE (.cells #[.int .i64 n3_0, .int .i64 n3_1, .string s3_2] 28) w fun r7 w1 =>
 Calls prog 47 #[.pointer p0, .int .i64 n1] w1 fun e w2 =>
 ∃ p17_0 : Option Addr, ∃ v17_1 : Value, ∃ n17_2 : Int, e = .returned (.tuple #[.pointer p17_0, v17_1, .int .i64 n17_2]) /\
 fnE v17_1 fun fx firstx capx =>
 Br (n17_2 != 0) (
 zQd prog ({ target := .fn (.func fx) capx, args := (firstx.toList ++ ([] : List Value)).toArray } :: ds) w2 fun w3 =>
 R (.returned (.int .i64 n17_2)) w3) (
 zQi p17_0 fun a4 =>
 ∃ n28, w2.cell? (a4.add 1) = some (.int .i64 n28) /\
 Br (n28 == 0) (
 zQd prog ({ target := .fn (.func fx) capx, args := (firstx.toList ++ ([] : List Value)).toArray } :: ds) w2 fun w5 =>
 R (.returned (.int .i64 9)) w5) (
 zQi p0 fun a6 =>
 ∃ l35 : SV, w2.cell? ((a6.add 2).add 1) = some (.slice l35.a l35.len l35.cap) /\
 Calls prog 51 #[.slice l35.a l35.len l35.cap, .string s2] w2 fun e w7 =>
 ∃ n37_0 : Int, ∃ b37_1 : Bool, e = .returned (.tuple #[.int .i64 n37_0, .bool b37_1]) /\
 alE (.cells #[.int .i64 0] 3) w7 fun r12 w8 =>
 st1 (⟨r12, 0, none⟩ : Addr) (.int .i64 n37_0) w8 fun w9 =>
 Br (!b37_1) (
 zQd prog ({ target := .fn (.func fx) capx, args := (firstx.toList ++ ([] : List Value)).toArray } :: ds) w9 fun w10 =>
 R (.returned (.int .i64 4)) w10) (
 dwE w9 fun w11 =>
 zQi p0 fun a12 =>
 ∃ l47 : SV, w11.cell? ((a12.add 2).add 1) = some (.slice l47.a l47.len l47.cap) /\
 ∃ n48, w11.cell? (⟨r12, 0, none⟩ : Addr) = some (.int .i64 n48) /\
 ∃ a13, l47.a = some a13 /\ 0 <= n48 /\ n48 < (l47.len : Int) /\
 ∃ s50_0, w11.cell? ((a13.add (n48.toNat * 4)).add 0) = some (.string s50_0) /\
 ∃ n50_1, w11.cell? ((a13.add (n48.toNat * 4)).add 1) = some (.int .i64 n50_1) /\
 ∃ n50_2, w11.cell? ((a13.add (n48.toNat * 4)).add 2) = some (.int .i64 n50_2) /\
 ∃ b50_3, w11.cell? ((a13.add (n48.toNat * 4)).add 3) = some (.bool b50_3) /\
 zQi p0 fun a14 =>
 ∃ n55, w11.cell? (a14.add 2) = some (.int .i64 n55) /\
 ∃ n56_0, w11.cell? ((⟨r7, 0, none⟩ : Addr).add 0) = some (.int .i64 n56_0) /\
 ∃ n56_1, w11.cell? ((⟨r7, 0, none⟩ : Addr).add 1) = some (.int .i64 n56_1) /\
 ∃ s56_2, w11.cell? ((⟨r7, 0, none⟩ : Addr).add 2) = some (.string s56_2) /\
 Calls prog 52 #[.agg #[.string s50_0, .int .i64 n50_1, .int .i64 n50_2, .bool b50_3], .int .i64 n55, .agg #[.int .i64 n56_0, .int .i64 n56_1, .string s56_2]] w11 fun e w15 =>
 ∃ n57_0_0 : Int, ∃ n57_0_1 : Int, ∃ s57_0_2 : ByteArray, ∃ n57_1 : Int, e = .returned (.tuple #[.agg #[.int .i64 n57_0_0, .int .i64 n57_0_1, .string s57_0_2], .int .i64 n57_1]) /\
 stA prog 28 (⟨r7, 0, none⟩ : Addr) #[.int .i64 n57_0_0, .int .i64 n57_0_1, .string s57_0_2] w15 fun w16 =>
 Br (n57_1 != 0) (
 zQd prog ({ target := .fn (.func fx) capx, args := (firstx.toList ++ ([] : List Value)).toArray } :: ds) w16 fun w17 =>
 R (.returned (.int .i64 n57_1)) w17) (
 Calls prog 53 #[.pointer p0, .int .i64 n1, .pointer p17_0, .func (.func 54) #[] #[.pointer (some (⟨r7, 0, none⟩ : Addr)), .pointer (some (⟨r12, 0, none⟩ : Addr))]] w16 fun e w18 =>
 ∃ n67 : Int, e = .returned (.int .i64 n67) /\
 zQd prog ({ target := .fn (.func fx) capx, args := (firstx.toList ++ ([] : List Value)).toArray } :: ds) w18 fun w19 =>
 R (.returned (.int .i64 n67)) w19))))
theorem F16_p : Pl prog f16 [pS 0, iS 1, sS 2, aS 3 [.int .i64, .int .i64, .str]] F16_1 := fun R =>
 lf
theorem yJY (p0 : Option Addr) (n1 : Int) (s2 : ByteArray) (n3_0 n3_1 : Int) (s3_2 : ByteArray) (w : World) (R : Rt) (h : F16_1 R p0 n1 s2 n3_0 n3_1 s3_2 [] w) : Calls prog 16 #[.pointer p0, .int .i64 n1, .string s2, .agg #[.int .i64 n3_0, .int .i64 n3_1, .string s3_2]] w R :=
 plC F16_p func16 h
def F54_1 (R : Rt) (p0 : Option Addr) (v1 v2 : Value) (ds : Ds) (w : World) : Prop :=
 dwE w fun w1 =>
 zQi p0 fun a2 =>
 ∃ l7 : SV, w1.cell? (a2.add 1) = some (.slice l7.a l7.len l7.cap) /\
 zJ4 v2 fun a3 =>
 ∃ n8, w1.cell? a3 = some (.int .i64 n8) /\
 zJ4 v1 fun a4 =>
 ∃ n9_0, w1.cell? (a4.add 0) = some (.int .i64 n9_0) /\
 ∃ n9_1, w1.cell? (a4.add 1) = some (.int .i64 n9_1) /\
 ∃ s9_2, w1.cell? (a4.add 2) = some (.string s9_2) /\
 ∃ a5, l7.a = some a5 /\ 0 <= n8 /\ n8 < (l7.len : Int) /\
 stA prog 28 (a5.add (n8.toNat * 3)) #[.int .i64 n9_0, .int .i64 n9_1, .string s9_2] w1 fun w6 =>
 zQd prog ds w6 fun w7 =>
 R (.returned (.tuple #[])) w7
theorem F54_p : Pl prog f54 [pS 0, vS 1, vS 2] F54_1 := fun R =>
 lf
theorem yJZ (p0 : Option Addr) (v1 v2 : Value) (w : World) (R : Rt) (h : F54_1 R p0 v1 v2 [] w) : Calls prog 54 #[.pointer p0, v1, v2] w R :=
 plC F54_p func54 h
def F20_1 (R : Rt) (p0 : Option Addr) (n1 : Int) (b2 : Bool) (ds : Ds) (w : World) : Prop :=
 alE (.cells #[.bool b2] 4) w fun r5 w1 =>
 Calls prog 47 #[.pointer p0, .int .i64 n1] w1 fun e w2 =>
 ∃ p13_0 : Option Addr, ∃ v13_1 : Value, ∃ n13_2 : Int, e = .returned (.tuple #[.pointer p13_0, v13_1, .int .i64 n13_2]) /\
 fnE v13_1 fun fx firstx capx =>
 Br (n13_2 != 0) (
 zQd prog ({ target := .fn (.func fx) capx, args := (firstx.toList ++ ([] : List Value)).toArray } :: ds) w2 fun w3 =>
 R (.returned (.int .i64 n13_2)) w3) (
 zQi p13_0 fun a4 =>
 ∃ n24, w2.cell? (a4.add 1) = some (.int .i64 n24) /\
 Br (n24 == 0) (
 zQd prog ({ target := .fn (.func fx) capx, args := (firstx.toList ++ ([] : List Value)).toArray } :: ds) w2 fun w5 =>
 R (.returned (.int .i64 9)) w5) (
 Calls prog 53 #[.pointer p0, .int .i64 n1, .pointer p13_0, .func (.func 57) #[] #[.pointer (some (⟨r5, 0, none⟩ : Addr))]] w2 fun e w6 =>
 ∃ n30 : Int, e = .returned (.int .i64 n30) /\
 zQd prog ({ target := .fn (.func fx) capx, args := (firstx.toList ++ ([] : List Value)).toArray } :: ds) w6 fun w7 =>
 R (.returned (.int .i64 n30)) w7))
theorem F20_p : Pl prog f20 [pS 0, iS 1, bS 2] F20_1 := fun R =>
 lf
theorem yJ2 (p0 : Option Addr) (n1 : Int) (b2 : Bool) (w : World) (R : Rt) (h : F20_1 R p0 n1 b2 [] w) : Calls prog 20 #[.pointer p0, .int .i64 n1, .bool b2] w R :=
 plC F20_p func20 h
def F57_1 (R : Rt) (p0 : Option Addr) (v1 : Value) (ds : Ds) (w : World) : Prop :=
 zJ4 v1 fun a1 =>
 ∃ b4, w.cell? a1 = some (.bool b4) /\
 zQi p0 fun a2 =>
 st1 a2 (.bool b4) w fun w3 =>
 zQd prog ds w3 fun w4 =>
 R (.returned (.tuple #[])) w4
theorem F57_p : Pl prog f57 [pS 0, vS 1] F57_1 := fun R =>
 lf
theorem yKX (p0 : Option Addr) (v1 : Value) (w : World) (R : Rt) (h : F57_1 R p0 v1 [] w) : Calls prog 57 #[.pointer p0, v1] w R :=
 plC F57_p func57 h
def F56_1 (R : Rt) (p0 : Option Addr) (b1_0 : Bool) (l1_1 : SV) (b2 : Bool) (s3 : ByteArray) (ds : Ds) (w : World) : Prop :=
 alE (.cells #[.bool b1_0, .slice l1_1.a l1_1.len l1_1.cap] 77) w fun r5 w1 =>
 alE (.cells #[.int .i64 0, .int .i64 0, .string (⟨#[]⟩ : ByteArray)] 28) w1 fun r8 w2 =>
 zQi p0 fun a3 =>
 ∃ l17 : SV, w2.cell? ((a3.add 2).add 1) = some (.slice l17.a l17.len l17.cap) /\
 Calls prog 51 #[.slice l17.a l17.len l17.cap, .string s3] w2 fun e w4 =>
 ∃ n19_0 : Int, ∃ b19_1 : Bool, e = .returned (.tuple #[.int .i64 n19_0, .bool b19_1]) /\
 Br (!b2) (
 stA prog 28 (⟨r8, 0, none⟩ : Addr) #[.int .i64 0, .int .i64 0, .string (⟨#[]⟩ : ByteArray)] w4 fun w5 =>
 zQd prog ds w5 fun w6 =>
 ∃ nR0_0, w6.cell? ((⟨r8, 0, none⟩ : Addr).add 0) = some (.int .i64 nR0_0) /\
 ∃ nR0_1, w6.cell? ((⟨r8, 0, none⟩ : Addr).add 1) = some (.int .i64 nR0_1) /\
 ∃ sR0_2, w6.cell? ((⟨r8, 0, none⟩ : Addr).add 2) = some (.string sR0_2) /\
 R (.returned (.tuple #[.agg #[.int .i64 nR0_0, .int .i64 nR0_1, .string sR0_2], .int .i64 4])) w6) (
 Br (!b19_1) (
 stA prog 28 (⟨r8, 0, none⟩ : Addr) #[.int .i64 0, .int .i64 0, .string (⟨#[]⟩ : ByteArray)] w4 fun w7 =>
 zQd prog ds w7 fun w8 =>
 ∃ nR0_0, w8.cell? ((⟨r8, 0, none⟩ : Addr).add 0) = some (.int .i64 nR0_0) /\
 ∃ nR0_1, w8.cell? ((⟨r8, 0, none⟩ : Addr).add 1) = some (.int .i64 nR0_1) /\
 ∃ sR0_2, w8.cell? ((⟨r8, 0, none⟩ : Addr).add 2) = some (.string sR0_2) /\
 R (.returned (.tuple #[.agg #[.int .i64 nR0_0, .int .i64 nR0_1, .string sR0_2], .int .i64 4])) w8) (
 ∃ l30 : SV, w4.cell? ((⟨r5, 0, none⟩ : Addr).add 1) = some (.slice l30.a l30.len l30.cap) /\
 ∃ a9, l30.a = some a9 /\ 0 <= n19_0 /\ n19_0 < (l30.len : Int) /\
 ∃ n33_0, w4.cell? ((a9.add (n19_0.toNat * 3)).add 0) = some (.int .i64 n33_0) /\
 ∃ n33_1, w4.cell? ((a9.add (n19_0.toNat * 3)).add 1) = some (.int .i64 n33_1) /\
 ∃ s33_2, w4.cell? ((a9.add (n19_0.toNat * 3)).add 2) = some (.string s33_2) /\
 stA prog 28 (⟨r8, 0, none⟩ : Addr) #[.int .i64 n33_0, .int .i64 n33_1, .string s33_2] w4 fun w10 =>
 zQd prog ds w10 fun w11 =>
 ∃ nR0_0, w11.cell? ((⟨r8, 0, none⟩ : Addr).add 0) = some (.int .i64 nR0_0) /\
 ∃ nR0_1, w11.cell? ((⟨r8, 0, none⟩ : Addr).add 1) = some (.int .i64 nR0_1) /\
 ∃ sR0_2, w11.cell? ((⟨r8, 0, none⟩ : Addr).add 2) = some (.string sR0_2) /\
 R (.returned (.tuple #[.agg #[.int .i64 nR0_0, .int .i64 nR0_1, .string sR0_2], .int .i64 0])) w11))
theorem F56_p : Pl prog f56 [pS 0, aS 1 [.bool, .slice], bS 2, sS 3] F56_1 := fun R =>
 lf
theorem yWS (p0 : Option Addr) (b1_0 : Bool) (l1_1 : SV) (b2 : Bool) (s3 : ByteArray) (w : World) (R : Rt) (h : F56_1 R p0 b1_0 l1_1 b2 s3 [] w) : Calls prog 56 #[.pointer p0, .agg #[.bool b1_0, .slice l1_1.a l1_1.len l1_1.cap], .bool b2, .string s3] w R :=
 plC F56_p func56 h
def F29_1 (R : Rt) (p0 : Option Addr) (n1 n2 : Int) (s3 : ByteArray) (ds : Ds) (w : World) : Prop :=
 alE (.cells #[.int .i64 0, .int .i64 0, .string (⟨#[]⟩ : ByteArray)] 28) w fun r8 w1 =>
 Calls prog 47 #[.pointer p0, .int .i64 n1] w1 fun e w2 =>
 ∃ p18_0 : Option Addr, ∃ v18_1 : Value, ∃ n18_2 : Int, e = .returned (.tuple #[.pointer p18_0, v18_1, .int .i64 n18_2]) /\
 fnE v18_1 fun fx firstx capx =>
 Br (n18_2 != 0) (
 stA prog 28 (⟨r8, 0, none⟩ : Addr) #[.int .i64 0, .int .i64 0, .string (⟨#[]⟩ : ByteArray)] w2 fun w3 =>
 zQd prog ({ target := .fn (.func fx) capx, args := (firstx.toList ++ ([] : List Value)).toArray } :: ds) w3 fun w4 =>
 ∃ nR0_0, w4.cell? ((⟨r8, 0, none⟩ : Addr).add 0) = some (.int .i64 nR0_0) /\
 ∃ nR0_1, w4.cell? ((⟨r8, 0, none⟩ : Addr).add 1) = some (.int .i64 nR0_1) /\
 ∃ sR0_2, w4.cell? ((⟨r8, 0, none⟩ : Addr).add 2) = some (.string sR0_2) /\
 R (.returned (.tuple #[.agg #[.int .i64 nR0_0, .int .i64 nR0_1, .string sR0_2], .int .i64 n18_2])) w4) (
 Calls prog 49 #[.pointer p0, .pointer p18_0, .int .i64 n2] w2 fun e w5 =>
 ∃ b31_0_0 : Bool, ∃ l31_0_1 : SV, ∃ b31_1 : Bool, e = .returned (.tuple #[.agg #[.bool b31_0_0, .slice l31_0_1.a l31_0_1.len l31_0_1.cap], .bool b31_1]) /\
 alE (.cells #[.bool false, .slice none 0 0] 77) w5 fun r13 w6 =>
 stA prog 77 (⟨r13, 0, none⟩ : Addr) #[.bool b31_0_0, .slice l31_0_1.a l31_0_1.len l31_0_1.cap] w6 fun w7 =>
 ∃ b35_0, w7.cell? ((⟨r13, 0, none⟩ : Addr).add 0) = some (.bool b35_0) /\
 ∃ l35_1 : SV, w7.cell? ((⟨r13, 0, none⟩ : Addr).add 1) = some (.slice l35_1.a l35_1.len l35_1.cap) /\
 Calls prog 56 #[.pointer p0, .agg #[.bool b35_0, .slice l35_1.a l35_1.len l35_1.cap], .bool b31_1, .string s3] w7 fun e w8 =>
 ∃ n38_0_0 : Int, ∃ n38_0_1 : Int, ∃ s38_0_2 : ByteArray, ∃ n38_1 : Int, e = .returned (.tuple #[.agg #[.int .i64 n38_0_0, .int .i64 n38_0_1, .string s38_0_2], .int .i64 n38_1]) /\
 stA prog 28 (⟨r8, 0, none⟩ : Addr) #[.int .i64 n38_0_0, .int .i64 n38_0_1, .string s38_0_2] w8 fun w9 =>
 zQd prog ({ target := .fn (.func fx) capx, args := (firstx.toList ++ ([] : List Value)).toArray } :: ds) w9 fun w10 =>
 ∃ nR0_0, w10.cell? ((⟨r8, 0, none⟩ : Addr).add 0) = some (.int .i64 nR0_0) /\
 ∃ nR0_1, w10.cell? ((⟨r8, 0, none⟩ : Addr).add 1) = some (.int .i64 nR0_1) /\
 ∃ sR0_2, w10.cell? ((⟨r8, 0, none⟩ : Addr).add 2) = some (.string sR0_2) /\
 R (.returned (.tuple #[.agg #[.int .i64 nR0_0, .int .i64 nR0_1, .string sR0_2], .int .i64 n38_1])) w10)
theorem F29_p : Pl prog f29 [pS 0, iS 1, iS 2, sS 3] F29_1 := fun R =>
 lf
theorem yWN (p0 : Option Addr) (n1 n2 : Int) (s3 : ByteArray) (w : World) (R : Rt) (h : F29_1 R p0 n1 n2 s3 [] w) : Calls prog 29 #[.pointer p0, .int .i64 n1, .int .i64 n2, .string s3] w R :=
 plC F29_p func29 h
def F68_1 (R : Rt) (p0 : Option Addr) (n1 n2 : Int) (s3 : ByteArray) (ds : Ds) (w : World) : Prop :=
 alE (.cells #[.int .i64 0, .int .i64 0, .string (⟨#[]⟩ : ByteArray)] 28) w fun r8 w1 =>
 Calls prog 47 #[.pointer p0, .int .i64 n1] w1 fun e w2 =>
 ∃ p20_0 : Option Addr, ∃ v20_1 : Value, ∃ n20_2 : Int, e = .returned (.tuple #[.pointer p20_0, v20_1, .int .i64 n20_2]) /\
 fnE v20_1 fun fx firstx capx =>
 Br (n20_2 != 0) (
 stA prog 28 (⟨r8, 0, none⟩ : Addr) #[.int .i64 0, .int .i64 0, .string (⟨#[]⟩ : ByteArray)] w2 fun w3 =>
 zQd prog ({ target := .fn (.func fx) capx, args := (firstx.toList ++ ([] : List Value)).toArray } :: ds) w3 fun w4 =>
 ∃ nR0_0, w4.cell? ((⟨r8, 0, none⟩ : Addr).add 0) = some (.int .i64 nR0_0) /\
 ∃ nR0_1, w4.cell? ((⟨r8, 0, none⟩ : Addr).add 1) = some (.int .i64 nR0_1) /\
 ∃ sR0_2, w4.cell? ((⟨r8, 0, none⟩ : Addr).add 2) = some (.string sR0_2) /\
 R (.returned (.tuple #[.agg #[.int .i64 nR0_0, .int .i64 nR0_1, .string sR0_2], .int .i64 n20_2])) w4) (
 Calls prog 49 #[.pointer p0, .pointer p20_0, .int .i64 n2] w2 fun e w5 =>
 ∃ b33_0_0 : Bool, ∃ l33_0_1 : SV, ∃ b33_1 : Bool, e = .returned (.tuple #[.agg #[.bool b33_0_0, .slice l33_0_1.a l33_0_1.len l33_0_1.cap], .bool b33_1]) /\
 alE (.cells #[.bool false, .slice none 0 0] 77) w5 fun r13 w6 =>
 stA prog 77 (⟨r13, 0, none⟩ : Addr) #[.bool b33_0_0, .slice l33_0_1.a l33_0_1.len l33_0_1.cap] w6 fun w7 =>
 zQi p20_0 fun a8 =>
 ∃ m40, w7.cell? (a8.add 2) = some (.map m40) /\
 ∃ b42_0_0 : Bool, ∃ l42_0_1 : SV, ∃ b42_0_2 : Bool, ∃ l42_0_3 : SV, ∃ b42_1 : Bool, ∃ w9, (Instr.lookup 88 (.map m40) (.int .i64 n2) true).run prog w7 = .ok (.tuple #[.agg #[.bool b42_0_0, .slice l42_0_1.a l42_0_1.len l42_0_1.cap, .bool b42_0_2, .slice l42_0_3.a l42_0_3.len l42_0_3.cap], .bool b42_1]) w9 /\
 alE (.cells #[.bool false, .slice none 0 0, .bool false, .slice none 0 0] 133) w9 fun r15 w10 =>
 stA prog 133 (⟨r15, 0, none⟩ : Addr) #[.bool b42_0_0, .slice l42_0_1.a l42_0_1.len l42_0_1.cap, .bool b42_0_2, .slice l42_0_3.a l42_0_3.len l42_0_3.cap] w10 fun w11 =>
 Br b42_1 (
 ∃ b47_0, w11.cell? ((⟨r15, 0, none⟩ : Addr).add 0) = some (.bool b47_0) /\
 ∃ l47_1 : SV, w11.cell? ((⟨r15, 0, none⟩ : Addr).add 1) = some (.slice l47_1.a l47_1.len l47_1.cap) /\
 stA prog 77 (⟨r13, 0, none⟩ : Addr) #[.bool b47_0, .slice l47_1.a l47_1.len l47_1.cap] w11 fun w12 =>
 ∃ b63_0, w12.cell? ((⟨r13, 0, none⟩ : Addr).add 0) = some (.bool b63_0) /\
 ∃ l63_1 : SV, w12.cell? ((⟨r13, 0, none⟩ : Addr).add 1) = some (.slice l63_1.a l63_1.len l63_1.cap) /\
 Calls prog 56 #[.pointer p0, .agg #[.bool b63_0, .slice l63_1.a l63_1.len l63_1.cap], .bool b33_1, .string s3] w12 fun e w13 =>
 ∃ n66_0_0 : Int, ∃ n66_0_1 : Int, ∃ s66_0_2 : ByteArray, ∃ n66_1 : Int, e = .returned (.tuple #[.agg #[.int .i64 n66_0_0, .int .i64 n66_0_1, .string s66_0_2], .int .i64 n66_1]) /\
 stA prog 28 (⟨r8, 0, none⟩ : Addr) #[.int .i64 n66_0_0, .int .i64 n66_0_1, .string s66_0_2] w13 fun w14 =>
 zQd prog ({ target := .fn (.func fx) capx, args := (firstx.toList ++ ([] : List Value)).toArray } :: ds) w14 fun w15 =>
 ∃ nR0_0, w15.cell? ((⟨r8, 0, none⟩ : Addr).add 0) = some (.int .i64 nR0_0) /\
 ∃ nR0_1, w15.cell? ((⟨r8, 0, none⟩ : Addr).add 1) = some (.int .i64 nR0_1) /\
 ∃ sR0_2, w15.cell? ((⟨r8, 0, none⟩ : Addr).add 2) = some (.string sR0_2) /\
 R (.returned (.tuple #[.agg #[.int .i64 nR0_0, .int .i64 nR0_1, .string sR0_2], .int .i64 n66_1])) w15) (
 Br b33_1 (
 Br (decide (n2 < 0)) (
 zQi p0 fun a16 =>
 ∃ l58 : SV, w11.cell? ((a16.add 2).add 1) = some (.slice l58.a l58.len l58.cap) /\
 Calls prog 81 #[.slice l58.a l58.len l58.cap] w11 fun e w17 =>
 ∃ b59_0_0 : Bool, ∃ l59_0_1 : SV, ∃ n59_1 : Int, e = .returned (.tuple #[.agg #[.bool b59_0_0, .slice l59_0_1.a l59_0_1.len l59_0_1.cap], .int .i64 n59_1]) /\
 stA prog 77 (⟨r13, 0, none⟩ : Addr) #[.bool b59_0_0, .slice l59_0_1.a l59_0_1.len l59_0_1.cap] w17 fun w18 =>
 ∃ b63_0, w18.cell? ((⟨r13, 0, none⟩ : Addr).add 0) = some (.bool b63_0) /\
 ∃ l63_1 : SV, w18.cell? ((⟨r13, 0, none⟩ : Addr).add 1) = some (.slice l63_1.a l63_1.len l63_1.cap) /\
 Calls prog 56 #[.pointer p0, .agg #[.bool b63_0, .slice l63_1.a l63_1.len l63_1.cap], .bool b33_1, .string s3] w18 fun e w19 =>
 ∃ n66_0_0 : Int, ∃ n66_0_1 : Int, ∃ s66_0_2 : ByteArray, ∃ n66_1 : Int, e = .returned (.tuple #[.agg #[.int .i64 n66_0_0, .int .i64 n66_0_1, .string s66_0_2], .int .i64 n66_1]) /\
 stA prog 28 (⟨r8, 0, none⟩ : Addr) #[.int .i64 n66_0_0, .int .i64 n66_0_1, .string s66_0_2] w19 fun w20 =>
 zQd prog ({ target := .fn (.func fx) capx, args := (firstx.toList ++ ([] : List Value)).toArray } :: ds) w20 fun w21 =>
 ∃ nR0_0, w21.cell? ((⟨r8, 0, none⟩ : Addr).add 0) = some (.int .i64 nR0_0) /\
 ∃ nR0_1, w21.cell? ((⟨r8, 0, none⟩ : Addr).add 1) = some (.int .i64 nR0_1) /\
 ∃ sR0_2, w21.cell? ((⟨r8, 0, none⟩ : Addr).add 2) = some (.string sR0_2) /\
 R (.returned (.tuple #[.agg #[.int .i64 nR0_0, .int .i64 nR0_1, .string sR0_2], .int .i64 n66_1])) w21) (
 ∃ b63_0, w11.cell? ((⟨r13, 0, none⟩ : Addr).add 0) = some (.bool b63_0) /\
 ∃ l63_1 : SV, w11.cell? ((⟨r13, 0, none⟩ : Addr).add 1) = some (.slice l63_1.a l63_1.len l63_1.cap) /\
 Calls prog 56 #[.pointer p0, .agg #[.bool b63_0, .slice l63_1.a l63_1.len l63_1.cap], .bool b33_1, .string s3] w11 fun e w22 =>
 ∃ n66_0_0 : Int, ∃ n66_0_1 : Int, ∃ s66_0_2 : ByteArray, ∃ n66_1 : Int, e = .returned (.tuple #[.agg #[.int .i64 n66_0_0, .int .i64 n66_0_1, .string s66_0_2], .int .i64 n66_1]) /\
 stA prog 28 (⟨r8, 0, none⟩ : Addr) #[.int .i64 n66_0_0, .int .i64 n66_0_1, .string s66_0_2] w22 fun w23 =>
 zQd prog ({ target := .fn (.func fx) capx, args := (firstx.toList ++ ([] : List Value)).toArray } :: ds) w23 fun w24 =>
 ∃ nR0_0, w24.cell? ((⟨r8, 0, none⟩ : Addr).add 0) = some (.int .i64 nR0_0) /\
 ∃ nR0_1, w24.cell? ((⟨r8, 0, none⟩ : Addr).add 1) = some (.int .i64 nR0_1) /\
 ∃ sR0_2, w24.cell? ((⟨r8, 0, none⟩ : Addr).add 2) = some (.string sR0_2) /\
 R (.returned (.tuple #[.agg #[.int .i64 nR0_0, .int .i64 nR0_1, .string sR0_2], .int .i64 n66_1])) w24)) (
 ∃ b63_0, w11.cell? ((⟨r13, 0, none⟩ : Addr).add 0) = some (.bool b63_0) /\
 ∃ l63_1 : SV, w11.cell? ((⟨r13, 0, none⟩ : Addr).add 1) = some (.slice l63_1.a l63_1.len l63_1.cap) /\
 Calls prog 56 #[.pointer p0, .agg #[.bool b63_0, .slice l63_1.a l63_1.len l63_1.cap], .bool b33_1, .string s3] w11 fun e w25 =>
 ∃ n66_0_0 : Int, ∃ n66_0_1 : Int, ∃ s66_0_2 : ByteArray, ∃ n66_1 : Int, e = .returned (.tuple #[.agg #[.int .i64 n66_0_0, .int .i64 n66_0_1, .string s66_0_2], .int .i64 n66_1]) /\
 stA prog 28 (⟨r8, 0, none⟩ : Addr) #[.int .i64 n66_0_0, .int .i64 n66_0_1, .string s66_0_2] w25 fun w26 =>
 zQd prog ({ target := .fn (.func fx) capx, args := (firstx.toList ++ ([] : List Value)).toArray } :: ds) w26 fun w27 =>
 ∃ nR0_0, w27.cell? ((⟨r8, 0, none⟩ : Addr).add 0) = some (.int .i64 nR0_0) /\
 ∃ nR0_1, w27.cell? ((⟨r8, 0, none⟩ : Addr).add 1) = some (.int .i64 nR0_1) /\
 ∃ sR0_2, w27.cell? ((⟨r8, 0, none⟩ : Addr).add 2) = some (.string sR0_2) /\
 R (.returned (.tuple #[.agg #[.int .i64 nR0_0, .int .i64 nR0_1, .string sR0_2], .int .i64 n66_1])) w27)))
theorem F68_p : Pl prog f68 [pS 0, iS 1, iS 2, sS 3] F68_1 := fun R =>
 lf
theorem yKt (p0 : Option Addr) (n1 n2 : Int) (s3 : ByteArray) (w : World) (R : Rt) (h : F68_1 R p0 n1 n2 s3 [] w) : Calls prog 68 #[.pointer p0, .int .i64 n1, .int .i64 n2, .string s3] w R :=
 plC F68_p func68 h
def F18_1 (R : Rt) (p0 : Option Addr) (n1 : Int) (s2 : ByteArray) (ds : Ds) (w : World) : Prop :=
 alE (.cells #[.int .i64 0, .int .i64 0, .string (⟨#[]⟩ : ByteArray)] 28) w fun r6 w1 =>
 Calls prog 47 #[.pointer p0, .int .i64 0] w1 fun e w2 =>
 ∃ p13_0 : Option Addr, ∃ v13_1 : Value, ∃ n13_2 : Int, e = .returned (.tuple #[.pointer p13_0, v13_1, .int .i64 n13_2]) /\
 fnE v13_1 fun fx firstx capx =>
 Br (n13_2 != 0) (
 stA prog 28 (⟨r6, 0, none⟩ : Addr) #[.int .i64 0, .int .i64 0, .string (⟨#[]⟩ : ByteArray)] w2 fun w3 =>
 zQd prog ({ target := .fn (.func fx) capx, args := (firstx.toList ++ ([] : List Value)).toArray } :: ds) w3 fun w4 =>
 ∃ nR0_0, w4.cell? ((⟨r6, 0, none⟩ : Addr).add 0) = some (.int .i64 nR0_0) /\
 ∃ nR0_1, w4.cell? ((⟨r6, 0, none⟩ : Addr).add 1) = some (.int .i64 nR0_1) /\
 ∃ sR0_2, w4.cell? ((⟨r6, 0, none⟩ : Addr).add 2) = some (.string sR0_2) /\
 R (.returned (.tuple #[.agg #[.int .i64 nR0_0, .int .i64 nR0_1, .string sR0_2], .int .i64 n13_2])) w4) (
 Br (decide (n1 < 1)) (
 stA prog 28 (⟨r6, 0, none⟩ : Addr) #[.int .i64 0, .int .i64 0, .string (⟨#[]⟩ : ByteArray)] w2 fun w5 =>
 zQd prog ({ target := .fn (.func fx) capx, args := (firstx.toList ++ ([] : List Value)).toArray } :: ds) w5 fun w6 =>
 ∃ nR0_0, w6.cell? ((⟨r6, 0, none⟩ : Addr).add 0) = some (.int .i64 nR0_0) /\
 ∃ nR0_1, w6.cell? ((⟨r6, 0, none⟩ : Addr).add 1) = some (.int .i64 nR0_1) /\
 ∃ sR0_2, w6.cell? ((⟨r6, 0, none⟩ : Addr).add 2) = some (.string sR0_2) /\
 R (.returned (.tuple #[.agg #[.int .i64 nR0_0, .int .i64 nR0_1, .string sR0_2], .int .i64 4])) w6) (
 zQi p0 fun a7 =>
 ∃ l30 : SV, w2.cell? ((a7.add 2).add 2) = some (.slice l30.a l30.len l30.cap) /\
 Br (decide (n1 > (l30.len : Int))) (
 stA prog 28 (⟨r6, 0, none⟩ : Addr) #[.int .i64 0, .int .i64 0, .string (⟨#[]⟩ : ByteArray)] w2 fun w8 =>
 zQd prog ({ target := .fn (.func fx) capx, args := (firstx.toList ++ ([] : List Value)).toArray } :: ds) w8 fun w9 =>
 ∃ nR0_0, w9.cell? ((⟨r6, 0, none⟩ : Addr).add 0) = some (.int .i64 nR0_0) /\
 ∃ nR0_1, w9.cell? ((⟨r6, 0, none⟩ : Addr).add 1) = some (.int .i64 nR0_1) /\
 ∃ sR0_2, w9.cell? ((⟨r6, 0, none⟩ : Addr).add 2) = some (.string sR0_2) /\
 R (.returned (.tuple #[.agg #[.int .i64 nR0_0, .int .i64 nR0_1, .string sR0_2], .int .i64 4])) w9) (
 zQi p0 fun a10 =>
 ∃ l40 : SV, w2.cell? ((a10.add 2).add 2) = some (.slice l40.a l40.len l40.cap) /\
 ∃ a11, l40.a = some a11 /\ 0 <= (IntKind.i64.wrap (n1 - 1)) /\ (IntKind.i64.wrap (n1 - 1)) < (l40.len : Int) /\
 ∃ b44_0, w2.cell? ((a11.add ((IntKind.i64.wrap (n1 - 1)).toNat * 2)).add 0) = some (.bool b44_0) /\
 ∃ l44_1 : SV, w2.cell? ((a11.add ((IntKind.i64.wrap (n1 - 1)).toNat * 2)).add 1) = some (.slice l44_1.a l44_1.len l44_1.cap) /\
 Calls prog 56 #[.pointer p0, .agg #[.bool b44_0, .slice l44_1.a l44_1.len l44_1.cap], .bool true, .string s2] w2 fun e w12 =>
 ∃ n46_0_0 : Int, ∃ n46_0_1 : Int, ∃ s46_0_2 : ByteArray, ∃ n46_1 : Int, e = .returned (.tuple #[.agg #[.int .i64 n46_0_0, .int .i64 n46_0_1, .string s46_0_2], .int .i64 n46_1]) /\
 stA prog 28 (⟨r6, 0, none⟩ : Addr) #[.int .i64 n46_0_0, .int .i64 n46_0_1, .string s46_0_2] w12 fun w13 =>
 zQd prog ({ target := .fn (.func fx) capx, args := (firstx.toList ++ ([] : List Value)).toArray } :: ds) w13 fun w14 =>
 ∃ nR0_0, w14.cell? ((⟨r6, 0, none⟩ : Addr).add 0) = some (.int .i64 nR0_0) /\
 ∃ nR0_1, w14.cell? ((⟨r6, 0, none⟩ : Addr).add 1) = some (.int .i64 nR0_1) /\
 ∃ sR0_2, w14.cell? ((⟨r6, 0, none⟩ : Addr).add 2) = some (.string sR0_2) /\
 R (.returned (.tuple #[.agg #[.int .i64 nR0_0, .int .i64 nR0_1, .string sR0_2], .int .i64 n46_1])) w14)))
theorem F18_p : Pl prog f18 [pS 0, iS 1, sS 2] F18_1 := fun R =>
 lf
theorem yK6 (p0 : Option Addr) (n1 : Int) (s2 : ByteArray) (w : World) (R : Rt) (h : F18_1 R p0 n1 s2 [] w) : Calls prog 18 #[.pointer p0, .int .i64 n1, .string s2] w R :=
 plC F18_p func18 h
def F76_1 (R : Rt) (l9 : SV) (ds : Ds) (w : World) : Prop :=
 zQd prog ds w fun w1 =>
 R (.returned (.tuple #[.slice l9.a l9.len l9.cap, .int .i64 0])) w1
def F76_2 (R : Rt) (J1 : (SV × Int) -> World -> Prop) (l9 : SV) (n32 n33 : Int) (ds : Ds) (w : World) : Prop :=
 Br (decide (n33 < n32)) (
 alE (.cells #[.int .i64 (IntKind.i64.wrap ((IntKind.i64.wrap (0 - n33)) - 1))] 3) w fun r40 w2 =>
 ∃ l41 : SV, ∃ w3, (Builtin.append_ #[43, 43] 43 #[.slice l9.a l9.len l9.cap, .slice (some ⟨r40, 0, none⟩) 1 1]).run prog w2 = .ok (.slice l41.a l41.len l41.cap) w3 /\
 J1 (l41, (IntKind.i64.wrap (n33 + 1))) w3) (
 F76_1 R l9 ds w)
def F76_3 (R : Rt) (l9 : SV) (n32 n33 : Int) (ds : Ds) (w : World) : Prop :=
 zQD (fun (J1 : (SV × Int) -> World -> Prop) (s : SV × Int) (w : World) => F76_2 R J1 s.1 n32 s.2 ds w) (l9, n33) w
def F76_5 (R : Rt) (p0 : Option Addr) (n1 : Int) (ds : Ds) (w : World) : Prop :=
 Calls prog 47 #[.pointer p0, .int .i64 n1] w fun e w4 =>
 ∃ p14_0 : Option Addr, ∃ v14_1 : Value, ∃ n14_2 : Int, e = .returned (.tuple #[.pointer p14_0, v14_1, .int .i64 n14_2]) /\
 fnE v14_1 fun fx firstx capx =>
 Br (n14_2 != 0) (
 zQd prog ({ target := .fn (.func fx) capx, args := (firstx.toList ++ ([] : List Value)).toArray } :: ds) w4 fun w5 =>
 R (.returned (.tuple #[.slice none 0 0, .int .i64 n14_2])) w5) (
 zQi p14_0 fun a6 =>
 ∃ m25, w4.cell? (a6.add 2) = some (.map m25) /\
 Calls prog 129 #[.map m25] w4 fun e w7 =>
 ∃ v26 : Value, e = .returned (v26) /\
 Calls prog 128 #[v26] w7 fun e w8 =>
 ∃ l27 : SV, e = .returned (.slice l27.a l27.len l27.cap) /\
 zQi p14_0 fun a9 =>
 ∃ l31 : SV, w8.cell? (a9.add 3) = some (.slice l31.a l31.len l31.cap) /\
 F76_3 R l27 (l31.len : Int) 0 ({ target := .fn (.func fx) capx, args := (firstx.toList ++ ([] : List Value)).toArray } :: ds) w8)
theorem F76_p : Pl prog f76 [pS 0, iS 1] F76_5 := fun R =>
 pc 7 (zQx [lS 9, iS 32, iS 33] (F76_3 R) (bk 0 (zQx [lS 9] (F76_1 R) lf) (lp [lS 9, iS 33] [lS 9, iS 32, iS 33] (F76_2 R) zXz fun J1 => lf)))
theorem yWr (p0 : Option Addr) (n1 : Int) (w : World) (R : Rt) (h : F76_5 R p0 n1 [] w) : Calls prog 76 #[.pointer p0, .int .i64 n1] w R :=
 plC F76_p func76 h
def F78_1 (R : Rt) (p0 : Option Addr) (n1 : Int) (ds : Ds) (w : World) : Prop :=
 Calls prog 47 #[.pointer p0, .int .i64 n1] w fun e w1 =>
 ∃ p12_0 : Option Addr, ∃ v12_1 : Value, ∃ n12_2 : Int, e = .returned (.tuple #[.pointer p12_0, v12_1, .int .i64 n12_2]) /\
 fnE v12_1 fun fx firstx capx =>
 Br (n12_2 != 0) (
 zQd prog ({ target := .fn (.func fx) capx, args := (firstx.toList ++ ([] : List Value)).toArray } :: ds) w1 fun w2 =>
 R (.returned (.tuple #[.slice none 0 0, .int .i64 n12_2])) w2) (
 Calls prog 114 #[.pointer p0, .pointer p12_0] w1 fun e w3 =>
 ∃ l22 : SV, e = .returned (.slice l22.a l22.len l22.cap) /\
 zQd prog ({ target := .fn (.func fx) capx, args := (firstx.toList ++ ([] : List Value)).toArray } :: ds) w3 fun w4 =>
 R (.returned (.tuple #[.slice l22.a l22.len l22.cap, .int .i64 0])) w4)
theorem F78_p : Pl prog f78 [pS 0, iS 1] F78_1 := fun R =>
 lf
theorem yJg (p0 : Option Addr) (n1 : Int) (w : World) (R : Rt) (h : F78_1 R p0 n1 [] w) : Calls prog 78 #[.pointer p0, .int .i64 n1] w R :=
 plC F78_p func78 h
def F30_1 (R : Rt) (p0 : Option Addr) (n1 : Int) (ds : Ds) (w : World) : Prop :=
 Calls prog 47 #[.pointer p0, .int .i64 0] w fun e w1 =>
 ∃ p14_0 : Option Addr, ∃ v14_1 : Value, ∃ n14_2 : Int, e = .returned (.tuple #[.pointer p14_0, v14_1, .int .i64 n14_2]) /\
 fnE v14_1 fun fx firstx capx =>
 Br (n14_2 != 0) (
 zQd prog ({ target := .fn (.func fx) capx, args := (firstx.toList ++ ([] : List Value)).toArray } :: ds) w1 fun w2 =>
 R (.returned (.tuple #[.int .i64 0, .bool false, .int .i64 n14_2])) w2) (
 Br (decide (n1 < 1)) (
 zQd prog ({ target := .fn (.func fx) capx, args := (firstx.toList ++ ([] : List Value)).toArray } :: ds) w1 fun w3 =>
 R (.returned (.tuple #[.int .i64 0, .bool false, .int .i64 4])) w3) (
 zQi p0 fun a4 =>
 ∃ l30 : SV, w1.cell? ((a4.add 2).add 2) = some (.slice l30.a l30.len l30.cap) /\
 Br (decide (n1 > (l30.len : Int))) (
 zQd prog ({ target := .fn (.func fx) capx, args := (firstx.toList ++ ([] : List Value)).toArray } :: ds) w1 fun w5 =>
 R (.returned (.tuple #[.int .i64 0, .bool false, .int .i64 4])) w5) (
 zQi p0 fun a6 =>
 ∃ m38, w1.cell? (a6.add 21) = some (.map m38) /\
 ∃ n40_0 : Int, ∃ b40_1 : Bool, ∃ w7, (Instr.lookup 80 (.map m38) (.int .i64 n1) true).run prog w1 = .ok (.tuple #[.int .i64 n40_0, .bool b40_1]) w7 /\
 zQd prog ({ target := .fn (.func fx) capx, args := (firstx.toList ++ ([] : List Value)).toArray } :: ds) w7 fun w8 =>
 R (.returned (.tuple #[.int .i64 n40_0, .bool b40_1, .int .i64 0])) w8)))
theorem F30_p : Pl prog f30 [pS 0, iS 1] F30_1 := fun R =>
 lf
theorem yWd (p0 : Option Addr) (n1 : Int) (w : World) (R : Rt) (h : F30_1 R p0 n1 [] w) : Calls prog 30 #[.pointer p0, .int .i64 n1] w R :=
 plC F30_p func30 h
def F24_1 (R : Rt) (p0 : Option Addr) (ds : Ds) (w : World) : Prop :=
 alE (.cells #[.int .i64 0, .slice none 0 0, .slice none 0 0] 25) w fun r2 w1 =>
 Calls prog 47 #[.pointer p0, .int .i64 0] w1 fun e w2 =>
 ∃ p9_0 : Option Addr, ∃ v9_1 : Value, ∃ n9_2 : Int, e = .returned (.tuple #[.pointer p9_0, v9_1, .int .i64 n9_2]) /\
 fnE v9_1 fun fx firstx capx =>
 Br (n9_2 != 0) (
 stA prog 25 (⟨r2, 0, none⟩ : Addr) #[.int .i64 0, .slice none 0 0, .slice none 0 0] w2 fun w3 =>
 zQd prog ({ target := .fn (.func fx) capx, args := (firstx.toList ++ ([] : List Value)).toArray } :: ds) w3 fun w4 =>
 ∃ nR0_0, w4.cell? ((⟨r2, 0, none⟩ : Addr).add 0) = some (.int .i64 nR0_0) /\
 ∃ lR0_1 : SV, w4.cell? ((⟨r2, 0, none⟩ : Addr).add 1) = some (.slice lR0_1.a lR0_1.len lR0_1.cap) /\
 ∃ lR0_2 : SV, w4.cell? ((⟨r2, 0, none⟩ : Addr).add 2) = some (.slice lR0_2.a lR0_2.len lR0_2.cap) /\
 R (.returned (.agg #[.int .i64 nR0_0, .slice lR0_1.a lR0_1.len lR0_1.cap, .slice lR0_2.a lR0_2.len lR0_2.cap])) w4) (
 zQi p0 fun a5 =>
 ∃ n20_0, w2.cell? ((a5.add 2).add 0) = some (.int .i64 n20_0) /\
 ∃ l20_1 : SV, w2.cell? ((a5.add 2).add 1) = some (.slice l20_1.a l20_1.len l20_1.cap) /\
 ∃ l20_2 : SV, w2.cell? ((a5.add 2).add 2) = some (.slice l20_2.a l20_2.len l20_2.cap) /\
 alE (.cells #[.int .i64 0, .slice none 0 0, .slice none 0 0] 25) w2 fun r6 w6 =>
 stA prog 25 (⟨r6, 0, none⟩ : Addr) #[.int .i64 n20_0, .slice l20_1.a l20_1.len l20_1.cap, .slice l20_2.a l20_2.len l20_2.cap] w6 fun w7 =>
 dwE w7 fun w8 =>
 ∃ S1 : World -> Prop, S1 w8 /\
 ∃ l22 : SV, (∀ w', S1 w' -> w'.cell? ((⟨r6, 0, none⟩ : Addr).add 1) = some (.slice l22.a l22.len l22.cap)) /\
 ∃ l25 : SV, (∀ w', S1 w' -> w'.cell? ((⟨r6, 0, none⟩ : Addr).add 2) = some (.slice l25.a l25.len l25.cap)) /\
 Calls prog 39 #[.slice l22.a l22.len l22.cap] w8 fun e w9 =>
 ∃ l23 : SV, e = .returned (.slice l23.a l23.len l23.cap) /\
 S1 w9 /\
 Calls prog 40 #[.slice l25.a l25.len l25.cap] w9 fun e w10 =>
 ∃ l26 : SV, e = .returned (.slice l26.a l26.len l26.cap) /\
 st1 ((⟨r6, 0, none⟩ : Addr).add 1) (.slice l23.a l23.len l23.cap) w10 fun w11 =>
 st1 ((⟨r6, 0, none⟩ : Addr).add 2) (.slice l26.a l26.len l26.cap) w11 fun w12 =>
 ∃ n29_0, w12.cell? ((⟨r6, 0, none⟩ : Addr).add 0) = some (.int .i64 n29_0) /\
 ∃ l29_1 : SV, w12.cell? ((⟨r6, 0, none⟩ : Addr).add 1) = some (.slice l29_1.a l29_1.len l29_1.cap) /\
 ∃ l29_2 : SV, w12.cell? ((⟨r6, 0, none⟩ : Addr).add 2) = some (.slice l29_2.a l29_2.len l29_2.cap) /\
 stA prog 25 (⟨r2, 0, none⟩ : Addr) #[.int .i64 n29_0, .slice l29_1.a l29_1.len l29_1.cap, .slice l29_2.a l29_2.len l29_2.cap] w12 fun w13 =>
 zQd prog ({ target := .fn (.func fx) capx, args := (firstx.toList ++ ([] : List Value)).toArray } :: ds) w13 fun w14 =>
 ∃ nR0_0, w14.cell? ((⟨r2, 0, none⟩ : Addr).add 0) = some (.int .i64 nR0_0) /\
 ∃ lR0_1 : SV, w14.cell? ((⟨r2, 0, none⟩ : Addr).add 1) = some (.slice lR0_1.a lR0_1.len lR0_1.cap) /\
 ∃ lR0_2 : SV, w14.cell? ((⟨r2, 0, none⟩ : Addr).add 2) = some (.slice lR0_2.a lR0_2.len lR0_2.cap) /\
 R (.returned (.agg #[.int .i64 nR0_0, .slice lR0_1.a lR0_1.len lR0_1.cap, .slice lR0_2.a lR0_2.len lR0_2.cap])) w14)
theorem F24_p : Pl prog f24 [pS 0] F24_1 := fun R =>
 lf
theorem yVa (p0 : Option Addr) (w : World) (R : Rt) (h : F24_1 R p0 [] w) : Calls prog 24 #[.pointer p0] w R :=
 plC F24_p func24 h
end Go.Proofs.YtcihcbfcgjepfaaGreatDoor
