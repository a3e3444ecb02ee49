import Derived.Test.YtcihcbfcgjepfaaGreatDoorProg
import Derived.Test.YtcihcbfcgjepfaaGreatDoorShTwentyEight
/- Shallow texts of functions, printed by program, each checked by the kernel against the loaded code. No condition. -/
set_option maxRecDepth 100000
set_option linter.unusedVariables false
namespace Go.Proofs.YtcihcbfcgjepfaaGreatDoor
open Go.Sh Tryz
def yV7 (R : Rt) (n0_0 n0_1 : Int) (s0_2 : ByteArray) (ds : Ds) (w : World) : Prop :=
 alE (.cells #[.int .i64 n0_0, .int .i64 n0_1, .string s0_2] 28) w fun r1 w1 =>
 ∃ s4, w1.cell? ((⟨r1, 0, none⟩ : Addr).add 2) = some (.string s4) /\
 Br (decide ((s4.size : Int) > 2048)) (
 zQd prog ds w1 fun w2 =>
 R (.returned (.int .i64 3)) w2) (
 ∃ n7_0, w1.cell? ((⟨r1, 0, none⟩ : Addr).add 0) = some (.int .i64 n7_0) /\
 ∃ n7_1, w1.cell? ((⟨r1, 0, none⟩ : Addr).add 1) = some (.int .i64 n7_1) /\
 ∃ s7_2, w1.cell? ((⟨r1, 0, none⟩ : Addr).add 2) = some (.string s7_2) /\
 Calls prog 152 #[.agg #[.int .i64 n7_0, .int .i64 n7_1, .string s7_2]] w1 fun e w3 =>
 ∃ b8 : Bool, e = .returned (.bool b8) /\
 Br (!b8) (
 zQd prog ds w3 fun w4 =>
 R (.returned (.int .i64 1)) w4) (
 zQd prog ds w3 fun w5 =>
 R (.returned (.int .i64 0)) w5))
theorem F107_p : Pl prog f107 [aS 0 [.int .i64, .int .i64, .str]] yV7 := fun R =>
 lf
theorem yXk (n0_0 n0_1 : Int) (s0_2 : ByteArray) (w : World) (R : Rt) (h : yV7 R n0_0 n0_1 s0_2 [] w) : Calls prog 107 #[.agg #[.int .i64 n0_0, .int .i64 n0_1, .string s0_2]] w R :=
 plC F107_p func107 h
def zW5 (R : Rt) (p1 : Option Addr) (n22 : Int) (ds : Ds) (w : World) : Prop :=
 Br (n22 == 0) (
 zQp p1 fun a1 =>
 ∃ n26, w.cell? (a1.add 1) = some (.int .i64 n26) /\
 zQd prog ds w fun w2 =>
 R (.returned (.bool (n26 == 0))) w2) (
 Br (n22 == 1) (
 zQp p1 fun a3 =>
 ∃ n31, w.cell? (a3.add 1) = some (.int .i64 n31) /\
 Br (n31 == 0) (
 zQd prog ds w fun w4 =>
 R (.returned (.bool true)) w4) (
 zQp p1 fun a5 =>
 ∃ n35, w.cell? (a5.add 1) = some (.int .i64 n35) /\
 zQd prog ds w fun w6 =>
 R (.returned (.bool (n35 == 1))) w6)) (
 Br (n22 == 2) (
 zQp p1 fun a7 =>
 ∃ n41, w.cell? (a7.add 1) = some (.int .i64 n41) /\
 Calls prog 158 #[.int .i64 n41] w fun e w8 =>
 ∃ b42 : Bool, e = .returned (.bool b42) /\
 zQd prog ds w8 fun w9 =>
 R (.returned (.bool b42)) w9) (
 Br (n22 == 3) (
 zQp p1 fun a10 =>
 ∃ n46, w.cell? (a10.add 1) = some (.int .i64 n46) /\
 Calls prog 188 #[.int .i64 n46] w fun e w11 =>
 ∃ b47 : Bool, e = .returned (.bool b47) /\
 zQd prog ds w11 fun w12 =>
 R (.returned (.bool b47)) w12) (
 zQp p1 fun a13 =>
 ∃ n49, w.cell? a13 = some (.int .i64 n49) /\
 zQd prog ds w fun w14 =>
 R (.returned (.bool (n49 == 4))) w14))))
def yVb (R : Rt) (n0_0 n0_1 : Int) (s0_2 : ByteArray) (ds : Ds) (w : World) : Prop :=
 alE (.cells #[.int .i64 n0_0, .int .i64 n0_1, .string s0_2] 28) w fun r1 w15 =>
 ∃ n4, w15.cell? (⟨r1, 0, none⟩ : Addr) = some (.int .i64 n4) /\
 Br (n4 != 4) (
 ∃ s8, w15.cell? ((⟨r1, 0, none⟩ : Addr).add 2) = some (.string s8) /\
 Br (!(s8.toList == (⟨#[]⟩ : ByteArray).toList)) (
 zQd prog ds w15 fun w16 =>
 R (.returned (.bool false)) w16) (
 ∃ n13, w15.cell? (⟨r1, 0, none⟩ : Addr) = some (.int .i64 n13) /\
 Br (n13 == 4) (
 ∃ n17, w15.cell? ((⟨r1, 0, none⟩ : Addr).add 1) = some (.int .i64 n17) /\
 Br (n17 != 0) (
 zQd prog ds w15 fun w17 =>
 R (.returned (.bool false)) w17) (
 ∃ n22, w15.cell? (⟨r1, 0, none⟩ : Addr) = some (.int .i64 n22) /\
 zW5 R (some (⟨r1, 0, none⟩ : Addr)) n22 ds w15)) (
 ∃ n22, w15.cell? (⟨r1, 0, none⟩ : Addr) = some (.int .i64 n22) /\
 zW5 R (some (⟨r1, 0, none⟩ : Addr)) n22 ds w15))) (
 ∃ n13, w15.cell? (⟨r1, 0, none⟩ : Addr) = some (.int .i64 n13) /\
 Br (n13 == 4) (
 ∃ n17, w15.cell? ((⟨r1, 0, none⟩ : Addr).add 1) = some (.int .i64 n17) /\
 Br (n17 != 0) (
 zQd prog ds w15 fun w18 =>
 R (.returned (.bool false)) w18) (
 ∃ n22, w15.cell? (⟨r1, 0, none⟩ : Addr) = some (.int .i64 n22) /\
 zW5 R (some (⟨r1, 0, none⟩ : Addr)) n22 ds w15)) (
 ∃ n22, w15.cell? (⟨r1, 0, none⟩ : Addr) = some (.int .i64 n22) /\
 zW5 R (some (⟨r1, 0, none⟩ : Addr)) n22 ds w15))
theorem F152_p : Pl prog f152 [aS 0 [.int .i64, .int .i64, .str]] yVb := fun R =>
 pc 4 (zQ1 [pS 1, iS 22] (zW5 R) lf)
theorem yQZ (n0_0 n0_1 : Int) (s0_2 : ByteArray) (w : World) (R : Rt) (h : yVb R n0_0 n0_1 s0_2 [] w) : Calls prog 152 #[.agg #[.int .i64 n0_0, .int .i64 n0_1, .string s0_2]] w R :=
 plC F152_p func152 h
def yVs (R : Rt) (n0 : Int) (ds : Ds) (w : World) : Prop :=
 Br (decide (n0 >= (-1000000000000000))) (
 zQd prog ds w fun w1 =>
 R (.returned (.bool (decide (n0 <= 1000000000000000)))) w1) (
 zQd prog ds w fun w2 =>
 R (.returned (.bool false)) w2)
theorem F158_p : Pl prog f158 [iS 0] yVs := fun R =>
 lf
theorem yQD (n0 : Int) (w : World) (R : Rt) (h : yVs R n0 [] w) : Calls prog 158 #[.int .i64 n0] w R :=
 plC F158_p func158 h
def yWE (R : Rt) (n0 : Int) (ds : Ds) (w : World) : Prop :=
 Br (decide (n0 >= 0)) (
 zQd prog ds w fun w1 =>
 R (.returned (.bool (decide (n0 <= 3652059)))) w1) (
 zQd prog ds w fun w2 =>
 R (.returned (.bool false)) w2)
theorem F188_p : Pl prog f188 [iS 0] yWE := fun R =>
 lf
theorem yX2 (n0 : Int) (w : World) (R : Rt) (h : yWE R n0 [] w) : Calls prog 188 #[.int .i64 n0] w R :=
 plC F188_p func188 h
def zWg (R : Rt) (p1 : Option Addr) (b3 : Bool) (ds : Ds) (w : World) : Prop :=
 Br (!b3) (
 zQd prog ds w fun w1 =>
 R (.returned (.int .i64 1)) w1) (
 zQp p1 fun a2 =>
 ∃ n49, w.cell? a2 = some (.int .i64 n49) /\
 Br (n49 != 4) (
 zQp p1 fun a3 =>
 ∃ s53, w.cell? (a3.add 2) = some (.string s53) /\
 Br (!(s53.toList == (⟨#[]⟩ : ByteArray).toList)) (
 zQd prog ds w fun w4 =>
 R (.returned (.int .i64 1)) w4) (
 zQd prog ds w fun w5 =>
 R (.returned (.int .i64 0)) w5)) (
 zQd prog ds w fun w6 =>
 R (.returned (.int .i64 0)) w6))
def F45_2 (R : Rt) (n0_0 n0_1 : Int) (s0_2 : ByteArray) (ds : Ds) (w : World) : Prop :=
 alE (.cells #[.int .i64 n0_0, .int .i64 n0_1, .string s0_2] 28) w fun r1 w7 =>
 ∃ s5, w7.cell? ((⟨r1, 0, none⟩ : Addr).add 2) = some (.string s5) /\
 Br (decide ((s5.size : Int) > 2048)) (
 zQd prog ds w7 fun w8 =>
 R (.returned (.int .i64 3)) w8) (
 ∃ n9, w7.cell? (⟨r1, 0, none⟩ : Addr) = some (.int .i64 n9) /\
 Br (n9 == 0) (
 ∃ n13, w7.cell? ((⟨r1, 0, none⟩ : Addr).add 1) = some (.int .i64 n13) /\
 zWg R (some (⟨r1, 0, none⟩ : Addr)) (n13 == 0) ds w7) (
 Br (n9 == 1) (
 ∃ n18, w7.cell? ((⟨r1, 0, none⟩ : Addr).add 1) = some (.int .i64 n18) /\
 Br (n18 == 0) (
 zWg R (some (⟨r1, 0, none⟩ : Addr)) true ds w7) (
 ∃ n22, w7.cell? ((⟨r1, 0, none⟩ : Addr).add 1) = some (.int .i64 n22) /\
 zWg R (some (⟨r1, 0, none⟩ : Addr)) (n22 == 1) ds w7)) (
 Br (n9 == 2) (
 ∃ n28, w7.cell? ((⟨r1, 0, none⟩ : Addr).add 1) = some (.int .i64 n28) /\
 Calls prog 98 #[.int .i64 n28] w7 fun e w9 =>
 ∃ b29 : Bool, e = .returned (.bool b29) /\
 zWg R (some (⟨r1, 0, none⟩ : Addr)) b29 ds w9) (
 Br (n9 == 3) (
 ∃ n33, w7.cell? ((⟨r1, 0, none⟩ : Addr).add 1) = some (.int .i64 n33) /\
 Br (decide (n33 >= 0)) (
 ∃ n37, w7.cell? ((⟨r1, 0, none⟩ : Addr).add 1) = some (.int .i64 n37) /\
 zWg R (some (⟨r1, 0, none⟩ : Addr)) (decide (n37 <= 3652059)) ds w7) (
 zWg R (some (⟨r1, 0, none⟩ : Addr)) false ds w7)) (
 Br (n9 == 4) (
 ∃ n43, w7.cell? ((⟨r1, 0, none⟩ : Addr).add 1) = some (.int .i64 n43) /\
 zWg R (some (⟨r1, 0, none⟩ : Addr)) (n43 == 0) ds w7) (
 zWg R (some (⟨r1, 0, none⟩ : Addr)) false ds w7))))))
theorem F45_p : Pl prog f45 [aS 0 [.int .i64, .int .i64, .str]] F45_2 := fun R =>
 pc 6 (zQ1 [pS 1, bS 3] (zWg R) lf)
theorem yZC (n0_0 n0_1 : Int) (s0_2 : ByteArray) (w : World) (R : Rt) (h : F45_2 R n0_0 n0_1 s0_2 [] w) : Calls prog 45 #[.agg #[.int .i64 n0_0, .int .i64 n0_1, .string s0_2]] w R :=
 plC F45_p func45 h
def F98_1 (R : Rt) (n0 : Int) (ds : Ds) (w : World) : Prop :=
 Br (decide (n0 >= (-1000000000000000))) (
 zQd prog ds w fun w1 =>
 R (.returned (.bool (decide (n0 <= 1000000000000000)))) w1) (
 zQd prog ds w fun w2 =>
 R (.returned (.bool false)) w2)
theorem F98_p : Pl prog f98 [iS 0] F98_1 := fun R =>
 lf
theorem yJw (n0 : Int) (w : World) (R : Rt) (h : F98_1 R n0 [] w) : Calls prog 98 #[.int .i64 n0] w R :=
 plC F98_p func98 h
end Go.Proofs.YtcihcbfcgjepfaaGreatDoor
/- Shallow texts of functions, printed by program, each checked by the kernel against the loaded code. No condition. -/
namespace Go.Proofs.YtcihcbfcgjepfaaGreatDoor
open Go.Sh Tryz
def yQb (R : Rt) (p1 p3 : Option Addr) (b4 : Bool) (ds : Ds) (w : World) : Prop :=
 Br b4 (
 zQp p1 fun a1 =>
 ∃ s15, w.cell? a1 = some (.string s15) /\
 Calls prog 151 #[.string s15] w fun e w2 =>
 ∃ b16 : Bool, e = .returned (.bool b16) /\
 Br b16 (
 zQp p1 fun a3 =>
 ∃ n20, w2.cell? (a3.add 2) = some (.int .i64 n20) /\
 zQp p3 fun a4 =>
 ∃ n22, w2.cell? (a4.add 1) = some (.int .i64 n22) /\
 Br (decide (n20 >= n22)) (
 zQp p1 fun a5 =>
 ∃ n27, w2.cell? (a5.add 2) = some (.int .i64 n27) /\
 zQp p3 fun a6 =>
 ∃ n29, w2.cell? (a6.add 2) = some (.int .i64 n29) /\
 zQd prog ds w2 fun w7 =>
 R (.returned (.bool (decide (n27 <= n29)))) w7) (
 zQd prog ds w2 fun w8 =>
 R (.returned (.bool false)) w8)) (
 zQd prog ds w2 fun w9 =>
 R (.returned (.bool false)) w9)) (
 zQd prog ds w fun w10 =>
 R (.returned (.bool false)) w10)
def yVZ (R : Rt) (s0_0 : ByteArray) (n0_1 n0_2 : Int) (b0_3 : Bool) (ds : Ds) (w : World) : Prop :=
 alE (.cells #[.string s0_0, .int .i64 n0_1, .int .i64 n0_2, .bool b0_3] 38) w fun r1 w11 =>
 dwE w11 fun w12 =>
 ∃ S1 : World -> Prop, S1 w12 /\
 ∃ n8, (∀ w', S1 w' -> w'.cell? ((⟨r1, 0, none⟩ : Addr).add 1) = some (.int .i64 n8)) /\
 (
 Calls prog 150 #[] w12 fun e w13 =>
 ∃ m6 : Option Nat, e = .returned (.map m6) /\
 ∃ S2 : World -> Prop, S2 w13 /\ (∀ u, S2 u -> S1 u) /\
 ∃ n9_0_0 : Int, ∃ n9_0_1 : Int, ∃ n9_0_2 : Int, ∃ v9_0_3 : Value, ∃ v9_0_4 : Value, ∃ b9_1 : Bool, (∀ w', S2 w' -> (Instr.lookup 186 (.map m6) (.int .i64 n8) true).run prog w' = .ok (.tuple #[.agg #[.int .u8 n9_0_0, .int .i64 n9_0_1, .int .i64 n9_0_2, v9_0_3, v9_0_4], .bool b9_1]) w') /\
 alE (.cells #[.int .u8 0, .int .i64 0, .int .i64 0, .nilFunc, .nilFunc] 184) w13 fun r3 w14 =>
 ∃ S3 : World -> Prop, S3 w14 /\ (∀ u, S3 u -> S2 u) /\
 stA prog 184 (⟨r3, 0, none⟩ : Addr) #[.int .u8 n9_0_0, .int .i64 n9_0_1, .int .i64 n9_0_2, v9_0_3, v9_0_4] w14 fun w15 =>
 yQb R (some (⟨r1, 0, none⟩ : Addr)) (some (⟨r3, 0, none⟩ : Addr)) b9_1 ds w15) /\ (
 alE (.cells #[.int .u8 0, .int .i64 0, .int .i64 0, .nilFunc, .nilFunc] 184) w12 fun r3 w16 =>
 ∃ S4 : World -> Prop, S4 w16 /\ (∀ u, S4 u -> S1 u) /\
 Calls prog 150 #[] w16 fun e w17 =>
 ∃ m6 : Option Nat, e = .returned (.map m6) /\
 ∃ S5 : World -> Prop, S5 w17 /\ (∀ u, S5 u -> S4 u) /\
 ∃ n9_0_0 : Int, ∃ n9_0_1 : Int, ∃ n9_0_2 : Int, ∃ v9_0_3 : Value, ∃ v9_0_4 : Value, ∃ b9_1 : Bool, (∀ w', S5 w' -> (Instr.lookup 186 (.map m6) (.int .i64 n8) true).run prog w' = .ok (.tuple #[.agg #[.int .u8 n9_0_0, .int .i64 n9_0_1, .int .i64 n9_0_2, v9_0_3, v9_0_4], .bool b9_1]) w') /\
 stA prog 184 (⟨r3, 0, none⟩ : Addr) #[.int .u8 n9_0_0, .int .i64 n9_0_1, .int .i64 n9_0_2, v9_0_3, v9_0_4] w17 fun w18 =>
 yQb R (some (⟨r1, 0, none⟩ : Addr)) (some (⟨r3, 0, none⟩ : Addr)) b9_1 ds w18)
theorem F106_p : Pl prog f106 [aS 0 [.str, .int .i64, .int .i64, .bool]] yVZ := fun R =>
 pc 2 (zQ1 [pS 1, pS 3, bS 4] (yQb R) lf)
theorem yXB (s0_0 : ByteArray) (n0_1 n0_2 : Int) (b0_3 : Bool) (w : World) (R : Rt) (h : yVZ R s0_0 n0_1 n0_2 b0_3 [] w) : Calls prog 106 #[.agg #[.string s0_0, .int .i64 n0_1, .int .i64 n0_2, .bool b0_3]] w R :=
 plC F106_p func106 h
def yJB (R : Rt) (s0 : ByteArray) (ds : Ds) (w : World) : Prop :=
 Br (!(s0.toList == (⟨#[]⟩ : ByteArray).toList)) (
 Br (decide ((s0.size : Int) <= 10)) (
 Calls prog 187 #[.string s0, .string (⟨#[65, 66, 67, 68, 69, 70, 71, 72, 73, 74, 75, 76, 77, 78, 79, 80, 81, 82, 83, 84, 85, 86, 87, 88, 89, 90, 48, 49, 50, 51, 52, 53, 54, 55, 56, 57, 95]⟩ : ByteArray)] w fun e w1 =>
 ∃ s12 : ByteArray, e = .returned (.string s12) /\
 Br (s12.toList == (⟨#[]⟩ : ByteArray).toList) (
 ∃ b17 : UInt8, 0 <= (0 : Int) /\ s0[(0 : Int).toNat]? = some b17 /\
 Br (decide ((b17.toNat : Int) >= 65)) (
 ∃ b22 : UInt8, 0 <= (0 : Int) /\ s0[(0 : Int).toNat]? = some b22 /\
 zQd prog ds w1 fun w2 =>
 R (.returned (.bool (decide ((b22.toNat : Int) <= 90)))) w2) (
 zQd prog ds w1 fun w3 =>
 R (.returned (.bool false)) w3)) (
 zQd prog ds w1 fun w4 =>
 R (.returned (.bool false)) w4)) (
 zQd prog ds w fun w5 =>
 R (.returned (.bool false)) w5)) (
 zQd prog ds w fun w6 =>
 R (.returned (.bool false)) w6)
theorem F151_p : Pl prog f151 [sS 0] yJB := fun R =>
 lf
theorem yXL (s0 : ByteArray) (w : World) (R : Rt) (h : yJB R s0 [] w) : Calls prog 151 #[.string s0] w R :=
 plC F151_p func151 h
def yVe (R : Rt) (ds : Ds) (w : World) : Prop :=
 alE (.map #[] 0) w fun r1 w1 =>
 doE prog (Instr.mapUpdate 186 (.map (some r1)) (.int .i64 1) (.agg #[.int .u8 76, .int .i64 1, .int .i64 1, .func (.func 177) #[] #[], .func (.func 178) #[] #[]])) w1 fun w2 =>
 doE prog (Instr.mapUpdate 186 (.map (some r1)) (.int .i64 2) (.agg #[.int .u8 78, .int .i64 1, .int .i64 15, .func (.func 179) #[] #[], .func (.func 180) #[] #[]])) w2 fun w3 =>
 doE prog (Instr.mapUpdate 186 (.map (some r1)) (.int .i64 3) (.agg #[.int .u8 68, .int .i64 8, .int .i64 8, .func (.func 181) #[] #[], .func (.func 182) #[] #[]])) w3 fun w4 =>
 doE prog (Instr.mapUpdate 186 (.map (some r1)) (.int .i64 4) (.agg #[.int .u8 67, .int .i64 1, .int .i64 254, .func (.func 183) #[] #[], .func (.func 184) #[] #[]])) w4 fun w5 =>
 doE prog (Instr.mapUpdate 186 (.map (some r1)) (.int .i64 5) (.agg #[.int .u8 77, .int .i64 8, .int .i64 8, .func (.func 185) #[] #[], .func (.func 186) #[] #[]])) w5 fun w6 =>
 zQd prog ds w6 fun w7 =>
 R (.returned (.map (some r1))) w7
theorem F150_p : Pl prog f150 [] yVe := fun R =>
 lf
theorem yXm  (w : World) (R : Rt) (h : yVe R [] w) : Calls prog 150 #[] w R :=
 plC F150_p func150 h
def F92_1 (R : Rt) (n0 : Int) (ds : Ds) (w : World) : Prop :=
 Br (decide (n0 >= 0)) (
 zQd prog ds w fun w1 =>
 R (.returned (.bool (decide (n0 <= 2)))) w1) (
 zQd prog ds w fun w2 =>
 R (.returned (.bool false)) w2)
theorem F92_p : Pl prog f92 [iS 0] F92_1 := fun R =>
 lf
theorem yZ9 (n0 : Int) (w : World) (R : Rt) (h : F92_1 R n0 [] w) : Calls prog 92 #[.int .i64 n0] w R :=
 plC F92_p func92 h
def F44_1 (R : Rt) (s0_0 : ByteArray) (n0_1 n0_2 : Int) (b0_3 : Bool) (ds : Ds) (w : World) : Prop :=
 alE (.cells #[.string s0_0, .int .i64 n0_1, .int .i64 n0_2, .bool b0_3] 38) w fun r1 w1 =>
 ∃ s4, w1.cell? (⟨r1, 0, none⟩ : Addr) = some (.string s4) /\
 Calls prog 97 #[.string s4] w1 fun e w2 =>
 ∃ b5 : Bool, e = .returned (.bool b5) /\
 Br (!b5) (
 zQd prog ds w2 fun w3 =>
 R (.returned (.bool false)) w3) (
 ∃ n8, w2.cell? ((⟨r1, 0, none⟩ : Addr).add 1) = some (.int .i64 n8) /\
 Br (n8 == 1) (
 ∃ n12, w2.cell? ((⟨r1, 0, none⟩ : Addr).add 2) = some (.int .i64 n12) /\
 zQd prog ds w2 fun w4 =>
 R (.returned (.bool (n12 == 1))) w4) (
 Br (n8 == 2) (
 ∃ n17, w2.cell? ((⟨r1, 0, none⟩ : Addr).add 2) = some (.int .i64 n17) /\
 Br (decide (n17 >= 1)) (
 ∃ n21, w2.cell? ((⟨r1, 0, none⟩ : Addr).add 2) = some (.int .i64 n21) /\
 zQd prog ds w2 fun w5 =>
 R (.returned (.bool (decide (n21 <= 15)))) w5) (
 zQd prog ds w2 fun w6 =>
 R (.returned (.bool false)) w6)) (
 Br (n8 == 3) (
 Br (n8 == 3) (
 ∃ n28, w2.cell? ((⟨r1, 0, none⟩ : Addr).add 2) = some (.int .i64 n28) /\
 zQd prog ds w2 fun w7 =>
 R (.returned (.bool (n28 == 8))) w7) (
 Br (n8 == 4) (
 ∃ n33, w2.cell? ((⟨r1, 0, none⟩ : Addr).add 2) = some (.int .i64 n33) /\
 Br (decide (n33 >= 1)) (
 ∃ n37, w2.cell? ((⟨r1, 0, none⟩ : Addr).add 2) = some (.int .i64 n37) /\
 zQd prog ds w2 fun w8 =>
 R (.returned (.bool (decide (n37 <= 254)))) w8) (
 zQd prog ds w2 fun w9 =>
 R (.returned (.bool false)) w9)) (
 zQd prog ds w2 fun w10 =>
 R (.returned (.bool false)) w10))) (
 Br (n8 == 5) (
 ∃ n28, w2.cell? ((⟨r1, 0, none⟩ : Addr).add 2) = some (.int .i64 n28) /\
 zQd prog ds w2 fun w11 =>
 R (.returned (.bool (n28 == 8))) w11) (
 Br (n8 == 4) (
 ∃ n33, w2.cell? ((⟨r1, 0, none⟩ : Addr).add 2) = some (.int .i64 n33) /\
 Br (decide (n33 >= 1)) (
 ∃ n37, w2.cell? ((⟨r1, 0, none⟩ : Addr).add 2) = some (.int .i64 n37) /\
 zQd prog ds w2 fun w12 =>
 R (.returned (.bool (decide (n37 <= 254)))) w12) (
 zQd prog ds w2 fun w13 =>
 R (.returned (.bool false)) w13)) (
 zQd prog ds w2 fun w14 =>
 R (.returned (.bool false)) w14))))))
theorem F44_p : Pl prog f44 [aS 0 [.str, .int .i64, .int .i64, .bool]] F44_1 := fun R =>
 lf
theorem yZ0 (s0_0 : ByteArray) (n0_1 n0_2 : Int) (b0_3 : Bool) (w : World) (R : Rt) (h : F44_1 R s0_0 n0_1 n0_2 b0_3 [] w) : Calls prog 44 #[.agg #[.string s0_0, .int .i64 n0_1, .int .i64 n0_2, .bool b0_3]] w R :=
 plC F44_p func44 h
def F41_1 (R : Rt) (n0 : Int) (ds : Ds) (w : World) : Prop :=
 Br (decide (n0 >= 0)) (
 zQd prog ds w fun w1 =>
 R (.returned (.bool (decide (n0 <= 2)))) w1) (
 zQd prog ds w fun w2 =>
 R (.returned (.bool false)) w2)
theorem F41_p : Pl prog f41 [iS 0] F41_1 := fun R =>
 lf
theorem yZH (n0 : Int) (w : World) (R : Rt) (h : F41_1 R n0 [] w) : Calls prog 41 #[.int .i64 n0] w R :=
 plC F41_p func41 h
def F97_1 (R : Rt) (ds : Ds) (w : World) : Prop :=
 zQd prog ds w fun w1 =>
 R (.returned (.bool true)) w1
def zWP (R : Rt) (J1 : (Int) -> World -> Prop) (s0 : ByteArray) (n3 : Int) (ds : Ds) (w : World) : Prop :=
 J1 (IntKind.i64.wrap (n3 + 1)) w
def F97_3 (R : Rt) (J1 : (Int) -> World -> Prop) (s0 : ByteArray) (n3 : Int) (ds : Ds) (w : World) : Prop :=
 ∃ b22 : UInt8, 0 <= n3 /\ s0[n3.toNat]? = some b22 /\
 Br (decide ((b22.toNat : Int) >= 65)) (
 Br (!(decide ((b22.toNat : Int) <= 90))) (
 Br (n3 == 0) (
 zQd prog ds w fun w2 =>
 R (.returned (.bool false)) w2) (
 Br ((b22.toNat : Int) != 95) (
 Calls prog 148 #[.int .u8 (b22.toNat : Int)] w fun e w3 =>
 ∃ b39 : Bool, e = .returned (.bool b39) /\
 Br (!b39) (
 zQd prog ds w3 fun w4 =>
 R (.returned (.bool false)) w4) (
 zWP R J1 s0 n3 ds w3)) (
 zWP R J1 s0 n3 ds w))) (
 zWP R J1 s0 n3 ds w)) (
 Br (n3 == 0) (
 zQd prog ds w fun w5 =>
 R (.returned (.bool false)) w5) (
 Br ((b22.toNat : Int) != 95) (
 Calls prog 148 #[.int .u8 (b22.toNat : Int)] w fun e w6 =>
 ∃ b39 : Bool, e = .returned (.bool b39) /\
 Br (!b39) (
 zQd prog ds w6 fun w7 =>
 R (.returned (.bool false)) w7) (
 zWP R J1 s0 n3 ds w6)) (
 zWP R J1 s0 n3 ds w)))
def F97_4 (R : Rt) (J1 : (Int) -> World -> Prop) (s0 : ByteArray) (n3 : Int) (ds : Ds) (w : World) : Prop :=
 Br (decide (n3 < (s0.size : Int))) (
 F97_3 R J1 s0 n3 ds w) (
 F97_1 R ds w)
def F97_5 (R : Rt) (s0 : ByteArray) (n3 : Int) (ds : Ds) (w : World) : Prop :=
 zQJ (fun (J1 : (Int) -> World -> Prop) (s : Int) (w : World) => F97_4 R J1 s0 s ds w) n3 w
def F97_7 (R : Rt) (s0 : ByteArray) (ds : Ds) (w : World) : Prop :=
 Br (decide ((s0.size : Int) < 1)) (
 zQd prog ds w fun w8 =>
 R (.returned (.bool false)) w8) (
 Br (decide ((s0.size : Int) > 10)) (
 zQd prog ds w fun w9 =>
 R (.returned (.bool false)) w9) (
 F97_5 R s0 0 ds w))
theorem F97_p : Pl prog f97 [sS 0] F97_7 := fun R =>
 pc 4 (zQ1 [sS 0, iS 3] (F97_5 R) (bk 0 (zQ1 [] (F97_1 R) lf) (lp [iS 3] [sS 0, iS 3] (F97_4 R) zZb fun J1 => pc 2 (zQ1 [sS 0, iS 3] (F97_3 R J1) (pc 1 (zQ1 [sS 0, iS 3] (zWP R J1) lf))))))
theorem yZF (s0 : ByteArray) (w : World) (R : Rt) (h : F97_7 R s0 [] w) : Calls prog 97 #[.string s0] w R :=
 plC F97_p func97 h
def yWD (R : Rt) (n0 : Int) (ds : Ds) (w : World) : Prop :=
 Br (decide (n0 >= 48)) (
 zQd prog ds w fun w1 =>
 R (.returned (.bool (decide (n0 <= 57)))) w1) (
 zQd prog ds w fun w2 =>
 R (.returned (.bool false)) w2)
theorem F148_p : Pl prog f148 [kS .u8 0] yWD := fun R =>
 lf
theorem yXl (n0 : Int) (w : World) (R : Rt) (h : yWD R n0 [] w) : Calls prog 148 #[.int .u8 n0] w R :=
 plC F148_p func148 h
def yV8 (R : Rt) (s0_0 : ByteArray) (n0_1 n0_2 : Int) (b0_3 : Bool) (ds : Ds) (w : World) : Prop :=
 alE (.cells #[.string s0_0, .int .i64 n0_1, .int .i64 n0_2, .bool b0_3] 38) w fun r1 w1 =>
 alE (.cells #[.int .i64 0, .int .i64 0, .string (⟨#[]⟩ : ByteArray)] 28) w1 fun r2 w2 =>
 ∃ n4, w2.cell? ((⟨r1, 0, none⟩ : Addr).add 1) = some (.int .i64 n4) /\
 Br (n4 == 5) (
 stA prog 28 (⟨r2, 0, none⟩ : Addr) #[.int .i64 2, .int .i64 0, .string (⟨#[]⟩ : ByteArray)] w2 fun w3 =>
 zQd prog ds w3 fun w4 =>
 ∃ nR0_0, w4.cell? ((⟨r2, 0, none⟩ : Addr).add 0) = some (.int .i64 nR0_0) /\
 ∃ nR0_1, w4.cell? ((⟨r2, 0, none⟩ : Addr).add 1) = some (.int .i64 nR0_1) /\
 ∃ sR0_2, w4.cell? ((⟨r2, 0, none⟩ : Addr).add 2) = some (.string sR0_2) /\
 R (.returned (.agg #[.int .i64 nR0_0, .int .i64 nR0_1, .string sR0_2])) w4) (
 ∃ n8, w2.cell? ((⟨r1, 0, none⟩ : Addr).add 1) = some (.int .i64 n8) /\
 stA prog 28 (⟨r2, 0, none⟩ : Addr) #[.int .i64 n8, .int .i64 0, .string (⟨#[]⟩ : ByteArray)] w2 fun w5 =>
 zQd prog ds w5 fun w6 =>
 ∃ nR0_0, w6.cell? ((⟨r2, 0, none⟩ : Addr).add 0) = some (.int .i64 nR0_0) /\
 ∃ nR0_1, w6.cell? ((⟨r2, 0, none⟩ : Addr).add 1) = some (.int .i64 nR0_1) /\
 ∃ sR0_2, w6.cell? ((⟨r2, 0, none⟩ : Addr).add 2) = some (.string sR0_2) /\
 R (.returned (.agg #[.int .i64 nR0_0, .int .i64 nR0_1, .string sR0_2])) w6)
theorem F108_p : Pl prog f108 [aS 0 [.str, .int .i64, .int .i64, .bool]] yV8 := fun R =>
 lf
theorem yQ5 (s0_0 : ByteArray) (n0_1 n0_2 : Int) (b0_3 : Bool) (w : World) (R : Rt) (h : yV8 R s0_0 n0_1 n0_2 b0_3 [] w) : Calls prog 108 #[.agg #[.string s0_0, .int .i64 n0_1, .int .i64 n0_2, .bool b0_3]] w R :=
 plC F108_p func108 h
end Go.Proofs.YtcihcbfcgjepfaaGreatDoor
/- Shallow texts of functions, printed by program, each checked by the kernel against the loaded code. No condition. -/
namespace Go.Proofs.YtcihcbfcgjepfaaGreatDoor
open Go.Sh Tryz
def yKk (R : Rt) (n1 : Int) (s6 : ByteArray) (ds : Ds) (w : World) : Prop :=
 Calls prog 160 #[.string (⟨#[32]⟩ : ByteArray), .int .i64 (IntKind.i64.wrap (n1 - (s6.size : Int)))] w fun e w1 =>
 ∃ s30 : ByteArray, e = .returned (.string s30) /\
 ((s30.size + s6.size : Nat) : Int) <= 9223372036854775807 /\
 zQd prog ds w1 fun w2 =>
 R (.returned (.tuple #[.string (s30 ++ s6), .int .i64 0])) w2
def yVQ (R : Rt) (n0 n1 : Int) (ds : Ds) (w : World) : Prop :=
 Calls prog 158 #[.int .i64 n0] w fun e w3 =>
 ∃ b8 : Bool, e = .returned (.bool b8) /\
 Br (!b8) (
 zQd prog ds w3 fun w4 =>
 R (.returned (.tuple #[.string (⟨#[]⟩ : ByteArray), .int .i64 1])) w4) (
 Br (decide (n1 < 1)) (
 zQd prog ds w3 fun w5 =>
 R (.returned (.tuple #[.string (⟨#[]⟩ : ByteArray), .int .i64 1])) w5) (
 Br (decide (n1 > 254)) (
 zQd prog ds w3 fun w6 =>
 R (.returned (.tuple #[.string (⟨#[]⟩ : ByteArray), .int .i64 1])) w6) (
 Calls prog 159 #[.int .i64 n0] w3 fun e w7 =>
 ∃ s19 : ByteArray, e = .returned (.string s19) /\
 Br (decide ((s19.size : Int) > n1)) (
 Calls prog 160 #[.string (⟨#[42]⟩ : ByteArray), .int .i64 n1] w7 fun e w8 =>
 ∃ s25 : ByteArray, e = .returned (.string s25) /\
 zQd prog ds w8 fun w9 =>
 R (.returned (.tuple #[.string s25, .int .i64 0])) w9) (
 yKk R n1 s19 ds w7))))
theorem F111_p : Pl prog f111 [iS 0, iS 1] yVQ := fun R =>
 pc 6 (zQ1 [iS 1, sS 6] (yKk R) lf)
theorem yQN (n0 n1 : Int) (w : World) (R : Rt) (h : yVQ R n0 n1 [] w) : Calls prog 111 #[.int .i64 n0, .int .i64 n1] w R :=
 plC F111_p func111 h
def yV6 (R : Rt) (n0 : Int) (ds : Ds) (w : World) : Prop :=
 Br (decide (n0 < 0)) (
 Calls prog 159 #[.int .i64 (IntKind.i64.wrap (0 - n0))] w fun e w1 =>
 ∃ s8 : ByteArray, e = .returned (.string s8) /\
 (((⟨#[45]⟩ : ByteArray).size + s8.size : Nat) : Int) <= 9223372036854775807 /\
 zQd prog ds w1 fun w2 =>
 R (.returned (.string ((⟨#[45]⟩ : ByteArray) ++ s8))) w2) (
 Br (decide (n0 < 10)) (
 0 <= (IntKind.i64.wrap (n0 + 1)) /\ (IntKind.i64.wrap (n0 + 1)).toNat <= (⟨#[48, 49, 50, 51, 52, 53, 54, 55, 56, 57]⟩ : ByteArray).size /\ 0 <= n0 /\ n0.toNat <= (IntKind.i64.wrap (n0 + 1)).toNat /\
 zQd prog ds w fun w3 =>
 R (.returned (.string ((⟨#[48, 49, 50, 51, 52, 53, 54, 55, 56, 57]⟩ : ByteArray).extract n0.toNat ((IntKind.i64.wrap (n0 + 1)).toNat)))) w3) (
 dwE w fun w4 =>
 IntKind.i64 = IntKind.i64 /\ (10 : Int) ≠ 0 /\
 IntKind.i64 = IntKind.i64 /\ (10 : Int) ≠ 0 /\
 IntKind.i64 = IntKind.i64 /\ (10 : Int) ≠ 0 /\
 0 <= (IntKind.i64.wrap ((n0.tmod 10) + 1)) /\ (IntKind.i64.wrap ((n0.tmod 10) + 1)).toNat <= (⟨#[48, 49, 50, 51, 52, 53, 54, 55, 56, 57]⟩ : ByteArray).size /\ 0 <= (n0.tmod 10) /\ (n0.tmod 10).toNat <= (IntKind.i64.wrap ((n0.tmod 10) + 1)).toNat /\
 Calls prog 159 #[.int .i64 (IntKind.i64.wrap (n0.tdiv 10))] w4 fun e w5 =>
 ∃ s19 : ByteArray, e = .returned (.string s19) /\
 ((s19.size + ((⟨#[48, 49, 50, 51, 52, 53, 54, 55, 56, 57]⟩ : ByteArray).extract ((n0.tmod 10).toNat) ((IntKind.i64.wrap ((n0.tmod 10) + 1)).toNat)).size : Nat) : Int) <= 9223372036854775807 /\
 zQd prog ds w5 fun w6 =>
 R (.returned (.string (s19 ++ ((⟨#[48, 49, 50, 51, 52, 53, 54, 55, 56, 57]⟩ : ByteArray).extract ((n0.tmod 10).toNat) ((IntKind.i64.wrap ((n0.tmod 10) + 1)).toNat))))) w6))
theorem F159_p : Pl prog f159 [iS 0] yV6 := fun R =>
 lf
theorem zWs (n0 : Int) (w : World) (R : Rt) (h : yV6 R n0 [] w) : Calls prog 159 #[.int .i64 n0] w R :=
 plC F159_p func159 h
def yWS (R : Rt) (n0 : Int) (ds : Ds) (w : World) : Prop :=
 Br (decide (n0 < 0)) (
 Br (n0 == (-9223372036854775808)) (
 zQd prog ds w fun w1 =>
 R (.returned (.string (⟨#[45, 57, 50, 50, 51, 51, 55, 50, 48, 51, 54, 56, 53, 52, 55, 55, 53, 56, 48, 56]⟩ : ByteArray))) w1) (
 Calls prog 147 #[.int .i64 (IntKind.i64.wrap (0 - n0))] w fun e w2 =>
 ∃ s9 : ByteArray, e = .returned (.string s9) /\
 (((⟨#[45]⟩ : ByteArray).size + s9.size : Nat) : Int) <= 9223372036854775807 /\
 zQd prog ds w2 fun w3 =>
 R (.returned (.string ((⟨#[45]⟩ : ByteArray) ++ s9))) w3)) (
 Br (decide (n0 < 10)) (
 0 <= (IntKind.i64.wrap (n0 + 1)) /\ (IntKind.i64.wrap (n0 + 1)).toNat <= (⟨#[48, 49, 50, 51, 52, 53, 54, 55, 56, 57]⟩ : ByteArray).size /\ 0 <= n0 /\ n0.toNat <= (IntKind.i64.wrap (n0 + 1)).toNat /\
 zQd prog ds w fun w4 =>
 R (.returned (.string ((⟨#[48, 49, 50, 51, 52, 53, 54, 55, 56, 57]⟩ : ByteArray).extract n0.toNat ((IntKind.i64.wrap (n0 + 1)).toNat)))) w4) (
 IntKind.i64 = IntKind.i64 /\ (10 : Int) ≠ 0 /\
 Calls prog 147 #[.int .i64 (IntKind.i64.wrap (n0.tdiv 10))] w fun e w5 =>
 ∃ s19 : ByteArray, e = .returned (.string s19) /\
 IntKind.i64 = IntKind.i64 /\ (10 : Int) ≠ 0 /\
 Calls prog 147 #[.int .i64 (n0.tmod 10)] w5 fun e w6 =>
 ∃ s22 : ByteArray, e = .returned (.string s22) /\
 ((s19.size + s22.size : Nat) : Int) <= 9223372036854775807 /\
 zQd prog ds w6 fun w7 =>
 R (.returned (.string (s19 ++ s22))) w7))
theorem F147_p : Pl prog f147 [iS 0] yWS := fun R =>
 lf
theorem zWt (n0 : Int) (w : World) (R : Rt) (h : yWS R n0 [] w) : Calls prog 147 #[.int .i64 n0] w R :=
 plC F147_p func147 h
def yJ4 (R : Rt) (s0 : ByteArray) (n3 : Int) (ds : Ds) (w : World) : Prop :=
 0 <= n3 /\ n3.toNat <= s0.size /\ 0 <= n3.toNat /\
 zQd prog ds w fun w1 =>
 R (.returned (.string (s0.extract 0 n3.toNat))) w1
def F99_2 (R : Rt) (J1 : (Int) -> World -> Prop) (s0 : ByteArray) (n3 : Int) (ds : Ds) (w : World) : Prop :=
 Br (decide (n3 > 0)) (
 ∃ b12 : UInt8, 0 <= (IntKind.i64.wrap (n3 - 1)) /\ s0[(IntKind.i64.wrap (n3 - 1)).toNat]? = some b12 /\
 Br ((b12.toNat : Int) == 32) (
 J1 (IntKind.i64.wrap (n3 - 1)) w) (
 yJ4 R s0 n3 ds w)) (
 yJ4 R s0 n3 ds w)
def F99_3 (R : Rt) (s0 : ByteArray) (n3 : Int) (ds : Ds) (w : World) : Prop :=
 zQJ (fun (J1 : (Int) -> World -> Prop) (s : Int) (w : World) => F99_2 R J1 s0 s ds w) n3 w
def F99_5 (R : Rt) (s0 : ByteArray) (ds : Ds) (w : World) : Prop :=
 F99_3 R s0 (s0.size : Int) ds w
theorem F99_p : Pl prog f99 [sS 0] F99_5 := fun R =>
 pc 2 (zQ1 [sS 0, iS 3] (F99_3 R) (bk 0 (zQ1 [sS 0, iS 3] (yJ4 R) lf) (lp [iS 3] [sS 0, iS 3] (F99_2 R) zZb fun J1 => lf)))
theorem yJm (s0 : ByteArray) (w : World) (R : Rt) (h : F99_5 R s0 [] w) : Calls prog 99 #[.string s0] w R :=
 plC F99_p func99 h
end Go.Proofs.YtcihcbfcgjepfaaGreatDoor
/- Shallow texts of functions, printed by program, each checked by the kernel against the loaded code. No condition. -/
namespace Go.Proofs.YtcihcbfcgjepfaaGreatDoor
open Go.Sh Tryz
def yVC (R : Rt) (s0 : ByteArray) (n1 : Int) (ds : Ds) (w : World) : Prop :=
 Calls prog 157 #[.string s0, .int .i64 n1] w fun e w1 =>
 ∃ b10_0 : Bool, ∃ n10_1 : Int, e = .returned (.tuple #[.bool b10_0, .int .i64 n10_1]) /\
 Br b10_0 (
 zQd prog ds w1 fun w2 =>
 R (.returned (.bool (n10_1 == 0))) w2) (
 zQd prog ds w1 fun w3 =>
 R (.returned (.bool false)) w3)
theorem F110_p : Pl prog f110 [sS 0, iS 1] yVC := fun R =>
 lf
theorem yQL (s0 : ByteArray) (n1 : Int) (w : World) (R : Rt) (h : yVC R s0 n1 [] w) : Calls prog 110 #[.string s0, .int .i64 n1] w R :=
 plC F110_p func110 h
def yWz (R : Rt) (ds : Ds) (w : World) : Prop :=
 zQd prog ds w fun w1 =>
 R (.returned (.tuple #[.bool true, .int .i64 0])) w1
def yV3 (R : Rt) (J1 : (Int) -> World -> Prop) (p7 : Option Addr) (l21 : SV) (n22 n23 : Int) (ds : Ds) (w : World) : Prop :=
 Br (decide (n23 < n22)) (
 ∃ a2, l21.a = some a2 /\ 0 <= n23 /\ n23 < (l21.len : Int) /\
 ∃ n26, w.cell? (a2.add (n23.toNat * 1)) = some (.int .u8 n26) /\
 zQp p7 fun a3 =>
 0 <= n26 /\ n26 < (256 : Int) /\
 ∃ n29, w.cell? (a3.add (n26.toNat * 1)) = some (.int .i32 n29) /\
 Br (decide (n29 < 0)) (
 zQd prog ds w fun w4 =>
 R (.returned (.tuple #[.bool false, .int .i64 0])) w4) (
 J1 (IntKind.i64.wrap (n23 + 1)) w)) (
 yWz R ds w)
def yVJ (R : Rt) (p7 : Option Addr) (l21 : SV) (n22 n23 : Int) (ds : Ds) (w : World) : Prop :=
 zQJ (fun (J1 : (Int) -> World -> Prop) (s : Int) (w : World) => yV3 R J1 p7 l21 n22 s ds w) n23 w
def yWA (R : Rt) (s0 : ByteArray) (n1 : Int) (ds : Ds) (w : World) : Prop :=
 alE (.cells #[.string s0] 9) w fun r12 w5 =>
 Calls prog 192 #[.int .i64 n1, .slice (some ⟨r12, 0, none⟩) 1 1] w5 fun e w6 =>
 ∃ n13 : Int, e = .returned (.int .i64 n13) /\
 Br (n13 != 0) (
 zQd prog ds w6 fun w7 =>
 R (.returned (.tuple #[.bool false, .int .i64 n13])) w7) (
 Calls prog 193 #[] w6 fun e w8 =>
 ∃ c17 : Array Value, c17.size = 768 /\ e = .returned (.agg c17) /\
 ∃ c19 : Array Value, c19.size = 256 /\ ∃ w9, (Instr.index 215 (.agg c17) (.int .i64 n1)).run prog w8 = .ok (.agg c19) w9 /\
 alE (.cells (zc prog 214) 214) w9 fun r7 w10 =>
 stA prog 214 (⟨r7, 0, none⟩ : Addr) c19 w10 fun w11 =>
 ∃ l21 : SV, ∃ w12, (convert 9 217 (.string s0)).run prog w11 = .ok (.slice l21.a l21.len l21.cap) w12 /\
 yVJ R (some (⟨r7, 0, none⟩ : Addr)) l21 (l21.len : Int) 0 ds w12)
theorem F157_p : Pl prog f157 [sS 0, iS 1] yWA := fun R =>
 pc 6 (zQ1 [pS 7, lS 21, iS 22, iS 23] (yVJ R) (bk 0 (zQ1 [] (yWz R) lf) (lp [iS 23] [pS 7, lS 21, iS 22, iS 23] (yV3 R) zZb fun J1 => lf)))
theorem yXA (s0 : ByteArray) (n1 : Int) (w : World) (R : Rt) (h : yWA R s0 n1 [] w) : Calls prog 157 #[.string s0, .int .i64 n1] w R :=
 plC F157_p func157 h
def yWW (R : Rt) (n0 : Int) (ds : Ds) (w : World) : Prop :=
 Br (decide (n0 < 0)) (
 zQd prog ds w fun w1 =>
 R (.returned (.int .i64 1)) w1) (
 Br (decide (n0 > 2)) (
 zQd prog ds w fun w2 =>
 R (.returned (.int .i64 1)) w2) (
 zQd prog ds w fun w3 =>
 R (.returned (.int .i64 0)) w3))
def yVq (R : Rt) (J1 : (Int) -> World -> Prop) (n0 : Int) (l7 : SV) (n8 n9 : Int) (ds : Ds) (w : World) : Prop :=
 Br (decide (n9 < n8)) (
 ∃ a4, l7.a = some a4 /\ 0 <= n9 /\ n9 < (l7.len : Int) /\
 ∃ s12, w.cell? (a4.add (n9.toNat * 1)) = some (.string s12) /\
 Br (decide ((s12.size : Int) > 2048)) (
 zQd prog ds w fun w5 =>
 R (.returned (.int .i64 3)) w5) (
 J1 (IntKind.i64.wrap (n9 + 1)) w)) (
 yWW R n0 ds w)
def yWK (R : Rt) (n0 : Int) (l7 : SV) (n8 n9 : Int) (ds : Ds) (w : World) : Prop :=
 zQJ (fun (J1 : (Int) -> World -> Prop) (s : Int) (w : World) => yVq R J1 n0 l7 n8 s ds w) n9 w
def yVK (R : Rt) (n0 : Int) (l1 : SV) (ds : Ds) (w : World) : Prop :=
 yWK R n0 l1 (l1.len : Int) 0 ds w
theorem F192_p : Pl prog f192 [iS 0, lS 1] yVK := fun R =>
 pc 2 (zQ1 [iS 0, lS 7, iS 8, iS 9] (yWK R) (bk 0 (zQ1 [iS 0] (yWW R) lf) (lp [iS 9] [iS 0, lS 7, iS 8, iS 9] (yVq R) zZb fun J1 => lf)))
theorem yQ7 (n0 : Int) (l1 : SV) (w : World) (R : Rt) (h : yVK R n0 l1 [] w) : Calls prog 192 #[.int .i64 n0, .slice l1.a l1.len l1.cap] w R :=
 plC F192_p func192 h
def yJH (R : Rt) (p0 p1 : Option Addr) (ds : Ds) (w : World) : Prop :=
 zQp p1 fun a1 =>
 ∃ c48 : Array Value, c48.size = 768 /\ (∀ i, i < 768 -> w.cell? (a1.add i) = c48[i]?) /\
 zQp p0 fun a2 =>
 stA prog 215 a2 c48 w fun w3 =>
 zQd prog ds w3 fun w4 =>
 zQp p0 fun a5 =>
 ∃ cR0 : Array Value, cR0.size = 768 /\ (∀ i, i < 768 -> w4.cell? (a5.add i) = cR0[i]?) /\
 R (.returned (.agg cR0)) w4
def yWP (R : Rt) (J1 : (Int) -> World -> Prop) (p0 p1 : Option Addr) (n5 : Int) (ds : Ds) (w : World) : Prop :=
 Br (decide (n5 <= 239)) (
 zQp p1 fun a6 =>
 0 <= (2 : Int) /\ (2 : Int) < (3 : Int) /\
 0 <= n5 /\ n5 < (256 : Int) /\
 st1 ((a6.add ((2 : Int).toNat * 256)).add (n5.toNat * 1)) (.int .i32 (IntKind.i32.wrap ((1088 : Int) + (IntKind.i32.wrap (IntKind.i64.wrap (n5 - 224)))))) w fun w7 =>
 J1 (IntKind.i64.wrap (n5 + 1)) w7) (
 yJH R p0 p1 ds w)
def yVy (R : Rt) (p0 p1 : Option Addr) (n5 : Int) (ds : Ds) (w : World) : Prop :=
 zQJ (fun (J1 : (Int) -> World -> Prop) (s : Int) (w : World) => yWP R J1 p0 p1 s ds w) n5 w
def yVY (R : Rt) (p0 p1 : Option Addr) (ds : Ds) (w : World) : Prop :=
 yVy R p0 p1 224 ds w
def yVd (R : Rt) (J1 : (Int) -> World -> Prop) (p0 p1 : Option Addr) (n4 : Int) (ds : Ds) (w : World) : Prop :=
 Br (decide (n4 <= 175)) (
 zQp p1 fun a8 =>
 0 <= (2 : Int) /\ (2 : Int) < (3 : Int) /\
 0 <= n4 /\ n4 < (256 : Int) /\
 st1 ((a8.add ((2 : Int).toNat * 256)).add (n4.toNat * 1)) (.int .i32 (IntKind.i32.wrap ((1040 : Int) + (IntKind.i32.wrap (IntKind.i64.wrap (n4 - 128)))))) w fun w9 =>
 J1 (IntKind.i64.wrap (n4 + 1)) w9) (
 yVY R p0 p1 ds w)
def yVt (R : Rt) (p0 p1 : Option Addr) (n4 : Int) (ds : Ds) (w : World) : Prop :=
 zQJ (fun (J1 : (Int) -> World -> Prop) (s : Int) (w : World) => yVd R J1 p0 p1 s ds w) n4 w
def yVF (R : Rt) (p0 p1 : Option Addr) (ds : Ds) (w : World) : Prop :=
 yVt R p0 p1 128 ds w
def yJv (R : Rt) (J1 : (Int) -> World -> Prop) (p0 p1 : Option Addr) (n6 : Int) (ds : Ds) (w : World) : Prop :=
 Br (decide (n6 < 256)) (
 zQp p1 fun a10 =>
 0 <= (1 : Int) /\ (1 : Int) < (3 : Int) /\
 0 <= n6 /\ n6 < (256 : Int) /\
 st1 ((a10.add ((1 : Int).toNat * 256)).add (n6.toNat * 1)) (.int .i32 (IntKind.i32.wrap n6)) w fun w11 =>
 Br (decide (n6 >= 128)) (
 zQp p1 fun a12 =>
 0 <= (0 : Int) /\ (0 : Int) < (3 : Int) /\
 0 <= n6 /\ n6 < (256 : Int) /\
 st1 ((a12.add ((0 : Int).toNat * 256)).add (n6.toNat * 1)) (.int .i32 (-1)) w11 fun w13 =>
 zQp p1 fun a14 =>
 0 <= (2 : Int) /\ (2 : Int) < (3 : Int) /\
 0 <= n6 /\ n6 < (256 : Int) /\
 st1 ((a14.add ((2 : Int).toNat * 256)).add (n6.toNat * 1)) (.int .i32 (-1)) w13 fun w15 =>
 J1 (IntKind.i64.wrap (n6 + 1)) w15) (
 zQp p1 fun a16 =>
 0 <= (0 : Int) /\ (0 : Int) < (3 : Int) /\
 0 <= n6 /\ n6 < (256 : Int) /\
 st1 ((a16.add ((0 : Int).toNat * 256)).add (n6.toNat * 1)) (.int .i32 (IntKind.i32.wrap n6)) w11 fun w17 =>
 zQp p1 fun a18 =>
 0 <= (2 : Int) /\ (2 : Int) < (3 : Int) /\
 0 <= n6 /\ n6 < (256 : Int) /\
 st1 ((a18.add ((2 : Int).toNat * 256)).add (n6.toNat * 1)) (.int .i32 (IntKind.i32.wrap n6)) w17 fun w19 =>
 J1 (IntKind.i64.wrap (n6 + 1)) w19)) (
 yVF R p0 p1 ds w)
def yZx (R : Rt) (p0 p1 : Option Addr) (n6 : Int) (ds : Ds) (w : World) : Prop :=
 zQJ (fun (J1 : (Int) -> World -> Prop) (s : Int) (w : World) => yJv R J1 p0 p1 s ds w) n6 w
def yJs (R : Rt) (ds : Ds) (w : World) : Prop :=
 alE (.cells (zc prog 215) 215) w fun r0 w20 =>
 alE (.cells (zc prog 215) 215) w20 fun r1 w21 =>
 yZx R (some (⟨r0, 0, none⟩ : Addr)) (some (⟨r1, 0, none⟩ : Addr)) 0 ds w21
theorem F193_p : Pl prog f193 [] yJs := fun R =>
 pc 3 (zQ1 [pS 0, pS 1, iS 6] (yZx R) (bk 0 (zQ1 [pS 0, pS 1] (yVF R) (pc 1 (zQ1 [pS 0, pS 1, iS 4] (yVt R) (bk 2 (zQ1 [pS 0, pS 1] (yVY R) (pc 1 (zQ1 [pS 0, pS 1, iS 5] (yVy R) (bk 4 (zQ1 [pS 0, pS 1] (yJH R) lf) (lp [iS 5] [pS 0, pS 1, iS 5] (yWP R) zZb fun J1 => lf))))) (lp [iS 4] [pS 0, pS 1, iS 4] (yVd R) zZb fun J1 => lf))))) (lp [iS 6] [pS 0, pS 1, iS 6] (yJv R) zZb fun J1 => lf)))
theorem yQF  (w : World) (R : Rt) (h : yJs R [] w) : Calls prog 193 #[] w R :=
 plC F193_p func193 h
def yVz (R : Rt) (ds : Ds) (w : World) : Prop :=
 zQd prog ds w fun w1 =>
 R (.returned (.bool true)) w1
def yVD (R : Rt) (J1 : (Int) -> World -> Prop) (s0 : ByteArray) (n1 n5 : Int) (ds : Ds) (w : World) : Prop :=
 Br (decide (n5 < (s0.size : Int))) (
 ∃ b14 : UInt8, 0 <= n5 /\ s0[n5.toNat]? = some b14 /\
 Calls prog 149 #[.int .u8 (b14.toNat : Int), .int .i64 n1] w fun e w2 =>
 ∃ b16 : Bool, e = .returned (.bool b16) /\
 Br (!b16) (
 zQd prog ds w2 fun w3 =>
 R (.returned (.bool false)) w3) (
 J1 (IntKind.i64.wrap (n5 + 1)) w2)) (
 yVz R ds w)
def yVn (R : Rt) (s0 : ByteArray) (n1 n5 : Int) (ds : Ds) (w : World) : Prop :=
 zQJ (fun (J1 : (Int) -> World -> Prop) (s : Int) (w : World) => yVD R J1 s0 n1 s ds w) n5 w
def yVT (R : Rt) (s0 : ByteArray) (n1 : Int) (ds : Ds) (w : World) : Prop :=
 yVn R s0 n1 0 ds w
theorem F100_p : Pl prog f100 [sS 0, iS 1] yVT := fun R =>
 pc 2 (zQ1 [sS 0, iS 1, iS 5] (yVn R) (bk 0 (zQ1 [] (yVz R) lf) (lp [iS 5] [sS 0, iS 1, iS 5] (yVD R) zZb fun J1 => lf)))
theorem yXa (s0 : ByteArray) (n1 : Int) (w : World) (R : Rt) (h : yVT R s0 n1 [] w) : Calls prog 100 #[.string s0, .int .i64 n1] w R :=
 plC F100_p func100 h
def yW2 (R : Rt) (n0 n1 : Int) (ds : Ds) (w : World) : Prop :=
 Br (n1 == 0) (
 zQd prog ds w fun w1 =>
 R (.returned (.bool (decide (n0 < 128)))) w1) (
 Br (n1 == 1) (
 zQd prog ds w fun w2 =>
 R (.returned (.bool true)) w2) (
 Br (decide (n0 < 176)) (
 zQd prog ds w fun w3 =>
 R (.returned (.bool true)) w3) (
 Br (decide (n0 >= 224)) (
 zQd prog ds w fun w4 =>
 R (.returned (.bool (decide (n0 < 240)))) w4) (
 zQd prog ds w fun w5 =>
 R (.returned (.bool false)) w5))))
theorem F149_p : Pl prog f149 [kS .u8 0, iS 1] yW2 := fun R =>
 lf
theorem yQA (n0 n1 : Int) (w : World) (R : Rt) (h : yW2 R n0 n1 [] w) : Calls prog 149 #[.int .u8 n0, .int .i64 n1] w R :=
 plC F149_p func149 h
end Go.Proofs.YtcihcbfcgjepfaaGreatDoor
/- Shallow texts of functions, printed by program, each checked by the kernel against the loaded code. No condition. -/
namespace Go.Proofs.YtcihcbfcgjepfaaGreatDoor
open Go.Sh Tryz
def F52_1 (R : Rt) (n1 : Int) (p3 p5 p6 : Option Addr) (n42 : Int) (ds : Ds) (w : World) : Prop :=
 Br (n42 == 4) (
 zQp p5 fun a1 =>
 ∃ s46, w.cell? (a1.add 2) = some (.string s46) /\
 zQp p5 fun a2 =>
 ∃ s48, w.cell? (a2.add 2) = some (.string s48) /\
 zQp p3 fun a3 =>
 ∃ n51, w.cell? (a3.add 2) = some (.int .i64 n51) /\
 ∃ n52 : Int, ∃ w4, (Builtin.min_ #[3, 3] 3 #[.int .i64 (s48.size : Int), .int .i64 n51]).run prog w = .ok (.int .i64 n52) w4 /\
 0 <= n52 /\ n52.toNat <= s46.size /\ 0 <= n52.toNat /\
 Calls prog 109 #[.string (s46.extract 0 n52.toNat), .string (⟨#[32]⟩ : ByteArray)] w4 fun e w5 =>
 ∃ s54 : ByteArray, e = .returned (.string s54) /\
 zQp p5 fun a6 =>
 st1 (a6.add 2) (.string s54) w5 fun w7 =>
 zQp p5 fun a8 =>
 ∃ s57, w7.cell? (a8.add 2) = some (.string s57) /\
 Calls prog 110 #[.string s57, .int .i64 n1] w7 fun e w9 =>
 ∃ b59 : Bool, e = .returned (.bool b59) /\
 Br (!b59) (
 zQp p6 fun a10 =>
 stA prog 28 a10 #[.int .i64 0, .int .i64 0, .string (⟨#[]⟩ : ByteArray)] w9 fun w11 =>
 zQd prog ds w11 fun w12 =>
 zQp p6 fun a13 =>
 ∃ nR0_0, w12.cell? (a13.add 0) = some (.int .i64 nR0_0) /\
 ∃ nR0_1, w12.cell? (a13.add 1) = some (.int .i64 nR0_1) /\
 ∃ sR0_2, w12.cell? (a13.add 2) = some (.string sR0_2) /\
 R (.returned (.tuple #[.agg #[.int .i64 nR0_0, .int .i64 nR0_1, .string sR0_2], .int .i64 10])) w12) (
 zQp p5 fun a14 =>
 ∃ n90_0, w9.cell? (a14.add 0) = some (.int .i64 n90_0) /\
 ∃ n90_1, w9.cell? (a14.add 1) = some (.int .i64 n90_1) /\
 ∃ s90_2, w9.cell? (a14.add 2) = some (.string s90_2) /\
 zQp p6 fun a15 =>
 stA prog 28 a15 #[.int .i64 n90_0, .int .i64 n90_1, .string s90_2] w9 fun w16 =>
 zQd prog ds w16 fun w17 =>
 zQp p6 fun a18 =>
 ∃ nR0_0, w17.cell? (a18.add 0) = some (.int .i64 nR0_0) /\
 ∃ nR0_1, w17.cell? (a18.add 1) = some (.int .i64 nR0_1) /\
 ∃ sR0_2, w17.cell? (a18.add 2) = some (.string sR0_2) /\
 R (.returned (.tuple #[.agg #[.int .i64 nR0_0, .int .i64 nR0_1, .string sR0_2], .int .i64 0])) w17)) (
 Br (n42 == 2) (
 zQp p5 fun a19 =>
 ∃ n66, w.cell? (a19.add 1) = some (.int .i64 n66) /\
 zQp p3 fun a20 =>
 ∃ n68, w.cell? (a20.add 2) = some (.int .i64 n68) /\
 Calls prog 111 #[.int .i64 n66, .int .i64 n68] w fun e w21 =>
 ∃ s69_0 : ByteArray, ∃ n69_1 : Int, e = .returned (.tuple #[.string s69_0, .int .i64 n69_1]) /\
 Br (n69_1 != 0) (
 zQp p6 fun a22 =>
 stA prog 28 a22 #[.int .i64 0, .int .i64 0, .string (⟨#[]⟩ : ByteArray)] w21 fun w23 =>
 zQd prog ds w23 fun w24 =>
 zQp p6 fun a25 =>
 ∃ nR0_0, w24.cell? (a25.add 0) = some (.int .i64 nR0_0) /\
 ∃ nR0_1, w24.cell? (a25.add 1) = some (.int .i64 nR0_1) /\
 ∃ sR0_2, w24.cell? (a25.add 2) = some (.string sR0_2) /\
 R (.returned (.tuple #[.agg #[.int .i64 nR0_0, .int .i64 nR0_1, .string sR0_2], .int .i64 10])) w24) (
 Calls prog 112 #[.string s69_0, .string (⟨#[42]⟩ : ByteArray)] w21 fun e w26 =>
 ∃ b76 : Bool, e = .returned (.bool b76) /\
 Br b76 (
 zQp p6 fun a27 =>
 stA prog 28 a27 #[.int .i64 0, .int .i64 0, .string (⟨#[]⟩ : ByteArray)] w26 fun w28 =>
 zQd prog ds w28 fun w29 =>
 zQp p6 fun a30 =>
 ∃ nR0_0, w29.cell? (a30.add 0) = some (.int .i64 nR0_0) /\
 ∃ nR0_1, w29.cell? (a30.add 1) = some (.int .i64 nR0_1) /\
 ∃ sR0_2, w29.cell? (a30.add 2) = some (.string sR0_2) /\
 R (.returned (.tuple #[.agg #[.int .i64 nR0_0, .int .i64 nR0_1, .string sR0_2], .int .i64 10])) w29) (
 zQp p5 fun a31 =>
 ∃ n90_0, w26.cell? (a31.add 0) = some (.int .i64 n90_0) /\
 ∃ n90_1, w26.cell? (a31.add 1) = some (.int .i64 n90_1) /\
 ∃ s90_2, w26.cell? (a31.add 2) = some (.string s90_2) /\
 zQp p6 fun a32 =>
 stA prog 28 a32 #[.int .i64 n90_0, .int .i64 n90_1, .string s90_2] w26 fun w33 =>
 zQd prog ds w33 fun w34 =>
 zQp p6 fun a35 =>
 ∃ nR0_0, w34.cell? (a35.add 0) = some (.int .i64 nR0_0) /\
 ∃ nR0_1, w34.cell? (a35.add 1) = some (.int .i64 nR0_1) /\
 ∃ sR0_2, w34.cell? (a35.add 2) = some (.string sR0_2) /\
 R (.returned (.tuple #[.agg #[.int .i64 nR0_0, .int .i64 nR0_1, .string sR0_2], .int .i64 0])) w34))) (
 Br (n42 == 5) (
 zQp p5 fun a36 =>
 ∃ n82, w.cell? (a36.add 1) = some (.int .i64 n82) /\
 Br (decide (n82 < 0)) (
 zQp p6 fun a37 =>
 stA prog 28 a37 #[.int .i64 0, .int .i64 0, .string (⟨#[]⟩ : ByteArray)] w fun w38 =>
 zQd prog ds w38 fun w39 =>
 zQp p6 fun a40 =>
 ∃ nR0_0, w39.cell? (a40.add 0) = some (.int .i64 nR0_0) /\
 ∃ nR0_1, w39.cell? (a40.add 1) = some (.int .i64 nR0_1) /\
 ∃ sR0_2, w39.cell? (a40.add 2) = some (.string sR0_2) /\
 R (.returned (.tuple #[.agg #[.int .i64 nR0_0, .int .i64 nR0_1, .string sR0_2], .int .i64 10])) w39) (
 zQp p5 fun a41 =>
 ∃ n86, w.cell? (a41.add 1) = some (.int .i64 n86) /\
 Br (decide (n86 > 99999999)) (
 zQp p6 fun a42 =>
 stA prog 28 a42 #[.int .i64 0, .int .i64 0, .string (⟨#[]⟩ : ByteArray)] w fun w43 =>
 zQd prog ds w43 fun w44 =>
 zQp p6 fun a45 =>
 ∃ nR0_0, w44.cell? (a45.add 0) = some (.int .i64 nR0_0) /\
 ∃ nR0_1, w44.cell? (a45.add 1) = some (.int .i64 nR0_1) /\
 ∃ sR0_2, w44.cell? (a45.add 2) = some (.string sR0_2) /\
 R (.returned (.tuple #[.agg #[.int .i64 nR0_0, .int .i64 nR0_1, .string sR0_2], .int .i64 10])) w44) (
 zQp p5 fun a46 =>
 ∃ n90_0, w.cell? (a46.add 0) = some (.int .i64 n90_0) /\
 ∃ n90_1, w.cell? (a46.add 1) = some (.int .i64 n90_1) /\
 ∃ s90_2, w.cell? (a46.add 2) = some (.string s90_2) /\
 zQp p6 fun a47 =>
 stA prog 28 a47 #[.int .i64 n90_0, .int .i64 n90_1, .string s90_2] w fun w48 =>
 zQd prog ds w48 fun w49 =>
 zQp p6 fun a50 =>
 ∃ nR0_0, w49.cell? (a50.add 0) = some (.int .i64 nR0_0) /\
 ∃ nR0_1, w49.cell? (a50.add 1) = some (.int .i64 nR0_1) /\
 ∃ sR0_2, w49.cell? (a50.add 2) = some (.string sR0_2) /\
 R (.returned (.tuple #[.agg #[.int .i64 nR0_0, .int .i64 nR0_1, .string sR0_2], .int .i64 0])) w49))) (
 zQp p5 fun a51 =>
 ∃ n90_0, w.cell? (a51.add 0) = some (.int .i64 n90_0) /\
 ∃ n90_1, w.cell? (a51.add 1) = some (.int .i64 n90_1) /\
 ∃ s90_2, w.cell? (a51.add 2) = some (.string s90_2) /\
 zQp p6 fun a52 =>
 stA prog 28 a52 #[.int .i64 n90_0, .int .i64 n90_1, .string s90_2] w fun w53 =>
 zQd prog ds w53 fun w54 =>
 zQp p6 fun a55 =>
 ∃ nR0_0, w54.cell? (a55.add 0) = some (.int .i64 nR0_0) /\
 ∃ nR0_1, w54.cell? (a55.add 1) = some (.int .i64 nR0_1) /\
 ∃ sR0_2, w54.cell? (a55.add 2) = some (.string sR0_2) /\
 R (.returned (.tuple #[.agg #[.int .i64 nR0_0, .int .i64 nR0_1, .string sR0_2], .int .i64 0])) w54)))
def F52_2 (R : Rt) (s0_0 : ByteArray) (n0_1 n0_2 : Int) (b0_3 : Bool) (n1 n2_0 n2_1 : Int) (s2_2 : ByteArray) (ds : Ds) (w : World) : Prop :=
 alE (.cells #[.string s0_0, .int .i64 n0_1, .int .i64 n0_2, .bool b0_3] 38) w fun r3 w56 =>
 alE (.cells #[.int .i64 n2_0, .int .i64 n2_1, .string s2_2] 28) w56 fun r5 w57 =>
 alE (.cells #[.int .i64 0, .int .i64 0, .string (⟨#[]⟩ : ByteArray)] 28) w57 fun r6 w58 =>
 ∃ s11_0, w58.cell? ((⟨r3, 0, none⟩ : Addr).add 0) = some (.string s11_0) /\
 ∃ n11_1, w58.cell? ((⟨r3, 0, none⟩ : Addr).add 1) = some (.int .i64 n11_1) /\
 ∃ n11_2, w58.cell? ((⟨r3, 0, none⟩ : Addr).add 2) = some (.int .i64 n11_2) /\
 ∃ b11_3, w58.cell? ((⟨r3, 0, none⟩ : Addr).add 3) = some (.bool b11_3) /\
 Calls prog 106 #[.agg #[.string s11_0, .int .i64 n11_1, .int .i64 n11_2, .bool b11_3]] w58 fun e w59 =>
 ∃ b12 : Bool, e = .returned (.bool b12) /\
 Br (!b12) (
 stA prog 28 (⟨r6, 0, none⟩ : Addr) #[.int .i64 0, .int .i64 0, .string (⟨#[]⟩ : ByteArray)] w59 fun w60 =>
 zQd prog ds w60 fun w61 =>
 ∃ nR0_0, w61.cell? ((⟨r6, 0, none⟩ : Addr).add 0) = some (.int .i64 nR0_0) /\
 ∃ nR0_1, w61.cell? ((⟨r6, 0, none⟩ : Addr).add 1) = some (.int .i64 nR0_1) /\
 ∃ sR0_2, w61.cell? ((⟨r6, 0, none⟩ : Addr).add 2) = some (.string sR0_2) /\
 R (.returned (.tuple #[.agg #[.int .i64 nR0_0, .int .i64 nR0_1, .string sR0_2], .int .i64 1])) w61) (
 Calls prog 92 #[.int .i64 n1] w59 fun e w62 =>
 ∃ b16 : Bool, e = .returned (.bool b16) /\
 Br (!b16) (
 stA prog 28 (⟨r6, 0, none⟩ : Addr) #[.int .i64 0, .int .i64 0, .string (⟨#[]⟩ : ByteArray)] w62 fun w63 =>
 zQd prog ds w63 fun w64 =>
 ∃ nR0_0, w64.cell? ((⟨r6, 0, none⟩ : Addr).add 0) = some (.int .i64 nR0_0) /\
 ∃ nR0_1, w64.cell? ((⟨r6, 0, none⟩ : Addr).add 1) = some (.int .i64 nR0_1) /\
 ∃ sR0_2, w64.cell? ((⟨r6, 0, none⟩ : Addr).add 2) = some (.string sR0_2) /\
 R (.returned (.tuple #[.agg #[.int .i64 nR0_0, .int .i64 nR0_1, .string sR0_2], .int .i64 1])) w64) (
 ∃ n20_0, w62.cell? ((⟨r5, 0, none⟩ : Addr).add 0) = some (.int .i64 n20_0) /\
 ∃ n20_1, w62.cell? ((⟨r5, 0, none⟩ : Addr).add 1) = some (.int .i64 n20_1) /\
 ∃ s20_2, w62.cell? ((⟨r5, 0, none⟩ : Addr).add 2) = some (.string s20_2) /\
 Calls prog 107 #[.agg #[.int .i64 n20_0, .int .i64 n20_1, .string s20_2]] w62 fun e w65 =>
 ∃ n21 : Int, e = .returned (.int .i64 n21) /\
 Br (n21 != 0) (
 stA prog 28 (⟨r6, 0, none⟩ : Addr) #[.int .i64 0, .int .i64 0, .string (⟨#[]⟩ : ByteArray)] w65 fun w66 =>
 zQd prog ds w66 fun w67 =>
 ∃ nR0_0, w67.cell? ((⟨r6, 0, none⟩ : Addr).add 0) = some (.int .i64 nR0_0) /\
 ∃ nR0_1, w67.cell? ((⟨r6, 0, none⟩ : Addr).add 1) = some (.int .i64 nR0_1) /\
 ∃ sR0_2, w67.cell? ((⟨r6, 0, none⟩ : Addr).add 2) = some (.string sR0_2) /\
 R (.returned (.tuple #[.agg #[.int .i64 nR0_0, .int .i64 nR0_1, .string sR0_2], .int .i64 n21])) w67) (
 ∃ n27, w65.cell? (⟨r5, 0, none⟩ : Addr) = some (.int .i64 n27) /\
 Br (n27 == 0) (
 ∃ b30, w65.cell? ((⟨r3, 0, none⟩ : Addr).add 3) = some (.bool b30) /\
 Br (!b30) (
 stA prog 28 (⟨r6, 0, none⟩ : Addr) #[.int .i64 0, .int .i64 0, .string (⟨#[]⟩ : ByteArray)] w65 fun w68 =>
 zQd prog ds w68 fun w69 =>
 ∃ nR0_0, w69.cell? ((⟨r6, 0, none⟩ : Addr).add 0) = some (.int .i64 nR0_0) /\
 ∃ nR0_1, w69.cell? ((⟨r6, 0, none⟩ : Addr).add 1) = some (.int .i64 nR0_1) /\
 ∃ sR0_2, w69.cell? ((⟨r6, 0, none⟩ : Addr).add 2) = some (.string sR0_2) /\
 R (.returned (.tuple #[.agg #[.int .i64 nR0_0, .int .i64 nR0_1, .string sR0_2], .int .i64 7])) w69) (
 ∃ n33_0, w65.cell? ((⟨r5, 0, none⟩ : Addr).add 0) = some (.int .i64 n33_0) /\
 ∃ n33_1, w65.cell? ((⟨r5, 0, none⟩ : Addr).add 1) = some (.int .i64 n33_1) /\
 ∃ s33_2, w65.cell? ((⟨r5, 0, none⟩ : Addr).add 2) = some (.string s33_2) /\
 stA prog 28 (⟨r6, 0, none⟩ : Addr) #[.int .i64 n33_0, .int .i64 n33_1, .string s33_2] w65 fun w70 =>
 zQd prog ds w70 fun w71 =>
 ∃ nR0_0, w71.cell? ((⟨r6, 0, none⟩ : Addr).add 0) = some (.int .i64 nR0_0) /\
 ∃ nR0_1, w71.cell? ((⟨r6, 0, none⟩ : Addr).add 1) = some (.int .i64 nR0_1) /\
 ∃ sR0_2, w71.cell? ((⟨r6, 0, none⟩ : Addr).add 2) = some (.string sR0_2) /\
 R (.returned (.tuple #[.agg #[.int .i64 nR0_0, .int .i64 nR0_1, .string sR0_2], .int .i64 0])) w71)) (
 dwE w65 fun w72 =>
 ∃ S1 : World -> Prop, S1 w72 /\
 ∃ n35, (∀ w', S1 w' -> w'.cell? (⟨r5, 0, none⟩ : Addr) = some (.int .i64 n35)) /\
 ∃ s36_0, (∀ w', S1 w' -> w'.cell? ((⟨r3, 0, none⟩ : Addr).add 0) = some (.string s36_0)) /\
 ∃ n36_1, (∀ w', S1 w' -> w'.cell? ((⟨r3, 0, none⟩ : Addr).add 1) = some (.int .i64 n36_1)) /\
 ∃ n36_2, (∀ w', S1 w' -> w'.cell? ((⟨r3, 0, none⟩ : Addr).add 2) = some (.int .i64 n36_2)) /\
 ∃ b36_3, (∀ w', S1 w' -> w'.cell? ((⟨r3, 0, none⟩ : Addr).add 3) = some (.bool b36_3)) /\
 Calls prog 108 #[.agg #[.string s36_0, .int .i64 n36_1, .int .i64 n36_2, .bool b36_3]] w72 fun e w73 =>
 ∃ n37_0 : Int, ∃ n37_1 : Int, ∃ s37_2 : ByteArray, e = .returned (.agg #[.int .i64 n37_0, .int .i64 n37_1, .string s37_2]) /\
 S1 w73 /\
 Br (n35 != n37_0) (
 stA prog 28 (⟨r6, 0, none⟩ : Addr) #[.int .i64 0, .int .i64 0, .string (⟨#[]⟩ : ByteArray)] w73 fun w74 =>
 zQd prog ds w74 fun w75 =>
 ∃ nR0_0, w75.cell? ((⟨r6, 0, none⟩ : Addr).add 0) = some (.int .i64 nR0_0) /\
 ∃ nR0_1, w75.cell? ((⟨r6, 0, none⟩ : Addr).add 1) = some (.int .i64 nR0_1) /\
 ∃ sR0_2, w75.cell? ((⟨r6, 0, none⟩ : Addr).add 2) = some (.string sR0_2) /\
 R (.returned (.tuple #[.agg #[.int .i64 nR0_0, .int .i64 nR0_1, .string sR0_2], .int .i64 6])) w75) (
 ∃ n42, w73.cell? ((⟨r3, 0, none⟩ : Addr).add 1) = some (.int .i64 n42) /\
 F52_1 R n1 (some (⟨r3, 0, none⟩ : Addr)) (some (⟨r5, 0, none⟩ : Addr)) (some (⟨r6, 0, none⟩ : Addr)) n42 ds w73)))))
theorem F52_p : Pl prog f52 [aS 0 [.str, .int .i64, .int .i64, .bool], iS 1, aS 2 [.int .i64, .int .i64, .str]] F52_2 := fun R =>
 pc 11 (zQ1 [iS 1, pS 3, pS 5, pS 6, iS 42] (F52_1 R) lf)
theorem yJn (s0_0 : ByteArray) (n0_1 n0_2 : Int) (b0_3 : Bool) (n1 n2_0 n2_1 : Int) (s2_2 : ByteArray) (w : World) (R : Rt) (h : F52_2 R s0_0 n0_1 n0_2 b0_3 n1 n2_0 n2_1 s2_2 [] w) : Calls prog 52 #[.agg #[.string s0_0, .int .i64 n0_1, .int .i64 n0_2, .bool b0_3], .int .i64 n1, .agg #[.int .i64 n2_0, .int .i64 n2_1, .string s2_2]] w R :=
 plC F52_p func52 h
def F96_1 (R : Rt) (s0_0 : ByteArray) (n0_1 n0_2 : Int) (b0_3 : Bool) (n1 n2_0 n2_1 : Int) (s2_2 : ByteArray) (ds : Ds) (w : World) : Prop :=
 alE (.cells #[.string s0_0, .int .i64 n0_1, .int .i64 n0_2, .bool b0_3] 38) w fun r3 w1 =>
 alE (.cells #[.int .i64 n2_0, .int .i64 n2_1, .string s2_2] 28) w1 fun r5 w2 =>
 ∃ n7_0, w2.cell? ((⟨r5, 0, none⟩ : Addr).add 0) = some (.int .i64 n7_0) /\
 ∃ n7_1, w2.cell? ((⟨r5, 0, none⟩ : Addr).add 1) = some (.int .i64 n7_1) /\
 ∃ s7_2, w2.cell? ((⟨r5, 0, none⟩ : Addr).add 2) = some (.string s7_2) /\
 Calls prog 45 #[.agg #[.int .i64 n7_0, .int .i64 n7_1, .string s7_2]] w2 fun e w3 =>
 ∃ n8 : Int, e = .returned (.int .i64 n8) /\
 Br (n8 != 0) (
 zQd prog ds w3 fun w4 =>
 R (.returned (.bool false)) w4) (
 ∃ n12, w3.cell? (⟨r5, 0, none⟩ : Addr) = some (.int .i64 n12) /\
 Br (n12 == 0) (
 ∃ b15, w3.cell? ((⟨r3, 0, none⟩ : Addr).add 3) = some (.bool b15) /\
 zQd prog ds w3 fun w5 =>
 R (.returned (.bool b15)) w5) (
 ∃ n18, w3.cell? ((⟨r3, 0, none⟩ : Addr).add 1) = some (.int .i64 n18) /\
 Br (n18 == 5) (
 ∃ n21, w3.cell? (⟨r5, 0, none⟩ : Addr) = some (.int .i64 n21) /\
 Br (n21 == 2) (
 ∃ n25, w3.cell? ((⟨r5, 0, none⟩ : Addr).add 1) = some (.int .i64 n25) /\
 Calls prog 146 #[.int .i64 n25] w3 fun e w6 =>
 ∃ b26 : Bool, e = .returned (.bool b26) /\
 zQd prog ds w6 fun w7 =>
 R (.returned (.bool b26)) w7) (
 zQd prog ds w3 fun w8 =>
 R (.returned (.bool false)) w8)) (
 ∃ n30, w3.cell? (⟨r5, 0, none⟩ : Addr) = some (.int .i64 n30) /\
 ∃ n32, w3.cell? ((⟨r3, 0, none⟩ : Addr).add 1) = some (.int .i64 n32) /\
 Br (n30 != n32) (
 zQd prog ds w3 fun w9 =>
 R (.returned (.bool false)) w9) (
 ∃ n36, w3.cell? ((⟨r3, 0, none⟩ : Addr).add 1) = some (.int .i64 n36) /\
 Br (n36 == 2) (
 dwE w3 fun w10 =>
 ∃ S1 : World -> Prop, S1 w10 /\
 ∃ n39, (∀ w', S1 w' -> w'.cell? ((⟨r5, 0, none⟩ : Addr).add 1) = some (.int .i64 n39)) /\
 ∃ n43, (∀ w', S1 w' -> w'.cell? ((⟨r3, 0, none⟩ : Addr).add 2) = some (.int .i64 n43)) /\
 Calls prog 147 #[.int .i64 n39] w10 fun e w11 =>
 ∃ s40 : ByteArray, e = .returned (.string s40) /\
 S1 w11 /\
 zQd prog ds w11 fun w12 =>
 R (.returned (.bool (decide ((s40.size : Int) <= n43)))) w12) (
 ∃ n47, w3.cell? ((⟨r3, 0, none⟩ : Addr).add 1) = some (.int .i64 n47) /\
 Br (n47 == 4) (
 dwE w3 fun w13 =>
 ∃ S2 : World -> Prop, S2 w13 /\
 ∃ s50, (∀ w', S2 w' -> w'.cell? ((⟨r5, 0, none⟩ : Addr).add 2) = some (.string s50)) /\
 ∃ n53, (∀ w', S2 w' -> w'.cell? ((⟨r3, 0, none⟩ : Addr).add 2) = some (.int .i64 n53)) /\
 Br (decide ((s50.size : Int) <= n53)) (
 ∃ s57, (∀ w', S2 w' -> w'.cell? ((⟨r5, 0, none⟩ : Addr).add 2) = some (.string s57)) /\
 ∃ s60, (∀ w', S2 w' -> w'.cell? ((⟨r5, 0, none⟩ : Addr).add 2) = some (.string s60)) /\
 Calls prog 99 #[.string s57] w13 fun e w14 =>
 ∃ s58 : ByteArray, e = .returned (.string s58) /\
 S2 w14 /\
 Br (s58.toList == s60.toList) (
 ∃ s65, (∀ w', S2 w' -> w'.cell? ((⟨r5, 0, none⟩ : Addr).add 2) = some (.string s65)) /\
 Calls prog 100 #[.string s65, .int .i64 n1] w14 fun e w15 =>
 ∃ b67 : Bool, e = .returned (.bool b67) /\
 zQd prog ds w15 fun w16 =>
 R (.returned (.bool b67)) w16) (
 zQd prog ds w14 fun w17 =>
 R (.returned (.bool false)) w17)) (
 zQd prog ds w13 fun w18 =>
 R (.returned (.bool false)) w18)) (
 zQd prog ds w3 fun w19 =>
 R (.returned (.bool true)) w19))))))
theorem F96_p : Pl prog f96 [aS 0 [.str, .int .i64, .int .i64, .bool], iS 1, aS 2 [.int .i64, .int .i64, .str]] F96_1 := fun R =>
 lf
theorem yZ6 (s0_0 : ByteArray) (n0_1 n0_2 : Int) (b0_3 : Bool) (n1 n2_0 n2_1 : Int) (s2_2 : ByteArray) (w : World) (R : Rt) (h : F96_1 R s0_0 n0_1 n0_2 b0_3 n1 n2_0 n2_1 s2_2 [] w) : Calls prog 96 #[.agg #[.string s0_0, .int .i64 n0_1, .int .i64 n0_2, .bool b0_3], .int .i64 n1, .agg #[.int .i64 n2_0, .int .i64 n2_1, .string s2_2]] w R :=
 plC F96_p func96 h
def yWJ (R : Rt) (n0 : Int) (ds : Ds) (w : World) : Prop :=
 Br (decide (n0 >= 0)) (
 zQd prog ds w fun w1 =>
 R (.returned (.bool (decide (n0 <= 99999999)))) w1) (
 zQd prog ds w fun w2 =>
 R (.returned (.bool false)) w2)
theorem F146_p : Pl prog f146 [iS 0] yWJ := fun R =>
 lf
theorem yXu (n0 : Int) (w : World) (R : Rt) (h : yWJ R n0 [] w) : Calls prog 146 #[.int .i64 n0] w R :=
 plC F146_p func146 h
end Go.Proofs.YtcihcbfcgjepfaaGreatDoor
/- Shallow texts of functions, printed by program, each checked by the kernel against the loaded code. No condition. -/
namespace Go.Proofs.YtcihcbfcgjepfaaGreatDoor
open Go.Sh Tryz
def F93_1 (R : Rt) (l0 : SV) (ds : Ds) (w : World) : Prop :=
 Br (decide ((l0.len : Int) > 16)) (
 zQd prog ds w fun w1 =>
 R (.returned (.int .i64 3)) w1) (
 Calls prog 144 #[.slice l0.a l0.len l0.cap] w fun e w2 =>
 ∃ n33 : Int, e = .returned (.int .i64 n33) /\
 Br (decide (n33 > 2000)) (
 zQd prog ds w2 fun w3 =>
 R (.returned (.int .i64 3)) w3) (
 zQd prog ds w2 fun w4 =>
 R (.returned (.int .i64 0)) w4))
def F93_2 (R : Rt) (J1 : (Int) -> World -> Prop) (l0 : SV) (m3 : Option Nat) (l14 : SV) (n15 n16 : Int) (ds : Ds) (w : World) : Prop :=
 Br (decide (n16 < n15)) (
 ∃ a5, l14.a = some a5 /\ 0 <= n16 /\ n16 < (l14.len : Int) /\
 ∃ s19_0, w.cell? ((a5.add (n16.toNat * 4)).add 0) = some (.string s19_0) /\
 ∃ n19_1, w.cell? ((a5.add (n16.toNat * 4)).add 1) = some (.int .i64 n19_1) /\
 ∃ n19_2, w.cell? ((a5.add (n16.toNat * 4)).add 2) = some (.int .i64 n19_2) /\
 ∃ b19_3, w.cell? ((a5.add (n16.toNat * 4)).add 3) = some (.bool b19_3) /\
 alE (.cells #[.string (⟨#[]⟩ : ByteArray), .int .i64 0, .int .i64 0, .bool false] 38) w fun r5 w6 =>
 stA prog 38 (⟨r5, 0, none⟩ : Addr) #[.string s19_0, .int .i64 n19_1, .int .i64 n19_2, .bool b19_3] w6 fun w7 =>
 ∃ s22, w7.cell? (⟨r5, 0, none⟩ : Addr) = some (.string s22) /\
 ∃ b23 : Bool, ∃ w8, (Instr.lookup 177 (.map m3) (.string s22) false).run prog w7 = .ok (.bool b23) w8 /\
 Br b23 (
 zQd prog ds w8 fun w9 =>
 R (.returned (.int .i64 5)) w9) (
 ∃ s26, w8.cell? (⟨r5, 0, none⟩ : Addr) = some (.string s26) /\
 doE prog (Instr.mapUpdate 177 (.map m3) (.string s26) (.bool true)) w8 fun w10 =>
 J1 (IntKind.i64.wrap (n16 + 1)) w10)) (
 F93_1 R l0 ds w)
def F93_3 (R : Rt) (l0 : SV) (m3 : Option Nat) (l14 : SV) (n15 n16 : Int) (ds : Ds) (w : World) : Prop :=
 zQJ (fun (J1 : (Int) -> World -> Prop) (s : Int) (w : World) => F93_2 R J1 l0 m3 l14 n15 s ds w) n16 w
def F93_5 (R : Rt) (l0 : SV) (ds : Ds) (w : World) : Prop :=
 Br ((l0.len : Int) == 0) (
 zQd prog ds w fun w11 =>
 R (.returned (.int .i64 1)) w11) (
 Calls prog 142 #[.slice l0.a l0.len l0.cap, .func (.func 143) #[] #[]] w fun e w12 =>
 ∃ b11 : Bool, e = .returned (.bool b11) /\
 Br b11 (
 zQd prog ds w12 fun w13 =>
 R (.returned (.int .i64 1)) w13) (
 alE (.map #[] 0) w12 fun r13 w14 =>
 F93_3 R l0 (some r13) l0 (l0.len : Int) 0 ds w14))
theorem F93_p : Pl prog f93 [lS 0] F93_5 := fun R =>
 pc 5 (zQ1 [lS 0, mS 3, lS 14, iS 15, iS 16] (F93_3 R) (bk 0 (zQ1 [lS 0] (F93_1 R) lf) (lp [iS 16] [lS 0, mS 3, lS 14, iS 15, iS 16] (F93_2 R) zZb fun J1 => lf)))
theorem yJL (l0 : SV) (w : World) (R : Rt) (h : F93_5 R l0 [] w) : Calls prog 93 #[.slice l0.a l0.len l0.cap] w R :=
 plC F93_p func93 h
def yV5 (R : Rt) (l0 : SV) (v1 : Value) (ds : Ds) (w : World) : Prop :=
 Calls prog 104 #[.slice l0.a l0.len l0.cap, v1] w fun e w1 =>
 ∃ n7 : Int, e = .returned (.int .i64 n7) /\
 zQd prog ds w1 fun w2 =>
 R (.returned (.bool (decide (n7 >= 0)))) w2
theorem F142_p : Pl prog f142 [lS 0, vS 1] yV5 := fun R =>
 lf
theorem yQO (l0 : SV) (v1 : Value) (w : World) (R : Rt) (h : yV5 R l0 v1 [] w) : Calls prog 142 #[.slice l0.a l0.len l0.cap, v1] w R :=
 plC F142_p func142 h
def yVj (R : Rt) (s0_0 : ByteArray) (n0_1 n0_2 : Int) (b0_3 : Bool) (ds : Ds) (w : World) : Prop :=
 alE (.cells #[.string s0_0, .int .i64 n0_1, .int .i64 n0_2, .bool b0_3] 38) w fun r1 w1 =>
 ∃ s3_0, w1.cell? ((⟨r1, 0, none⟩ : Addr).add 0) = some (.string s3_0) /\
 ∃ n3_1, w1.cell? ((⟨r1, 0, none⟩ : Addr).add 1) = some (.int .i64 n3_1) /\
 ∃ n3_2, w1.cell? ((⟨r1, 0, none⟩ : Addr).add 2) = some (.int .i64 n3_2) /\
 ∃ b3_3, w1.cell? ((⟨r1, 0, none⟩ : Addr).add 3) = some (.bool b3_3) /\
 Calls prog 106 #[.agg #[.string s3_0, .int .i64 n3_1, .int .i64 n3_2, .bool b3_3]] w1 fun e w2 =>
 ∃ b4 : Bool, e = .returned (.bool b4) /\
 zQd prog ds w2 fun w3 =>
 R (.returned (.bool (!b4))) w3
theorem F143_p : Pl prog f143 [aS 0 [.str, .int .i64, .int .i64, .bool]] yVj := fun R =>
 lf
theorem yQS (s0_0 : ByteArray) (n0_1 n0_2 : Int) (b0_3 : Bool) (w : World) (R : Rt) (h : yVj R s0_0 n0_1 n0_2 b0_3 [] w) : Calls prog 143 #[.agg #[.string s0_0, .int .i64 n0_1, .int .i64 n0_2, .bool b0_3]] w R :=
 plC F143_p func143 h
def yW1 (R : Rt) (n3 : Int) (ds : Ds) (w : World) : Prop :=
 zQd prog ds w fun w1 =>
 R (.returned (.int .i64 n3)) w1
def yWy (R : Rt) (J1 : (Int × Int) -> World -> Prop) (n3 : Int) (l9 : SV) (n10 n11 : Int) (ds : Ds) (w : World) : Prop :=
 Br (decide (n11 < n10)) (
 ∃ a2, l9.a = some a2 /\ 0 <= n11 /\ n11 < (l9.len : Int) /\
 ∃ s14_0, w.cell? ((a2.add (n11.toNat * 4)).add 0) = some (.string s14_0) /\
 ∃ n14_1, w.cell? ((a2.add (n11.toNat * 4)).add 1) = some (.int .i64 n14_1) /\
 ∃ n14_2, w.cell? ((a2.add (n11.toNat * 4)).add 2) = some (.int .i64 n14_2) /\
 ∃ b14_3, w.cell? ((a2.add (n11.toNat * 4)).add 3) = some (.bool b14_3) /\
 alE (.cells #[.string (⟨#[]⟩ : ByteArray), .int .i64 0, .int .i64 0, .bool false] 38) w fun r5 w3 =>
 stA prog 38 (⟨r5, 0, none⟩ : Addr) #[.string s14_0, .int .i64 n14_1, .int .i64 n14_2, .bool b14_3] w3 fun w4 =>
 ∃ n17, w4.cell? ((⟨r5, 0, none⟩ : Addr).add 2) = some (.int .i64 n17) /\
 J1 ((IntKind.i64.wrap (n3 + n17)), (IntKind.i64.wrap (n11 + 1))) w4) (
 yW1 R n3 ds w)
def yVg (R : Rt) (n3 : Int) (l9 : SV) (n10 n11 : Int) (ds : Ds) (w : World) : Prop :=
 zQJ (fun (J1 : (Int × Int) -> World -> Prop) (s : Int × Int) (w : World) => yWy R J1 s.1 l9 n10 s.2 ds w) (n3, n11) w
def yWv (R : Rt) (l0 : SV) (ds : Ds) (w : World) : Prop :=
 Calls prog 176 #[.slice l0.a l0.len l0.cap] w fun e w5 =>
 ∃ n7 : Int, e = .returned (.int .i64 n7) /\
 yVg R (IntKind.i64.wrap ((1 : Int) + n7)) l0 (l0.len : Int) 0 ds w5
theorem F144_p : Pl prog f144 [lS 0] yWv := fun R =>
 pc 3 (zQ1 [iS 3, lS 9, iS 10, iS 11] (yVg R) (bk 0 (zQ1 [iS 3] (yW1 R) lf) (lp [iS 3, iS 11] [iS 3, lS 9, iS 10, iS 11] (yWy R) zZb fun J1 => lf)))
theorem yXc (l0 : SV) (w : World) (R : Rt) (h : yWv R l0 [] w) : Calls prog 144 #[.slice l0.a l0.len l0.cap] w R :=
 plC F144_p func144 h
def yWL (R : Rt) (n3 : Int) (ds : Ds) (w : World) : Prop :=
 IntKind.i64 = IntKind.i64 /\ (8 : Int) ≠ 0 /\
 zQd prog ds w fun w1 =>
 R (.returned (.int .i64 (IntKind.i64.wrap ((IntKind.i64.wrap (n3 + 7)).tdiv 8)))) w1
def yWZ (R : Rt) (J1 : (Int × Int) -> World -> Prop) (n3 : Int) (l6 : SV) (n7 n8 : Int) (ds : Ds) (w : World) : Prop :=
 Br (decide (n8 < n7)) (
 ∃ a2, l6.a = some a2 /\ 0 <= n8 /\ n8 < (l6.len : Int) /\
 ∃ s11_0, w.cell? ((a2.add (n8.toNat * 4)).add 0) = some (.string s11_0) /\
 ∃ n11_1, w.cell? ((a2.add (n8.toNat * 4)).add 1) = some (.int .i64 n11_1) /\
 ∃ n11_2, w.cell? ((a2.add (n8.toNat * 4)).add 2) = some (.int .i64 n11_2) /\
 ∃ b11_3, w.cell? ((a2.add (n8.toNat * 4)).add 3) = some (.bool b11_3) /\
 alE (.cells #[.string (⟨#[]⟩ : ByteArray), .int .i64 0, .int .i64 0, .bool false] 38) w fun r5 w3 =>
 stA prog 38 (⟨r5, 0, none⟩ : Addr) #[.string s11_0, .int .i64 n11_1, .int .i64 n11_2, .bool b11_3] w3 fun w4 =>
 ∃ b13, w4.cell? ((⟨r5, 0, none⟩ : Addr).add 3) = some (.bool b13) /\
 Br b13 (
 J1 ((IntKind.i64.wrap (n3 + 1)), (IntKind.i64.wrap (n8 + 1))) w4) (
 J1 (n3, (IntKind.i64.wrap (n8 + 1))) w4)) (
 yWL R n3 ds w)
def yWB (R : Rt) (n3 : Int) (l6 : SV) (n7 n8 : Int) (ds : Ds) (w : World) : Prop :=
 zQJ (fun (J1 : (Int × Int) -> World -> Prop) (s : Int × Int) (w : World) => yWZ R J1 s.1 l6 n7 s.2 ds w) (n3, n8) w
def yVH (R : Rt) (l0 : SV) (ds : Ds) (w : World) : Prop :=
 yWB R 0 l0 (l0.len : Int) 0 ds w
theorem F176_p : Pl prog f176 [lS 0] yVH := fun R =>
 pc 3 (zQ1 [iS 3, lS 6, iS 7, iS 8] (yWB R) (bk 0 (zQ1 [iS 3] (yWL R) lf) (lp [iS 3, iS 8] [iS 3, lS 6, iS 7, iS 8] (yWZ R) zZb fun J1 => lf)))
theorem yX1 (l0 : SV) (w : World) (R : Rt) (h : yVH R l0 [] w) : Calls prog 176 #[.slice l0.a l0.len l0.cap] w R :=
 plC F176_p func176 h
def F42_1 (R : Rt) (l0 : SV) (ds : Ds) (w : World) : Prop :=
 Br (decide ((l0.len : Int) > 16)) (
 zQd prog ds w fun w1 =>
 R (.returned (.int .i64 3)) w1) (
 Calls prog 95 #[.slice l0.a l0.len l0.cap] w fun e w2 =>
 ∃ n48 : Int, e = .returned (.int .i64 n48) /\
 Br (decide (n48 > 2000)) (
 zQd prog ds w2 fun w3 =>
 R (.returned (.int .i64 3)) w3) (
 zQd prog ds w2 fun w4 =>
 R (.returned (.int .i64 0)) w4))
def F42_2 (R : Rt) (J1 : (Int) -> World -> Prop) (l0 : SV) (n4 : Int) (ds : Ds) (w : World) : Prop :=
 J1 (IntKind.i64.wrap (n4 + 1)) w
def F42_3 (R : Rt) (J1 : (Int) -> World -> Prop) (J2 : (Int) -> World -> Prop) (l0 : SV) (n4 n5 : Int) (ds : Ds) (w : World) : Prop :=
 Br (decide (n5 < n4)) (
 dwE w fun w5 =>
 ∃ a6, l0.a = some a6 /\ 0 <= n4 /\ n4 < (l0.len : Int) /\
 ∃ s36, w5.cell? (a6.add (n4.toNat * 4)) = some (.string s36) /\
 ∃ a7, l0.a = some a7 /\ 0 <= n5 /\ n5 < (l0.len : Int) /\
 ∃ s41, w5.cell? (a7.add (n5.toNat * 4)) = some (.string s41) /\
 Br (s36.toList == s41.toList) (
 zQd prog ds w5 fun w8 =>
 R (.returned (.int .i64 5)) w8) (
 J2 (IntKind.i64.wrap (n5 + 1)) w5)) (
 F42_2 R J1 l0 n4 ds w)
def F42_4 (R : Rt) (J1 : (Int) -> World -> Prop) (l0 : SV) (n4 n5 : Int) (ds : Ds) (w : World) : Prop :=
 zQJ (fun (J2 : (Int) -> World -> Prop) (s : Int) (w : World) => F42_3 R J1 J2 l0 n4 s ds w) n5 w
def F42_6 (R : Rt) (J1 : (Int) -> World -> Prop) (l0 : SV) (n4 : Int) (ds : Ds) (w : World) : Prop :=
 F42_4 R J1 l0 n4 0 ds w
def F42_8 (R : Rt) (J1 : (Int) -> World -> Prop) (l0 : SV) (n4 : Int) (ds : Ds) (w : World) : Prop :=
 Br (decide (n4 < (l0.len : Int))) (
 F42_6 R J1 l0 n4 ds w) (
 F42_1 R l0 ds w)
def F42_9 (R : Rt) (l0 : SV) (n4 : Int) (ds : Ds) (w : World) : Prop :=
 zQJ (fun (J1 : (Int) -> World -> Prop) (s : Int) (w : World) => F42_8 R J1 l0 s ds w) n4 w
def yV2 (R : Rt) (l0 : SV) (ds : Ds) (w : World) : Prop :=
 F42_9 R l0 0 ds w
def yWu (R : Rt) (J1 : (Int) -> World -> Prop) (l0 : SV) (n3 : Int) (ds : Ds) (w : World) : Prop :=
 Br (decide (n3 < (l0.len : Int))) (
 ∃ a9, l0.a = some a9 /\ 0 <= n3 /\ n3 < (l0.len : Int) /\
 ∃ s18_0, w.cell? ((a9.add (n3.toNat * 4)).add 0) = some (.string s18_0) /\
 ∃ n18_1, w.cell? ((a9.add (n3.toNat * 4)).add 1) = some (.int .i64 n18_1) /\
 ∃ n18_2, w.cell? ((a9.add (n3.toNat * 4)).add 2) = some (.int .i64 n18_2) /\
 ∃ b18_3, w.cell? ((a9.add (n3.toNat * 4)).add 3) = some (.bool b18_3) /\
 Calls prog 44 #[.agg #[.string s18_0, .int .i64 n18_1, .int .i64 n18_2, .bool b18_3]] w fun e w10 =>
 ∃ b19 : Bool, e = .returned (.bool b19) /\
 Br (!b19) (
 zQd prog ds w10 fun w11 =>
 R (.returned (.int .i64 1)) w11) (
 J1 (IntKind.i64.wrap (n3 + 1)) w10)) (
 yV2 R l0 ds w)
def yVw (R : Rt) (l0 : SV) (n3 : Int) (ds : Ds) (w : World) : Prop :=
 zQJ (fun (J1 : (Int) -> World -> Prop) (s : Int) (w : World) => yWu R J1 l0 s ds w) n3 w
def yWF (R : Rt) (l0 : SV) (ds : Ds) (w : World) : Prop :=
 Br ((l0.len : Int) == 0) (
 zQd prog ds w fun w12 =>
 R (.returned (.int .i64 1)) w12) (
 yVw R l0 0 ds w)
theorem F42_p : Pl prog f42 [lS 0] yWF := fun R =>
 pc 4 (zQ1 [lS 0, iS 3] (yVw R) (bk 0 (zQ1 [lS 0] (yV2 R) (pc 1 (zQ1 [lS 0, iS 4] (F42_9 R) (bk 2 (zQ1 [lS 0] (F42_1 R) lf) (lp [iS 4] [lS 0, iS 4] (F42_8 R) zZb fun J1 => pc 2 (zQ1 [lS 0, iS 4] (F42_6 R J1) (bk 3 (zQ1 [lS 0, iS 4] (F42_2 R J1) lf) (pc 1 (zQ1 [lS 0, iS 4, iS 5] (F42_4 R J1) (bk 4 zZb (lp [iS 5] [lS 0, iS 4, iS 5] (F42_3 R J1) zZb fun J2 => lf))))))))))) (lp [iS 3] [lS 0, iS 3] (yWu R) zZb fun J1 => lf)))
theorem yJg (l0 : SV) (w : World) (R : Rt) (h : yWF R l0 [] w) : Calls prog 42 #[.slice l0.a l0.len l0.cap] w R :=
 plC F42_p func42 h
def F95_1 (R : Rt) (n3 : Int) (ds : Ds) (w : World) : Prop :=
 zQd prog ds w fun w1 =>
 R (.returned (.int .i64 n3)) w1
def F95_2 (R : Rt) (J1 : (Int × Int) -> World -> Prop) (l0 : SV) (n3 n4 : Int) (ds : Ds) (w : World) : Prop :=
 Br (decide (n4 < (l0.len : Int))) (
 ∃ a2, l0.a = some a2 /\ 0 <= n4 /\ n4 < (l0.len : Int) /\
 ∃ n19, w.cell? ((a2.add (n4.toNat * 4)).add 2) = some (.int .i64 n19) /\
 J1 ((IntKind.i64.wrap (n3 + n19)), (IntKind.i64.wrap (n4 + 1))) w) (
 F95_1 R n3 ds w)
def F95_3 (R : Rt) (l0 : SV) (n3 n4 : Int) (ds : Ds) (w : World) : Prop :=
 zQJ (fun (J1 : (Int × Int) -> World -> Prop) (s : Int × Int) (w : World) => F95_2 R J1 l0 s.1 s.2 ds w) (n3, n4) w
def F95_5 (R : Rt) (l0 : SV) (ds : Ds) (w : World) : Prop :=
 Calls prog 145 #[.slice l0.a l0.len l0.cap] w fun e w3 =>
 ∃ n6 : Int, e = .returned (.int .i64 n6) /\
 F95_3 R l0 (IntKind.i64.wrap ((1 : Int) + n6)) 0 ds w3
theorem F95_p : Pl prog f95 [lS 0] F95_5 := fun R =>
 pc 3 (zQ1 [lS 0, iS 3, iS 4] (F95_3 R) (bk 0 (zQ1 [iS 3] (F95_1 R) lf) (lp [iS 3, iS 4] [lS 0, iS 3, iS 4] (F95_2 R) zZb fun J1 => lf)))
theorem yZo (l0 : SV) (w : World) (R : Rt) (h : F95_5 R l0 [] w) : Calls prog 95 #[.slice l0.a l0.len l0.cap] w R :=
 plC F95_p func95 h
def yVU (R : Rt) (n3 : Int) (ds : Ds) (w : World) : Prop :=
 IntKind.i64 = IntKind.i64 /\ (8 : Int) ≠ 0 /\
 zQd prog ds w fun w1 =>
 R (.returned (.int .i64 (IntKind.i64.wrap ((IntKind.i64.wrap (n3 + 7)).tdiv 8)))) w1
def yWt (R : Rt) (J1 : (Int × Int) -> World -> Prop) (l0 : SV) (n3 n4 : Int) (ds : Ds) (w : World) : Prop :=
 Br (decide (n4 < (l0.len : Int))) (
 ∃ a2, l0.a = some a2 /\ 0 <= n4 /\ n4 < (l0.len : Int) /\
 ∃ b15, w.cell? ((a2.add (n4.toNat * 4)).add 3) = some (.bool b15) /\
 Br b15 (
 J1 ((IntKind.i64.wrap (n3 + 1)), (IntKind.i64.wrap (n4 + 1))) w) (
 J1 (n3, (IntKind.i64.wrap (n4 + 1))) w)) (
 yVU R n3 ds w)
def yVv (R : Rt) (l0 : SV) (n3 n4 : Int) (ds : Ds) (w : World) : Prop :=
 zQJ (fun (J1 : (Int × Int) -> World -> Prop) (s : Int × Int) (w : World) => yWt R J1 l0 s.1 s.2 ds w) (n3, n4) w
def yWs (R : Rt) (l0 : SV) (ds : Ds) (w : World) : Prop :=
 yVv R l0 0 0 ds w
theorem F145_p : Pl prog f145 [lS 0] yWs := fun R =>
 pc 3 (zQ1 [lS 0, iS 3, iS 4] (yVv R) (bk 0 (zQ1 [iS 3] (yVU R) lf) (lp [iS 3, iS 4] [lS 0, iS 3, iS 4] (yWt R) zZb fun J1 => lf)))
theorem yX4 (l0 : SV) (w : World) (R : Rt) (h : yWs R l0 [] w) : Calls prog 145 #[.slice l0.a l0.len l0.cap] w R :=
 plC F145_p func145 h
end Go.Proofs.YtcihcbfcgjepfaaGreatDoor
/- Shallow texts of functions, printed by program, each checked by the kernel against the loaded code. No condition. -/
namespace Go.Proofs.YtcihcbfcgjepfaaGreatDoor
open Go.Sh Tryz
def yWw (R : Rt) (ds : Ds) (w : World) : Prop :=
 zQd prog ds w fun w1 =>
 R (.returned (.int .i64 (-1))) w1
def yVo (R : Rt) (J1 : (Int) -> World -> Prop) (l0 : SV) (v1 : Value) (n7 n8 : Int) (ds : Ds) (w : World) : Prop :=
 Br (decide (n8 < n7)) (
 ∃ a2, l0.a = some a2 /\ 0 <= n8 /\ n8 < (l0.len : Int) /\
 ∃ s15_0, w.cell? ((a2.add (n8.toNat * 4)).add 0) = some (.string s15_0) /\
 ∃ n15_1, w.cell? ((a2.add (n8.toNat * 4)).add 1) = some (.int .i64 n15_1) /\
 ∃ n15_2, w.cell? ((a2.add (n8.toNat * 4)).add 2) = some (.int .i64 n15_2) /\
 ∃ b15_3, w.cell? ((a2.add (n8.toNat * 4)).add 3) = some (.bool b15_3) /\
 fnE v1 fun f16 first16 cap16 =>
 zXv prog f16 = true /\ Calls prog f16 (first16.toList ++ (([.agg #[.string s15_0, .int .i64 n15_1, .int .i64 n15_2, .bool b15_3]] : List Value) ++ cap16.toList)).toArray w fun e w3 =>
 ∃ b16 : Bool, e = .returned (.bool b16) /\
 Br b16 (
 zQd prog ds w3 fun w4 =>
 R (.returned (.int .i64 n8)) w4) (
 J1 (IntKind.i64.wrap (n8 + 1)) w3)) (
 yWw R ds w)
def yVi (R : Rt) (l0 : SV) (v1 : Value) (n7 n8 : Int) (ds : Ds) (w : World) : Prop :=
 zQJ (fun (J1 : (Int) -> World -> Prop) (s : Int) (w : World) => yVo R J1 l0 v1 n7 s ds w) n8 w
def yVP (R : Rt) (l0 : SV) (v1 : Value) (ds : Ds) (w : World) : Prop :=
 yVi R l0 (v1) (l0.len : Int) 0 ds w
theorem F104_p : Pl prog f104 [lS 0, vS 1] yVP := fun R =>
 pc 2 (zQ1 [lS 0, vS 1, iS 7, iS 8] (yVi R) (bk 0 (zQ1 [] (yWw R) lf) (lp [iS 8] [lS 0, vS 1, iS 7, iS 8] (yVo R) zZb fun J1 => lf)))
theorem yQK (l0 : SV) (v1 : Value) (w : World) (R : Rt) (h : yVP R l0 v1 [] w) : Calls prog 104 #[.slice l0.a l0.len l0.cap, v1] w R :=
 plC F104_p func104 h
def yWx (R : Rt) (s0_0 : ByteArray) (n0_1 n0_2 : Int) (b0_3 : Bool) (v1 : Value) (ds : Ds) (w : World) : Prop :=
 alE (.cells #[.string s0_0, .int .i64 n0_1, .int .i64 n0_2, .bool b0_3] 38) w fun r2 w1 =>
 ∃ s5, w1.cell? (⟨r2, 0, none⟩ : Addr) = some (.string s5) /\
 zJe v1 fun a2 =>
 ∃ s6, w1.cell? a2 = some (.string s6) /\
 zQd prog ds w1 fun w3 =>
 R (.returned (.bool (s5.toList == s6.toList))) w3
theorem F105_p : Pl prog f105 [aS 0 [.str, .int .i64, .int .i64, .bool], vS 1] yWx := fun R =>
 lf
theorem yXv (s0_0 : ByteArray) (n0_1 n0_2 : Int) (b0_3 : Bool) (v1 : Value) (w : World) (R : Rt) (h : yWx R s0_0 n0_1 n0_2 b0_3 v1 [] w) : Calls prog 105 #[.agg #[.string s0_0, .int .i64 n0_1, .int .i64 n0_2, .bool b0_3], v1] w R :=
 plC F105_p func105 h
def F51_1 (R : Rt) (l0 : SV) (s1 : ByteArray) (ds : Ds) (w : World) : Prop :=
 alE (.cells #[.string s1] 9) w fun r3 w1 =>
 Calls prog 104 #[.slice l0.a l0.len l0.cap, .func (.func 105) #[] #[.pointer (some (⟨r3, 0, none⟩ : Addr))]] w1 fun e w2 =>
 ∃ n9 : Int, e = .returned (.int .i64 n9) /\
 ∃ n11 : Int, ∃ w3, (Builtin.max_ #[3, 3] 3 #[.int .i64 n9, .int .i64 0]).run prog w2 = .ok (.int .i64 n11) w3 /\
 zQd prog ds w3 fun w4 =>
 R (.returned (.tuple #[.int .i64 n11, .bool (decide (n9 >= 0))])) w4
theorem F51_p : Pl prog f51 [lS 0, sS 1] F51_1 := fun R =>
 lf
theorem yJq (l0 : SV) (s1 : ByteArray) (w : World) (R : Rt) (h : F51_1 R l0 s1 [] w) : Calls prog 51 #[.slice l0.a l0.len l0.cap, .string s1] w R :=
 plC F51_p func51 h
end Go.Proofs.YtcihcbfcgjepfaaGreatDoor
/- Shallow texts of functions, printed by program, each checked by the kernel against the loaded code. No condition. -/
namespace Go.Proofs.YtcihcbfcgjepfaaGreatDoor
open Go.Sh Tryz
def F38_1 (R : Rt) (ds : Ds) (w : World) : Prop :=
 zQd prog ds w fun w1 =>
 R (.returned (.int .i64 0)) w1
def yYm (R : Rt) (J1 : (Int) -> World -> Prop) (p1 : Option Addr) (l23 : SV) (n24 n25 : Int) (ds : Ds) (w : World) : Prop :=
 J1 (IntKind.i64.wrap (n25 + 1)) w
def F38_3 (R : Rt) (J1 : (Int) -> World -> Prop) (J2 : (Int) -> World -> Prop) (p1 p5 : Option Addr) (l23 : SV) (n24 n25 : Int) (l37 : SV) (n38 n39 : Int) (ds : Ds) (w : World) : Prop :=
 Br (decide (n39 < n38)) (
 ∃ a2, l37.a = some a2 /\ 0 <= n39 /\ n39 < (l37.len : Int) /\
 ∃ s43_0, w.cell? ((a2.add (n39.toNat * 4)).add 0) = some (.string s43_0) /\
 ∃ n43_1, w.cell? ((a2.add (n39.toNat * 4)).add 1) = some (.int .i64 n43_1) /\
 ∃ n43_2, w.cell? ((a2.add (n39.toNat * 4)).add 2) = some (.int .i64 n43_2) /\
 ∃ b43_3, w.cell? ((a2.add (n39.toNat * 4)).add 3) = some (.bool b43_3) /\
 alE (.cells #[.string (⟨#[]⟩ : ByteArray), .int .i64 0, .int .i64 0, .bool false] 38) w fun r7 w3 =>
 stA prog 38 (⟨r7, 0, none⟩ : Addr) #[.string s43_0, .int .i64 n43_1, .int .i64 n43_2, .bool b43_3] w3 fun w4 =>
 dwE w4 fun w5 =>
 ∃ s44_0, w5.cell? ((⟨r7, 0, none⟩ : Addr).add 0) = some (.string s44_0) /\
 ∃ n44_1, w5.cell? ((⟨r7, 0, none⟩ : Addr).add 1) = some (.int .i64 n44_1) /\
 ∃ n44_2, w5.cell? ((⟨r7, 0, none⟩ : Addr).add 2) = some (.int .i64 n44_2) /\
 ∃ b44_3, w5.cell? ((⟨r7, 0, none⟩ : Addr).add 3) = some (.bool b44_3) /\
 zQp p1 fun a6 =>
 ∃ n46, w5.cell? a6 = some (.int .i64 n46) /\
 zQp p5 fun a7 =>
 ∃ l48 : SV, w5.cell? (a7.add 1) = some (.slice l48.a l48.len l48.cap) /\
 ∃ a8, l48.a = some a8 /\ 0 <= n39 /\ n39 < (l48.len : Int) /\
 ∃ n51_0, w5.cell? ((a8.add (n39.toNat * 3)).add 0) = some (.int .i64 n51_0) /\
 ∃ n51_1, w5.cell? ((a8.add (n39.toNat * 3)).add 1) = some (.int .i64 n51_1) /\
 ∃ s51_2, w5.cell? ((a8.add (n39.toNat * 3)).add 2) = some (.string s51_2) /\
 Calls prog 94 #[.agg #[.string s44_0, .int .i64 n44_1, .int .i64 n44_2, .bool b44_3], .int .i64 n46, .agg #[.int .i64 n51_0, .int .i64 n51_1, .string s51_2]] w5 fun e w9 =>
 ∃ b52 : Bool, e = .returned (.bool b52) /\
 Br (!b52) (
 zQd prog ds w9 fun w10 =>
 R (.returned (.int .i64 1)) w10) (
 J2 (IntKind.i64.wrap (n39 + 1)) w9)) (
 yYm R J1 p1 l23 n24 n25 ds w)
def F38_4 (R : Rt) (J1 : (Int) -> World -> Prop) (p1 p5 : Option Addr) (l23 : SV) (n24 n25 : Int) (l37 : SV) (n38 n39 : Int) (ds : Ds) (w : World) : Prop :=
 zQJ (fun (J2 : (Int) -> World -> Prop) (s : Int) (w : World) => F38_3 R J1 J2 p1 p5 l23 n24 n25 l37 n38 s ds w) n39 w
def F38_6 (R : Rt) (J1 : (Int) -> World -> Prop) (p1 : Option Addr) (l23 : SV) (n24 n25 : Int) (ds : Ds) (w : World) : Prop :=
 ∃ a11, l23.a = some a11 /\ 0 <= n25 /\ n25 < (l23.len : Int) /\
 ∃ b28_0, w.cell? ((a11.add (n25.toNat * 2)).add 0) = some (.bool b28_0) /\
 ∃ l28_1 : SV, w.cell? ((a11.add (n25.toNat * 2)).add 1) = some (.slice l28_1.a l28_1.len l28_1.cap) /\
 alE (.cells #[.bool false, .slice none 0 0] 77) w fun r5 w12 =>
 stA prog 77 (⟨r5, 0, none⟩ : Addr) #[.bool b28_0, .slice l28_1.a l28_1.len l28_1.cap] w12 fun w13 =>
 ∃ l30 : SV, w13.cell? ((⟨r5, 0, none⟩ : Addr).add 1) = some (.slice l30.a l30.len l30.cap) /\
 zQp p1 fun a14 =>
 ∃ l33 : SV, w13.cell? (a14.add 1) = some (.slice l33.a l33.len l33.cap) /\
 Br ((l30.len : Int) != (l33.len : Int)) (
 zQd prog ds w13 fun w15 =>
 R (.returned (.int .i64 10)) w15) (
 zQp p1 fun a16 =>
 ∃ l37 : SV, w13.cell? (a16.add 1) = some (.slice l37.a l37.len l37.cap) /\
 F38_4 R J1 p1 (some (⟨r5, 0, none⟩ : Addr)) l23 n24 n25 l37 (l37.len : Int) 0 ds w13)
def F38_8 (R : Rt) (J1 : (Int) -> World -> Prop) (p1 : Option Addr) (l23 : SV) (n24 n25 : Int) (ds : Ds) (w : World) : Prop :=
 Br (decide (n25 < n24)) (
 F38_6 R J1 p1 l23 n24 n25 ds w) (
 F38_1 R ds w)
def F38_9 (R : Rt) (p1 : Option Addr) (l23 : SV) (n24 n25 : Int) (ds : Ds) (w : World) : Prop :=
 zQJ (fun (J1 : (Int) -> World -> Prop) (s : Int) (w : World) => F38_8 R J1 p1 l23 n24 s ds w) n25 w
def yVS (R : Rt) (n0_0 : Int) (l0_1 l0_2 : SV) (ds : Ds) (w : World) : Prop :=
 alE (.cells #[.int .i64 n0_0, .slice l0_1.a l0_1.len l0_1.cap, .slice l0_2.a l0_2.len l0_2.cap] 25) w fun r1 w17 =>
 ∃ n9, w17.cell? (⟨r1, 0, none⟩ : Addr) = some (.int .i64 n9) /\
 Calls prog 92 #[.int .i64 n9] w17 fun e w18 =>
 ∃ b10 : Bool, e = .returned (.bool b10) /\
 Br (!b10) (
 zQd prog ds w18 fun w19 =>
 R (.returned (.int .i64 1)) w19) (
 ∃ l13 : SV, w18.cell? ((⟨r1, 0, none⟩ : Addr).add 1) = some (.slice l13.a l13.len l13.cap) /\
 Calls prog 93 #[.slice l13.a l13.len l13.cap] w18 fun e w20 =>
 ∃ n14 : Int, e = .returned (.int .i64 n14) /\
 Br (n14 != 0) (
 zQd prog ds w20 fun w21 =>
 R (.returned (.int .i64 n14)) w21) (
 ∃ l19 : SV, w20.cell? ((⟨r1, 0, none⟩ : Addr).add 2) = some (.slice l19.a l19.len l19.cap) /\
 Br (decide ((l19.len : Int) > 300)) (
 zQd prog ds w20 fun w22 =>
 R (.returned (.int .i64 3)) w22) (
 ∃ l23 : SV, w20.cell? ((⟨r1, 0, none⟩ : Addr).add 2) = some (.slice l23.a l23.len l23.cap) /\
 F38_9 R (some (⟨r1, 0, none⟩ : Addr)) l23 (l23.len : Int) 0 ds w20)))
theorem F38_p : Pl prog f38 [aS 0 [.int .i64, .slice, .slice]] yVS := fun R =>
 pc 9 (zQ1 [pS 1, lS 23, iS 24, iS 25] (F38_9 R) (bk 0 (zQ1 [] (F38_1 R) lf) (lp [iS 25] [pS 1, lS 23, iS 24, iS 25] (F38_8 R) zZb fun J1 => pc 2 (zQ1 [pS 1, lS 23, iS 24, iS 25] (F38_6 R J1) (bk 1 (zQ1 [pS 1, lS 23, iS 24, iS 25] (yYm R J1) lf) (pc 4 (zQ1 [pS 1, pS 5, lS 23, iS 24, iS 25, lS 37, iS 38, iS 39] (F38_4 R J1) (bk 2 zZb (lp [iS 39] [pS 1, pS 5, lS 23, iS 24, iS 25, lS 37, iS 38, iS 39] (F38_3 R J1) zZb fun J2 => lf)))))))))
theorem yZ8 (n0_0 : Int) (l0_1 l0_2 : SV) (w : World) (R : Rt) (h : yVS R n0_0 l0_1 l0_2 [] w) : Calls prog 38 #[.agg #[.int .i64 n0_0, .slice l0_1.a l0_1.len l0_1.cap, .slice l0_2.a l0_2.len l0_2.cap]] w R :=
 plC F38_p func38 h
def F94_1 (R : Rt) (s0_0 : ByteArray) (n0_1 n0_2 : Int) (b0_3 : Bool) (n1 n2_0 n2_1 : Int) (s2_2 : ByteArray) (ds : Ds) (w : World) : Prop :=
 alE (.cells #[.string s0_0, .int .i64 n0_1, .int .i64 n0_2, .bool b0_3] 38) w fun r3 w1 =>
 alE (.cells #[.int .i64 n2_0, .int .i64 n2_1, .string s2_2] 28) w1 fun r5 w2 =>
 ∃ n10, w2.cell? (⟨r5, 0, none⟩ : Addr) = some (.int .i64 n10) /\
 Br (n10 == 0) (
 ∃ b13, w2.cell? ((⟨r3, 0, none⟩ : Addr).add 3) = some (.bool b13) /\
 Br b13 (
 ∃ n15_0, w2.cell? ((⟨r5, 0, none⟩ : Addr).add 0) = some (.int .i64 n15_0) /\
 ∃ n15_1, w2.cell? ((⟨r5, 0, none⟩ : Addr).add 1) = some (.int .i64 n15_1) /\
 ∃ s15_2, w2.cell? ((⟨r5, 0, none⟩ : Addr).add 2) = some (.string s15_2) /\
 ∃ b17 : Bool, ∃ w3, (eqS .eql 28 (.tmp 15) (.tmp 16) (.agg #[.int .i64 n15_0, .int .i64 n15_1, .string s15_2]) (.agg #[.int .i64 0, .int .i64 0, .string (⟨#[]⟩ : ByteArray)])).run prog w2 = .ok (.bool b17) w3 /\
 zQd prog ds w3 fun w4 =>
 R (.returned (.bool b17)) w4) (
 zQd prog ds w2 fun w5 =>
 R (.returned (.bool false)) w5)) (
 ∃ n19_0, w2.cell? ((⟨r5, 0, none⟩ : Addr).add 0) = some (.int .i64 n19_0) /\
 ∃ n19_1, w2.cell? ((⟨r5, 0, none⟩ : Addr).add 1) = some (.int .i64 n19_1) /\
 ∃ s19_2, w2.cell? ((⟨r5, 0, none⟩ : Addr).add 2) = some (.string s19_2) /\
 Calls prog 107 #[.agg #[.int .i64 n19_0, .int .i64 n19_1, .string s19_2]] w2 fun e w6 =>
 ∃ n20 : Int, e = .returned (.int .i64 n20) /\
 Br (n20 != 0) (
 zQd prog ds w6 fun w7 =>
 R (.returned (.bool false)) w7) (
 ∃ s23_0, w6.cell? ((⟨r3, 0, none⟩ : Addr).add 0) = some (.string s23_0) /\
 ∃ n23_1, w6.cell? ((⟨r3, 0, none⟩ : Addr).add 1) = some (.int .i64 n23_1) /\
 ∃ n23_2, w6.cell? ((⟨r3, 0, none⟩ : Addr).add 2) = some (.int .i64 n23_2) /\
 ∃ b23_3, w6.cell? ((⟨r3, 0, none⟩ : Addr).add 3) = some (.bool b23_3) /\
 ∃ n25_0, w6.cell? ((⟨r5, 0, none⟩ : Addr).add 0) = some (.int .i64 n25_0) /\
 ∃ n25_1, w6.cell? ((⟨r5, 0, none⟩ : Addr).add 1) = some (.int .i64 n25_1) /\
 ∃ s25_2, w6.cell? ((⟨r5, 0, none⟩ : Addr).add 2) = some (.string s25_2) /\
 Calls prog 52 #[.agg #[.string s23_0, .int .i64 n23_1, .int .i64 n23_2, .bool b23_3], .int .i64 n1, .agg #[.int .i64 n25_0, .int .i64 n25_1, .string s25_2]] w6 fun e w8 =>
 ∃ n26_0_0 : Int, ∃ n26_0_1 : Int, ∃ s26_0_2 : ByteArray, ∃ n26_1 : Int, e = .returned (.tuple #[.agg #[.int .i64 n26_0_0, .int .i64 n26_0_1, .string s26_0_2], .int .i64 n26_1]) /\
 alE (.cells #[.int .i64 0, .int .i64 0, .string (⟨#[]⟩ : ByteArray)] 28) w8 fun r7 w9 =>
 stA prog 28 (⟨r7, 0, none⟩ : Addr) #[.int .i64 n26_0_0, .int .i64 n26_0_1, .string s26_0_2] w9 fun w10 =>
 Br (n26_1 == 0) (
 ∃ n32_0, w10.cell? ((⟨r7, 0, none⟩ : Addr).add 0) = some (.int .i64 n32_0) /\
 ∃ n32_1, w10.cell? ((⟨r7, 0, none⟩ : Addr).add 1) = some (.int .i64 n32_1) /\
 ∃ s32_2, w10.cell? ((⟨r7, 0, none⟩ : Addr).add 2) = some (.string s32_2) /\
 ∃ n33_0, w10.cell? ((⟨r5, 0, none⟩ : Addr).add 0) = some (.int .i64 n33_0) /\
 ∃ n33_1, w10.cell? ((⟨r5, 0, none⟩ : Addr).add 1) = some (.int .i64 n33_1) /\
 ∃ s33_2, w10.cell? ((⟨r5, 0, none⟩ : Addr).add 2) = some (.string s33_2) /\
 ∃ b34 : Bool, ∃ w11, (eqS .eql 28 (.tmp 32) (.tmp 33) (.agg #[.int .i64 n32_0, .int .i64 n32_1, .string s32_2]) (.agg #[.int .i64 n33_0, .int .i64 n33_1, .string s33_2])).run prog w10 = .ok (.bool b34) w11 /\
 zQd prog ds w11 fun w12 =>
 R (.returned (.bool b34)) w12) (
 zQd prog ds w10 fun w13 =>
 R (.returned (.bool false)) w13)))
theorem F94_p : Pl prog f94 [aS 0 [.str, .int .i64, .int .i64, .bool], iS 1, aS 2 [.int .i64, .int .i64, .str]] F94_1 := fun R =>
 lf
theorem yJE (s0_0 : ByteArray) (n0_1 n0_2 : Int) (b0_3 : Bool) (n1 n2_0 n2_1 : Int) (s2_2 : ByteArray) (w : World) (R : Rt) (h : F94_1 R s0_0 n0_1 n0_2 b0_3 n1 n2_0 n2_1 s2_2 [] w) : Calls prog 94 #[.agg #[.string s0_0, .int .i64 n0_1, .int .i64 n0_2, .bool b0_3], .int .i64 n1, .agg #[.int .i64 n2_0, .int .i64 n2_1, .string s2_2]] w R :=
 plC F94_p func94 h
def F12_1 (R : Rt) (ds : Ds) (w : World) : Prop :=
 zQd prog ds w fun w1 =>
 R (.returned (.int .i64 0)) w1
def F12_2 (R : Rt) (J1 : (Int) -> World -> Prop) (p1 : Option Addr) (n4 : Int) (ds : Ds) (w : World) : Prop :=
 zQp p1 fun a2 =>
 ∃ l22 : SV, w.cell? (a2.add 2) = some (.slice l22.a l22.len l22.cap) /\
 Br (decide (n4 < (l22.len : Int))) (
 dwE w fun w3 =>
 zQp p1 fun a4 =>
 ∃ l28 : SV, w3.cell? (a4.add 1) = some (.slice l28.a l28.len l28.cap) /\
 zQp p1 fun a5 =>
 ∃ n30, w3.cell? a5 = some (.int .i64 n30) /\
 zQp p1 fun a6 =>
 ∃ l32 : SV, w3.cell? (a6.add 2) = some (.slice l32.a l32.len l32.cap) /\
 ∃ a7, l32.a = some a7 /\ 0 <= n4 /\ n4 < (l32.len : Int) /\
 ∃ b35_0, w3.cell? ((a7.add (n4.toNat * 2)).add 0) = some (.bool b35_0) /\
 ∃ l35_1 : SV, w3.cell? ((a7.add (n4.toNat * 2)).add 1) = some (.slice l35_1.a l35_1.len l35_1.cap) /\
 Calls prog 43 #[.slice l28.a l28.len l28.cap, .int .i64 n30, .agg #[.bool b35_0, .slice l35_1.a l35_1.len l35_1.cap]] w3 fun e w8 =>
 ∃ n36 : Int, e = .returned (.int .i64 n36) /\
 Br (n36 != 0) (
 zQd prog ds w8 fun w9 =>
 R (.returned (.int .i64 n36)) w9) (
 J1 (IntKind.i64.wrap (n4 + 1)) w8)) (
 F12_1 R ds w)
def F12_3 (R : Rt) (p1 : Option Addr) (n4 : Int) (ds : Ds) (w : World) : Prop :=
 zQJ (fun (J1 : (Int) -> World -> Prop) (s : Int) (w : World) => F12_2 R J1 p1 s ds w) n4 w
def F12_5 (R : Rt) (n0_0 : Int) (l0_1 l0_2 : SV) (ds : Ds) (w : World) : Prop :=
 alE (.cells #[.int .i64 n0_0, .slice l0_1.a l0_1.len l0_1.cap, .slice l0_2.a l0_2.len l0_2.cap] 25) w fun r1 w10 =>
 ∃ n7, w10.cell? (⟨r1, 0, none⟩ : Addr) = some (.int .i64 n7) /\
 Calls prog 41 #[.int .i64 n7] w10 fun e w11 =>
 ∃ b8 : Bool, e = .returned (.bool b8) /\
 Br (!b8) (
 zQd prog ds w11 fun w12 =>
 R (.returned (.int .i64 1)) w12) (
 ∃ l11 : SV, w11.cell? ((⟨r1, 0, none⟩ : Addr).add 1) = some (.slice l11.a l11.len l11.cap) /\
 Calls prog 42 #[.slice l11.a l11.len l11.cap] w11 fun e w13 =>
 ∃ n12 : Int, e = .returned (.int .i64 n12) /\
 Br (n12 != 0) (
 zQd prog ds w13 fun w14 =>
 R (.returned (.int .i64 n12)) w14) (
 ∃ l17 : SV, w13.cell? ((⟨r1, 0, none⟩ : Addr).add 2) = some (.slice l17.a l17.len l17.cap) /\
 Br (decide ((l17.len : Int) > 300)) (
 zQd prog ds w13 fun w15 =>
 R (.returned (.int .i64 3)) w15) (
 F12_3 R (some (⟨r1, 0, none⟩ : Addr)) 0 ds w13)))
theorem F12_p : Pl prog f12 [aS 0 [.int .i64, .slice, .slice]] F12_5 := fun R =>
 pc 9 (zQ1 [pS 1, iS 4] (F12_3 R) (bk 0 (zQ1 [] (F12_1 R) lf) (lp [iS 4] [pS 1, iS 4] (F12_2 R) zZb fun J1 => lf)))
theorem yZ5 (n0_0 : Int) (l0_1 l0_2 : SV) (w : World) (R : Rt) (h : F12_5 R n0_0 l0_1 l0_2 [] w) : Calls prog 12 #[.agg #[.int .i64 n0_0, .slice l0_1.a l0_1.len l0_1.cap, .slice l0_2.a l0_2.len l0_2.cap]] w R :=
 plC F12_p func12 h
def F43_1 (R : Rt) (ds : Ds) (w : World) : Prop :=
 zQd prog ds w fun w1 =>
 R (.returned (.int .i64 0)) w1
def F43_2 (R : Rt) (J1 : (Int) -> World -> Prop) (l0 : SV) (n1 : Int) (p5 : Option Addr) (n7 : Int) (ds : Ds) (w : World) : Prop :=
 Br (decide (n7 < (l0.len : Int))) (
 dwE w fun w2 =>
 ∃ a3, l0.a = some a3 /\ 0 <= n7 /\ n7 < (l0.len : Int) /\
 ∃ s23_0, w2.cell? ((a3.add (n7.toNat * 4)).add 0) = some (.string s23_0) /\
 ∃ n23_1, w2.cell? ((a3.add (n7.toNat * 4)).add 1) = some (.int .i64 n23_1) /\
 ∃ n23_2, w2.cell? ((a3.add (n7.toNat * 4)).add 2) = some (.int .i64 n23_2) /\
 ∃ b23_3, w2.cell? ((a3.add (n7.toNat * 4)).add 3) = some (.bool b23_3) /\
 zQp p5 fun a4 =>
 ∃ l26 : SV, w2.cell? (a4.add 1) = some (.slice l26.a l26.len l26.cap) /\
 ∃ a5, l26.a = some a5 /\ 0 <= n7 /\ n7 < (l26.len : Int) /\
 ∃ n29_0, w2.cell? ((a5.add (n7.toNat * 3)).add 0) = some (.int .i64 n29_0) /\
 ∃ n29_1, w2.cell? ((a5.add (n7.toNat * 3)).add 1) = some (.int .i64 n29_1) /\
 ∃ s29_2, w2.cell? ((a5.add (n7.toNat * 3)).add 2) = some (.string s29_2) /\
 Calls prog 96 #[.agg #[.string s23_0, .int .i64 n23_1, .int .i64 n23_2, .bool b23_3], .int .i64 n1, .agg #[.int .i64 n29_0, .int .i64 n29_1, .string s29_2]] w2 fun e w6 =>
 ∃ b30 : Bool, e = .returned (.bool b30) /\
 Br (!b30) (
 zQd prog ds w6 fun w7 =>
 R (.returned (.int .i64 1)) w7) (
 J1 (IntKind.i64.wrap (n7 + 1)) w6)) (
 F43_1 R ds w)
def F43_3 (R : Rt) (l0 : SV) (n1 : Int) (p5 : Option Addr) (n7 : Int) (ds : Ds) (w : World) : Prop :=
 zQJ (fun (J1 : (Int) -> World -> Prop) (s : Int) (w : World) => F43_2 R J1 l0 n1 p5 s ds w) n7 w
def F43_5 (R : Rt) (l0 : SV) (n1 : Int) (b2_0 : Bool) (l2_1 : SV) (ds : Ds) (w : World) : Prop :=
 alE (.cells #[.bool b2_0, .slice l2_1.a l2_1.len l2_1.cap] 77) w fun r5 w8 =>
 ∃ l9 : SV, w8.cell? ((⟨r5, 0, none⟩ : Addr).add 1) = some (.slice l9.a l9.len l9.cap) /\
 Br ((l9.len : Int) != (l0.len : Int)) (
 zQd prog ds w8 fun w9 =>
 R (.returned (.int .i64 10)) w9) (
 F43_3 R l0 n1 (some (⟨r5, 0, none⟩ : Addr)) 0 ds w8)
theorem F43_p : Pl prog f43 [lS 0, iS 1, aS 2 [.bool, .slice]] F43_5 := fun R =>
 pc 4 (zQ1 [lS 0, iS 1, pS 5, iS 7] (F43_3 R) (bk 0 (zQ1 [] (F43_1 R) lf) (lp [iS 7] [lS 0, iS 1, pS 5, iS 7] (F43_2 R) zZb fun J1 => lf)))
theorem yJ7 (l0 : SV) (n1 : Int) (b2_0 : Bool) (l2_1 : SV) (w : World) (R : Rt) (h : F43_5 R l0 n1 b2_0 l2_1 [] w) : Calls prog 43 #[.slice l0.a l0.len l0.cap, .int .i64 n1, .agg #[.bool b2_0, .slice l2_1.a l2_1.len l2_1.cap]] w R :=
 plC F43_p func43 h
end Go.Proofs.YtcihcbfcgjepfaaGreatDoor
/- Shallow texts of functions, printed by program, each checked by the kernel against the loaded code. No condition. -/
namespace Go.Proofs.YtcihcbfcgjepfaaGreatDoor
open Go.Sh Tryz
end Go.Proofs.YtcihcbfcgjepfaaGreatDoor
/- Shallow texts of functions, printed by program, each checked by the kernel against the loaded code. No condition. -/
namespace Go.Proofs.YtcihcbfcgjepfaaGreatDoor
open Go.Sh Tryz
def F36_1 (R : Rt) (n3 : Int) (ds : Ds) (w : World) : Prop :=
 zQd prog ds w fun w1 =>
 R (.returned (.int .i64 n3)) w1
def F36_2 (R : Rt) (J1 : (Int × Int) -> World -> Prop) (p1 : Option Addr) (n3 n5 : Int) (ds : Ds) (w : World) : Prop :=
 zQp p1 fun a2 =>
 ∃ l28 : SV, w.cell? (a2.add 2) = some (.slice l28.a l28.len l28.cap) /\
 Br (decide (n5 < (l28.len : Int))) (
 zQp p1 fun a3 =>
 ∃ l35 : SV, w.cell? (a3.add 2) = some (.slice l35.a l35.len l35.cap) /\
 ∃ a4, l35.a = some a4 /\ 0 <= n5 /\ n5 < (l35.len : Int) /\
 ∃ l39 : SV, w.cell? ((a4.add (n5.toNat * 2)).add 1) = some (.slice l39.a l39.len l39.cap) /\
 Calls prog 91 #[.slice l39.a l39.len l39.cap] w fun e w5 =>
 ∃ n40 : Int, e = .returned (.int .i64 n40) /\
 J1 ((IntKind.i64.wrap (n3 + (IntKind.i64.wrap ((8 : Int) + n40)))), (IntKind.i64.wrap (n5 + 1))) w5) (
 F36_1 R n3 ds w)
def F36_3 (R : Rt) (p1 : Option Addr) (n3 n5 : Int) (ds : Ds) (w : World) : Prop :=
 zQJ (fun (J1 : (Int × Int) -> World -> Prop) (s : Int × Int) (w : World) => F36_2 R J1 p1 s.1 s.2 ds w) (n3, n5) w
def F36_5 (R : Rt) (p1 : Option Addr) (n3 : Int) (ds : Ds) (w : World) : Prop :=
 F36_3 R p1 n3 0 ds w
def F36_6 (R : Rt) (J1 : (Int × Int) -> World -> Prop) (p1 : Option Addr) (n3 n4 : Int) (ds : Ds) (w : World) : Prop :=
 zQp p1 fun a6 =>
 ∃ l12 : SV, w.cell? (a6.add 1) = some (.slice l12.a l12.len l12.cap) /\
 Br (decide (n4 < (l12.len : Int))) (
 zQp p1 fun a7 =>
 ∃ l19 : SV, w.cell? (a7.add 1) = some (.slice l19.a l19.len l19.cap) /\
 ∃ a8, l19.a = some a8 /\ 0 <= n4 /\ n4 < (l19.len : Int) /\
 ∃ s23, w.cell? (a8.add (n4.toNat * 4)) = some (.string s23) /\
 J1 ((IntKind.i64.wrap (n3 + (s23.size : Int))), (IntKind.i64.wrap (n4 + 1))) w) (
 F36_5 R p1 n3 ds w)
def F36_7 (R : Rt) (p1 : Option Addr) (n3 n4 : Int) (ds : Ds) (w : World) : Prop :=
 zQJ (fun (J1 : (Int × Int) -> World -> Prop) (s : Int × Int) (w : World) => F36_6 R J1 p1 s.1 s.2 ds w) (n3, n4) w
def F36_9 (R : Rt) (n0_0 : Int) (l0_1 l0_2 : SV) (ds : Ds) (w : World) : Prop :=
 alE (.cells #[.int .i64 n0_0, .slice l0_1.a l0_1.len l0_1.cap, .slice l0_2.a l0_2.len l0_2.cap] 25) w fun r1 w9 =>
 ∃ l7 : SV, w9.cell? ((⟨r1, 0, none⟩ : Addr).add 1) = some (.slice l7.a l7.len l7.cap) /\
 F36_7 R (some (⟨r1, 0, none⟩ : Addr)) (IntKind.i64.wrap ((16 : Int) * (l7.len : Int))) 0 ds w9
theorem F36_p : Pl prog f36 [aS 0 [.int .i64, .slice, .slice]] F36_9 := fun R =>
 pc 3 (zQ1 [pS 1, iS 3, iS 4] (F36_7 R) (bk 0 (zQ1 [pS 1, iS 3] (F36_5 R) (pc 1 (zQ1 [pS 1, iS 3, iS 5] (F36_3 R) (bk 2 (zQ1 [iS 3] (F36_1 R) lf) (lp [iS 3, iS 5] [pS 1, iS 3, iS 5] (F36_2 R) zZb fun J1 => lf))))) (lp [iS 3, iS 4] [pS 1, iS 3, iS 4] (F36_6 R) zZb fun J1 => lf)))
theorem yZM (n0_0 : Int) (l0_1 l0_2 : SV) (w : World) (R : Rt) (h : F36_9 R n0_0 l0_1 l0_2 [] w) : Calls prog 36 #[.agg #[.int .i64 n0_0, .slice l0_1.a l0_1.len l0_1.cap, .slice l0_2.a l0_2.len l0_2.cap]] w R :=
 plC F36_p func36 h
def F91_1 (R : Rt) (n3 : Int) (ds : Ds) (w : World) : Prop :=
 zQd prog ds w fun w1 =>
 R (.returned (.int .i64 n3)) w1
def F91_2 (R : Rt) (J1 : (Int × Int) -> World -> Prop) (l0 : SV) (n3 n4 : Int) (ds : Ds) (w : World) : Prop :=
 Br (decide (n4 < (l0.len : Int))) (
 ∃ a2, l0.a = some a2 /\ 0 <= n4 /\ n4 < (l0.len : Int) /\
 ∃ s19, w.cell? ((a2.add (n4.toNat * 3)).add 2) = some (.string s19) /\
 J1 ((IntKind.i64.wrap (n3 + (s19.size : Int))), (IntKind.i64.wrap (n4 + 1))) w) (
 F91_1 R n3 ds w)
def F91_3 (R : Rt) (l0 : SV) (n3 n4 : Int) (ds : Ds) (w : World) : Prop :=
 zQJ (fun (J1 : (Int × Int) -> World -> Prop) (s : Int × Int) (w : World) => F91_2 R J1 l0 s.1 s.2 ds w) (n3, n4) w
def F91_5 (R : Rt) (l0 : SV) (ds : Ds) (w : World) : Prop :=
 F91_3 R l0 (IntKind.i64.wrap ((8 : Int) * (l0.len : Int))) 0 ds w
theorem F91_p : Pl prog f91 [lS 0] F91_5 := fun R =>
 pc 3 (zQ1 [lS 0, iS 3, iS 4] (F91_3 R) (bk 0 (zQ1 [iS 3] (F91_1 R) lf) (lp [iS 3, iS 4] [lS 0, iS 3, iS 4] (F91_2 R) zZb fun J1 => lf)))
theorem yJV (l0 : SV) (w : World) (R : Rt) (h : F91_5 R l0 [] w) : Calls prog 91 #[.slice l0.a l0.len l0.cap] w R :=
 plC F91_p func91 h
end Go.Proofs.YtcihcbfcgjepfaaGreatDoor
/- Shallow texts of functions, printed by program, each checked by the kernel against the loaded code. No condition. -/
namespace Go.Proofs.YtcihcbfcgjepfaaGreatDoor
open Go.Sh Tryz
def F19_1 (R : Rt) (n0_0 n0_1 : Int) (s0_2 : ByteArray) (n1_0 n1_1 : Int) (s1_2 : ByteArray) (ds : Ds) (w : World) : Prop :=
 alE (.cells #[.int .i64 n0_0, .int .i64 n0_1, .string s0_2] 28) w fun r2 w1 =>
 alE (.cells #[.int .i64 n1_0, .int .i64 n1_1, .string s1_2] 28) w1 fun r3 w2 =>
 ∃ n6, w2.cell? (⟨r2, 0, none⟩ : Addr) = some (.int .i64 n6) /\
 ∃ n8, w2.cell? (⟨r3, 0, none⟩ : Addr) = some (.int .i64 n8) /\
 Br (n6 == n8) (
 ∃ n12, w2.cell? ((⟨r2, 0, none⟩ : Addr).add 1) = some (.int .i64 n12) /\
 ∃ n14, w2.cell? ((⟨r3, 0, none⟩ : Addr).add 1) = some (.int .i64 n14) /\
 Br (n12 == n14) (
 ∃ s19, w2.cell? ((⟨r2, 0, none⟩ : Addr).add 2) = some (.string s19) /\
 ∃ s21, w2.cell? ((⟨r3, 0, none⟩ : Addr).add 2) = some (.string s21) /\
 zQd prog ds w2 fun w3 =>
 R (.returned (.bool (s19.toList == s21.toList))) w3) (
 zQd prog ds w2 fun w4 =>
 R (.returned (.bool false)) w4)) (
 zQd prog ds w2 fun w5 =>
 R (.returned (.bool false)) w5)
theorem F19_p : Pl prog f19 [aS 0 [.int .i64, .int .i64, .str], aS 1 [.int .i64, .int .i64, .str]] F19_1 := fun R =>
 lf
theorem yZe (n0_0 n0_1 : Int) (s0_2 : ByteArray) (n1_0 n1_1 : Int) (s1_2 : ByteArray) (w : World) (R : Rt) (h : F19_1 R n0_0 n0_1 s0_2 n1_0 n1_1 s1_2 [] w) : Calls prog 19 #[.agg #[.int .i64 n0_0, .int .i64 n0_1, .string s0_2], .agg #[.int .i64 n1_0, .int .i64 n1_1, .string s1_2]] w R :=
 plC F19_p func19 h
end Go.Proofs.YtcihcbfcgjepfaaGreatDoor
/- Shallow texts of functions, printed by program, each checked by the kernel against the loaded code. No condition. -/
namespace Go.Proofs.YtcihcbfcgjepfaaGreatDoor
open Go.Sh Tryz
def F60_1 (R : Rt) (b0_0 : Bool) (l0_1 : SV) (b1_0 : Bool) (l1_1 : SV) (ds : Ds) (w : World) : Prop :=
 alE (.cells #[.bool b0_0, .slice l0_1.a l0_1.len l0_1.cap] 77) w fun r2 w1 =>
 alE (.cells #[.bool b1_0, .slice l1_1.a l1_1.len l1_1.cap] 77) w1 fun r3 w2 =>
 ∃ b6, w2.cell? (⟨r2, 0, none⟩ : Addr) = some (.bool b6) /\
 ∃ b8, w2.cell? (⟨r3, 0, none⟩ : Addr) = some (.bool b8) /\
 Br (b6 == b8) (
 ∃ l12 : SV, w2.cell? ((⟨r2, 0, none⟩ : Addr).add 1) = some (.slice l12.a l12.len l12.cap) /\
 ∃ l14 : SV, w2.cell? ((⟨r3, 0, none⟩ : Addr).add 1) = some (.slice l14.a l14.len l14.cap) /\
 Calls prog 117 #[.slice l12.a l12.len l12.cap, .slice l14.a l14.len l14.cap] w2 fun e w3 =>
 ∃ b15 : Bool, e = .returned (.bool b15) /\
 zQd prog ds w3 fun w4 =>
 R (.returned (.bool b15)) w4) (
 zQd prog ds w2 fun w5 =>
 R (.returned (.bool false)) w5)
theorem F60_p : Pl prog f60 [aS 0 [.bool, .slice], aS 1 [.bool, .slice]] F60_1 := fun R =>
 lf
theorem yJT (b0_0 : Bool) (l0_1 : SV) (b1_0 : Bool) (l1_1 : SV) (w : World) (R : Rt) (h : F60_1 R b0_0 l0_1 b1_0 l1_1 [] w) : Calls prog 60 #[.agg #[.bool b0_0, .slice l0_1.a l0_1.len l0_1.cap], .agg #[.bool b1_0, .slice l1_1.a l1_1.len l1_1.cap]] w R :=
 plC F60_p func60 h
def yVN (R : Rt) (ds : Ds) (w : World) : Prop :=
 zQd prog ds w fun w1 =>
 R (.returned (.bool true)) w1
def yW8 (R : Rt) (J1 : (Int) -> World -> Prop) (l0 l1 : SV) (n5 : Int) (ds : Ds) (w : World) : Prop :=
 Br (decide (n5 < (l0.len : Int))) (
 dwE w fun w2 =>
 ∃ a3, l0.a = some a3 /\ 0 <= n5 /\ n5 < (l0.len : Int) /\
 ∃ n20_0, w2.cell? ((a3.add (n5.toNat * 3)).add 0) = some (.int .i64 n20_0) /\
 ∃ n20_1, w2.cell? ((a3.add (n5.toNat * 3)).add 1) = some (.int .i64 n20_1) /\
 ∃ s20_2, w2.cell? ((a3.add (n5.toNat * 3)).add 2) = some (.string s20_2) /\
 ∃ a4, l1.a = some a4 /\ 0 <= n5 /\ n5 < (l1.len : Int) /\
 ∃ n24_0, w2.cell? ((a4.add (n5.toNat * 3)).add 0) = some (.int .i64 n24_0) /\
 ∃ n24_1, w2.cell? ((a4.add (n5.toNat * 3)).add 1) = some (.int .i64 n24_1) /\
 ∃ s24_2, w2.cell? ((a4.add (n5.toNat * 3)).add 2) = some (.string s24_2) /\
 Calls prog 19 #[.agg #[.int .i64 n20_0, .int .i64 n20_1, .string s20_2], .agg #[.int .i64 n24_0, .int .i64 n24_1, .string s24_2]] w2 fun e w5 =>
 ∃ b25 : Bool, e = .returned (.bool b25) /\
 Br (!b25) (
 zQd prog ds w5 fun w6 =>
 R (.returned (.bool false)) w6) (
 J1 (IntKind.i64.wrap (n5 + 1)) w5)) (
 yVN R ds w)
def yWQ (R : Rt) (l0 l1 : SV) (n5 : Int) (ds : Ds) (w : World) : Prop :=
 zQJ (fun (J1 : (Int) -> World -> Prop) (s : Int) (w : World) => yW8 R J1 l0 l1 s ds w) n5 w
def yWU (R : Rt) (l0 l1 : SV) (ds : Ds) (w : World) : Prop :=
 Br ((l0.len : Int) != (l1.len : Int)) (
 zQd prog ds w fun w7 =>
 R (.returned (.bool false)) w7) (
 yWQ R l0 l1 0 ds w)
theorem F117_p : Pl prog f117 [lS 0, lS 1] yWU := fun R =>
 pc 4 (zQ1 [lS 0, lS 1, iS 5] (yWQ R) (bk 0 (zQ1 [] (yVN R) lf) (lp [iS 5] [lS 0, lS 1, iS 5] (yW8 R) zZb fun J1 => lf)))
theorem yQP (l0 l1 : SV) (w : World) (R : Rt) (h : yWU R l0 l1 [] w) : Calls prog 117 #[.slice l0.a l0.len l0.cap, .slice l1.a l1.len l1.cap] w R :=
 plC F117_p func117 h
end Go.Proofs.YtcihcbfcgjepfaaGreatDoor
/- Shallow texts of functions, printed by program, each checked by the kernel against the loaded code. No condition. -/
namespace Go.Proofs.YtcihcbfcgjepfaaGreatDoor
open Go.Sh Tryz
def F37_1 (R : Rt) (n0 : Int) (ds : Ds) (w : World) : Prop :=
 alE (.cells #[.int .i64 0, .int .i64 0, .string (⟨#[]⟩ : ByteArray)] 28) w fun r2 w1 =>
 stA prog 28 (⟨r2, 0, none⟩ : Addr) #[.int .i64 2, .int .i64 n0, .string (⟨#[]⟩ : ByteArray)] w1 fun w2 =>
 zQd prog ds w2 fun w3 =>
 ∃ nR0_0, w3.cell? ((⟨r2, 0, none⟩ : Addr).add 0) = some (.int .i64 nR0_0) /\
 ∃ nR0_1, w3.cell? ((⟨r2, 0, none⟩ : Addr).add 1) = some (.int .i64 nR0_1) /\
 ∃ sR0_2, w3.cell? ((⟨r2, 0, none⟩ : Addr).add 2) = some (.string sR0_2) /\
 R (.returned (.agg #[.int .i64 nR0_0, .int .i64 nR0_1, .string sR0_2])) w3
theorem F37_p : Pl prog f37 [iS 0] F37_1 := fun R =>
 lf
theorem yJ0 (n0 : Int) (w : World) (R : Rt) (h : F37_1 R n0 [] w) : Calls prog 37 #[.int .i64 n0] w R :=
 plC F37_p func37 h
end Go.Proofs.YtcihcbfcgjepfaaGreatDoor
/- Shallow texts of functions, printed by program, each checked by the kernel against the loaded code. No condition. -/
namespace Go.Proofs.YtcihcbfcgjepfaaGreatDoor
open Go.Sh Tryz
def yWG (R : Rt) (v0 : Value) (ds : Ds) (w : World) : Prop :=
 Calls prog 165 #[v0] w fun e w1 =>
 ∃ l5 : SV, e = .returned (.slice l5.a l5.len l5.cap) /\
 Calls prog 166 #[.slice l5.a l5.len l5.cap] w1 fun e w2 =>
 e = .returned (.tuple #[]) /\
 zQd prog ds w2 fun w3 =>
 R (.returned (.slice l5.a l5.len l5.cap)) w3
theorem F128_p : Pl prog f128 [vS 0] yWG := fun R =>
 lf
theorem yXw (v0 : Value) (w : World) (R : Rt) (h : yWG R v0 [] w) : Calls prog 128 #[v0] w R :=
 plC F128_p func128 h
def yWN (R : Rt) (m0 : Option Nat) (ds : Ds) (w : World) : Prop :=
 alE (.cells #[.map m0] 88) w fun r1 w1 =>
 zQd prog ds w1 fun w2 =>
 R (.returned (.func (.func 167) #[] #[.pointer (some (⟨r1, 0, none⟩ : Addr))])) w2
theorem F129_p : Pl prog f129 [mS 0] yWN := fun R =>
 lf
theorem yXr (m0 : Option Nat) (w : World) (R : Rt) (h : yWN R m0 [] w) : Calls prog 129 #[.map m0] w R :=
 plC F129_p func129 h
def yW7 (R : Rt) (v0 : Value) (ds : Ds) (w : World) : Prop :=
 Calls prog 201 #[.slice none 0 0, v0] w fun e w1 =>
 ∃ l4 : SV, e = .returned (.slice l4.a l4.len l4.cap) /\
 zQd prog ds w1 fun w2 =>
 R (.returned (.slice l4.a l4.len l4.cap)) w2
theorem F165_p : Pl prog f165 [vS 0] yW7 := fun R =>
 lf
theorem yQH (v0 : Value) (w : World) (R : Rt) (h : yW7 R v0 [] w) : Calls prog 165 #[v0] w R :=
 plC F165_p func165 h
end Go.Proofs.YtcihcbfcgjepfaaGreatDoor
/- Shallow texts of functions, printed by program, each checked by the kernel against the loaded code. No condition. -/
namespace Go.Proofs.YtcihcbfcgjepfaaGreatDoor
open Go.Sh Tryz
def F85_1 (R : Rt) (p0 : Option Addr) (ds : Ds) (w : World) : Prop :=
 zQp p0 fun a1 =>
 Calls prog 138 #[.pointer (some a1)] w fun e w2 =>
 e = .returned (.tuple #[]) /\
 zQd prog ds w2 fun w3 =>
 R (.returned (.tuple #[])) w3
theorem F85_p : Pl prog f85 [pS 0] F85_1 := fun R =>
 lf
theorem yJP (p0 : Option Addr) (w : World) (R : Rt) (h : F85_1 R p0 [] w) : Calls prog 85 #[.pointer p0] w R :=
 plC F85_p func85 h
def F86_1 (R : Rt) (p0 : Option Addr) (ds : Ds) (w : World) : Prop :=
 zQp p0 fun a1 =>
 Calls prog 139 #[.pointer (some a1)] w fun e w2 =>
 e = .returned (.tuple #[]) /\
 zQd prog ds w2 fun w3 =>
 R (.returned (.tuple #[])) w3
theorem F86_p : Pl prog f86 [pS 0] F86_1 := fun R =>
 lf
theorem yXN (p0 : Option Addr) (w : World) (R : Rt) (u : FrameMode) (h : F86_1 R p0 [] w) : CallsD prog 86 #[.pointer p0] u w fun e u' w' => u' = u /\ R e w' :=
 plD F86_p func86 u h
def yWH (R : Rt) (p0 : Option Addr) (ds : Ds) (w : World) : Prop :=
 ∃ w1, (callFunc 168 #[]).run prog w = .ok (.value (.tuple #[])) w1 /\
 zQp p0 fun a2 =>
 ∃ b6 : Bool, ∃ w3, (callFunc 169 #[.pointer (some a2), .int .i32 0, .int .i32 1]).run prog w1 = .ok (.value (.bool b6)) w3 /\
 Br b6 (
 ∃ w4, (callFunc 170 #[]).run prog w3 = .ok (.value (.tuple #[])) w4 /\
 ∃ v9 : Value, ∃ w5, (convert 202 206 (.pointer p0)).run prog w4 = .ok (v9) w5 /\
 ∃ w6, (callFunc 171 #[v9]).run prog w5 = .ok (.value (.tuple #[])) w6 /\
 zQd prog ds w6 fun w7 =>
 R (.returned (.tuple #[])) w7) (
 Calls prog 172 #[.pointer p0] w3 fun e w8 =>
 e = .returned (.tuple #[]) /\
 zQd prog ds w8 fun w9 =>
 R (.returned (.tuple #[])) w9)
theorem F138_p : Pl prog f138 [pS 0] yWH := fun R =>
 lf
theorem yX9 (p0 : Option Addr) (w : World) (R : Rt) (h : yWH R p0 [] w) : Calls prog 138 #[.pointer p0] w R :=
 plC F138_p func138 h
def yVa (R : Rt) (p0 : Option Addr) (ds : Ds) (w : World) : Prop :=
 zQp p0 fun a1 =>
 ∃ n6, w.cell? a1 = some (.int .i32 n6) /\
 ∃ v8 : Value, ∃ w2, (convert 202 206 (.pointer p0)).run prog w = .ok (v8) w2 /\
 ∃ w3, (callFunc 173 #[v8]).run prog w2 = .ok (.value (.tuple #[])) w3 /\
 ∃ w4, (callFunc 168 #[]).run prog w3 = .ok (.value (.tuple #[])) w4 /\
 zQp p0 fun a5 =>
 ∃ n14 : Int, ∃ w6, (callFunc 174 #[.pointer (some a5), .int .i32 (-1)]).run prog w4 = .ok (.value (.int .i32 n14)) w6 /\
 Br (n14 != 0) (
 Calls prog 175 #[.pointer p0, .int .i32 n14] w6 fun e w7 =>
 e = .returned (.tuple #[]) /\
 ∃ w8, (callFunc 170 #[]).run prog w7 = .ok (.value (.tuple #[])) w8 /\
 zQd prog ds w8 fun w9 =>
 R (.returned (.tuple #[])) w9) (
 ∃ w10, (callFunc 170 #[]).run prog w6 = .ok (.value (.tuple #[])) w10 /\
 zQd prog ds w10 fun w11 =>
 R (.returned (.tuple #[])) w11)
theorem F139_p : Pl prog f139 [pS 0] yVa := fun R =>
 lf
theorem yQ8 (p0 : Option Addr) (w : World) (R : Rt) (h : yVa R p0 [] w) : Calls prog 139 #[.pointer p0] w R :=
 plC F139_p func139 h
def F47_1 (R : Rt) (p0 : Option Addr) (n1 : Int) (ds : Ds) (w : World) : Prop :=
 ∃ b8 : Bool, ∃ w1, (eqS .eql 32 (.tmp 7) (.const (.pointer none)) (.pointer p0) (.pointer none)).run prog w = .ok (.bool b8) w1 /\
 Br b8 (
 zQd prog ds w1 fun w2 =>
 R (.returned (.tuple #[.pointer none, .func (.func 102) #[] #[], .int .i64 9])) w2) (
 zQp p0 fun a3 =>
 Calls prog 85 #[.pointer (some a3)] w1 fun e w4 =>
 e = .returned (.tuple #[]) /\
 Br (decide (n1 < 0)) (
 dwE w4 fun w5 =>
 zQp p0 fun a6 =>
 zQd prog ds w5 fun w7 =>
 R (.returned (.tuple #[.pointer none, .func (.func 86) #[.pointer (some a6)] #[], .int .i64 1])) w7) (
 Br (decide (n1 >= 4)) (
 dwE w4 fun w8 =>
 zQp p0 fun a9 =>
 zQd prog ds w8 fun w10 =>
 R (.returned (.tuple #[.pointer none, .func (.func 86) #[.pointer (some a9)] #[], .int .i64 1])) w10) (
 dwE w4 fun w11 =>
 zQp p0 fun a12 =>
 0 <= n1 /\ n1 < (4 : Int) /\
 zQp p0 fun a13 =>
 zQd prog ds w11 fun w14 =>
 R (.returned (.tuple #[.pointer (some ((a12.add 5).add (n1.toNat * 4))), .func (.func 86) #[.pointer (some a13)] #[], .int .i64 0])) w14)))
theorem F47_p : Pl prog f47 [pS 0, iS 1] F47_1 := fun R =>
 lf
theorem yZf (p0 : Option Addr) (n1 : Int) (w : World) (R : Rt) (h : F47_1 R p0 n1 [] w) : Calls prog 47 #[.pointer p0, .int .i64 n1] w R :=
 plC F47_p func47 h
end Go.Proofs.YtcihcbfcgjepfaaGreatDoor
/- Shallow texts of functions, printed by program, each checked by the kernel against the loaded code. No condition. -/
namespace Go.Proofs.YtcihcbfcgjepfaaGreatDoor
open Go.Sh Tryz
def F11_1 (R : Rt) (p5 : Option Addr) (ds : Ds) (w : World) : Prop :=
 zQd prog ds w fun w1 =>
 R (.returned (.tuple #[.pointer p5, .int .i64 0])) w1
def F11_2 (R : Rt) (J1 : (Int) -> World -> Prop) (p5 : Option Addr) (n24 : Int) (ds : Ds) (w : World) : Prop :=
 Br (decide (n24 < 4)) (
 alE (.map #[] 0) w fun r29 w2 =>
 zQp p5 fun a3 =>
 0 <= n24 /\ n24 < (4 : Int) /\
 st1 (((a3.add 5).add (n24.toNat * 4)).add 2) (.map (some r29)) w2 fun w4 =>
 J1 (IntKind.i64.wrap (n24 + 1)) w4) (
 F11_1 R p5 ds w)
def F11_3 (R : Rt) (p5 : Option Addr) (n24 : Int) (ds : Ds) (w : World) : Prop :=
 zQJ (fun (J1 : (Int) -> World -> Prop) (s : Int) (w : World) => F11_2 R J1 p5 s ds w) n24 w
def F11_5 (R : Rt) (n0_0 : Int) (l0_1 l0_2 : SV) (ds : Ds) (w : World) : Prop :=
 alE (.cells #[.int .i64 n0_0, .slice l0_1.a l0_1.len l0_1.cap, .slice l0_2.a l0_2.len l0_2.cap] 25) w fun r1 w5 =>
 ∃ n7_0, w5.cell? ((⟨r1, 0, none⟩ : Addr).add 0) = some (.int .i64 n7_0) /\
 ∃ l7_1 : SV, w5.cell? ((⟨r1, 0, none⟩ : Addr).add 1) = some (.slice l7_1.a l7_1.len l7_1.cap) /\
 ∃ l7_2 : SV, w5.cell? ((⟨r1, 0, none⟩ : Addr).add 2) = some (.slice l7_2.a l7_2.len l7_2.cap) /\
 Calls prog 38 #[.agg #[.int .i64 n7_0, .slice l7_1.a l7_1.len l7_1.cap, .slice l7_2.a l7_2.len l7_2.cap]] w5 fun e w6 =>
 ∃ n8 : Int, e = .returned (.int .i64 n8) /\
 Br (n8 != 0) (
 zQd prog ds w6 fun w7 =>
 R (.returned (.tuple #[.pointer none, .int .i64 n8])) w7) (
 dwE w6 fun w8 =>
 ∃ S1 : World -> Prop, S1 w8 /\
 ∃ l13 : SV, (∀ w', S1 w' -> w'.cell? ((⟨r1, 0, none⟩ : Addr).add 1) = some (.slice l13.a l13.len l13.cap)) /\
 ∃ l16 : SV, (∀ w', S1 w' -> w'.cell? ((⟨r1, 0, none⟩ : Addr).add 2) = some (.slice l16.a l16.len l16.cap)) /\
 Calls prog 39 #[.slice l13.a l13.len l13.cap] w8 fun e w9 =>
 ∃ l14 : SV, e = .returned (.slice l14.a l14.len l14.cap) /\
 S1 w9 /\
 Calls prog 40 #[.slice l16.a l16.len l16.cap] w9 fun e w10 =>
 ∃ l17 : SV, e = .returned (.slice l17.a l17.len l17.cap) /\
 st1 ((⟨r1, 0, none⟩ : Addr).add 1) (.slice l14.a l14.len l14.cap) w10 fun w11 =>
 st1 ((⟨r1, 0, none⟩ : Addr).add 2) (.slice l17.a l17.len l17.cap) w11 fun w12 =>
 ∃ n20_0, w12.cell? ((⟨r1, 0, none⟩ : Addr).add 0) = some (.int .i64 n20_0) /\
 ∃ l20_1 : SV, w12.cell? ((⟨r1, 0, none⟩ : Addr).add 1) = some (.slice l20_1.a l20_1.len l20_1.cap) /\
 ∃ l20_2 : SV, w12.cell? ((⟨r1, 0, none⟩ : Addr).add 2) = some (.slice l20_2.a l20_2.len l20_2.cap) /\
 alE (.map #[] 0) w12 fun r21 w13 =>
 alE (.cells #[.int .i32 0, .int .u32 0, .int .i64 n20_0, .slice l20_1.a l20_1.len l20_1.cap, .slice l20_2.a l20_2.len l20_2.cap, .int .i64 0, .int .i64 0, .map none, .slice none 0 0, .int .i64 0, .int .i64 0, .map none, .slice none 0 0, .int .i64 0, .int .i64 0, .map none, .slice none 0 0, .int .i64 0, .int .i64 0, .map none, .slice none 0 0, .map (some r21)] 93) w13 fun r23 w14 =>
 F11_3 R (some (⟨r23, 0, none⟩ : Addr)) 0 ds w14)
theorem F11_p : Pl prog f11 [aS 0 [.int .i64, .slice, .slice]] F11_5 := fun R =>
 pc 7 (zQ1 [pS 5, iS 24] (F11_3 R) (bk 0 (zQ1 [pS 5] (F11_1 R) lf) (lp [iS 24] [pS 5, iS 24] (F11_2 R) zZb fun J1 => lf)))
theorem yJc (n0_0 : Int) (l0_1 l0_2 : SV) (w : World) (R : Rt) (h : F11_5 R n0_0 l0_1 l0_2 [] w) : Calls prog 11 #[.agg #[.int .i64 n0_0, .slice l0_1.a l0_1.len l0_1.cap, .slice l0_2.a l0_2.len l0_2.cap]] w R :=
 plC F11_p func11 h
def F40_1 (R : Rt) (l3 : SV) (ds : Ds) (w : World) : Prop :=
 zQd prog ds w fun w1 =>
 R (.returned (.slice l3.a l3.len l3.cap)) w1
def F40_2 (R : Rt) (J1 : (SV × Int) -> World -> Prop) (l3 l6 : SV) (n7 n8 : Int) (ds : Ds) (w : World) : Prop :=
 Br (decide (n8 < n7)) (
 ∃ a2, l6.a = some a2 /\ 0 <= n8 /\ n8 < (l6.len : Int) /\
 ∃ b11_0, w.cell? ((a2.add (n8.toNat * 2)).add 0) = some (.bool b11_0) /\
 ∃ l11_1 : SV, w.cell? ((a2.add (n8.toNat * 2)).add 1) = some (.slice l11_1.a l11_1.len l11_1.cap) /\
 alE (.cells #[.bool false, .slice none 0 0] 77) w fun r5 w3 =>
 stA prog 77 (⟨r5, 0, none⟩ : Addr) #[.bool b11_0, .slice l11_1.a l11_1.len l11_1.cap] w3 fun w4 =>
 ∃ b13_0, w4.cell? ((⟨r5, 0, none⟩ : Addr).add 0) = some (.bool b13_0) /\
 ∃ l13_1 : SV, w4.cell? ((⟨r5, 0, none⟩ : Addr).add 1) = some (.slice l13_1.a l13_1.len l13_1.cap) /\
 Calls prog 88 #[.agg #[.bool b13_0, .slice l13_1.a l13_1.len l13_1.cap]] w4 fun e w5 =>
 ∃ b14_0 : Bool, ∃ l14_1 : SV, e = .returned (.agg #[.bool b14_0, .slice l14_1.a l14_1.len l14_1.cap]) /\
 alE (.cells #[.bool b14_0, .slice l14_1.a l14_1.len l14_1.cap] 77) w5 fun r15 w6 =>
 ∃ l16 : SV, ∃ w7, (Builtin.append_ #[23, 23] 23 #[.slice l3.a l3.len l3.cap, .slice (some ⟨r15, 0, none⟩) 1 1]).run prog w6 = .ok (.slice l16.a l16.len l16.cap) w7 /\
 J1 (l16, (IntKind.i64.wrap (n8 + 1))) w7) (
 F40_1 R l3 ds w)
def F40_3 (R : Rt) (l3 l6 : SV) (n7 n8 : Int) (ds : Ds) (w : World) : Prop :=
 zQJ (fun (J1 : (SV × Int) -> World -> Prop) (s : SV × Int) (w : World) => F40_2 R J1 s.1 l6 n7 s.2 ds w) (l3, n8) w
def F40_5 (R : Rt) (l0 : SV) (ds : Ds) (w : World) : Prop :=
 F40_3 R ⟨none, 0, 0⟩ l0 (l0.len : Int) 0 ds w
theorem F40_p : Pl prog f40 [lS 0] F40_5 := fun R =>
 pc 3 (zQ1 [lS 3, lS 6, iS 7, iS 8] (F40_3 R) (bk 0 (zQ1 [lS 3] (F40_1 R) lf) (lp [lS 3, iS 8] [lS 3, lS 6, iS 7, iS 8] (F40_2 R) zZb fun J1 => lf)))
theorem yJo (l0 : SV) (w : World) (R : Rt) (h : F40_5 R l0 [] w) : Calls prog 40 #[.slice l0.a l0.len l0.cap] w R :=
 plC F40_p func40 h
def F88_1 (R : Rt) (b0_0 : Bool) (l0_1 : SV) (ds : Ds) (w : World) : Prop :=
 alE (.cells #[.bool b0_0, .slice l0_1.a l0_1.len l0_1.cap] 77) w fun r1 w1 =>
 alE (.cells #[.bool false, .slice none 0 0] 77) w1 fun r2 w2 =>
 dwE w2 fun w3 =>
 ∃ S1 : World -> Prop, S1 w3 /\
 ∃ b4, (∀ w', S1 w' -> w'.cell? (⟨r1, 0, none⟩ : Addr) = some (.bool b4)) /\
 ∃ l6 : SV, (∀ w', S1 w' -> w'.cell? ((⟨r1, 0, none⟩ : Addr).add 1) = some (.slice l6.a l6.len l6.cap)) /\
 Calls prog 141 #[.slice l6.a l6.len l6.cap] w3 fun e w4 =>
 ∃ l7 : SV, e = .returned (.slice l7.a l7.len l7.cap) /\
 S1 w4 /\
 stA prog 77 (⟨r2, 0, none⟩ : Addr) #[.bool b4, .slice l7.a l7.len l7.cap] w4 fun w5 =>
 zQd prog ds w5 fun w6 =>
 ∃ bR0_0, w6.cell? ((⟨r2, 0, none⟩ : Addr).add 0) = some (.bool bR0_0) /\
 ∃ lR0_1 : SV, w6.cell? ((⟨r2, 0, none⟩ : Addr).add 1) = some (.slice lR0_1.a lR0_1.len lR0_1.cap) /\
 R (.returned (.agg #[.bool bR0_0, .slice lR0_1.a lR0_1.len lR0_1.cap])) w6
theorem F88_p : Pl prog f88 [aS 0 [.bool, .slice]] F88_1 := fun R =>
 lf
theorem yJA (b0_0 : Bool) (l0_1 : SV) (w : World) (R : Rt) (h : F88_1 R b0_0 l0_1 [] w) : Calls prog 88 #[.agg #[.bool b0_0, .slice l0_1.a l0_1.len l0_1.cap]] w R :=
 plC F88_p func88 h
def yVf (R : Rt) (l0 : SV) (ds : Ds) (w : World) : Prop :=
 ∃ b4 : Bool, ∃ w1, (eqS .eql 75 (.tmp 3) (.const (.slice none 0 0)) (.slice l0.a l0.len l0.cap) (.slice none 0 0)).run prog w = .ok (.bool b4) w1 /\
 Br b4 (
 zQd prog ds w1 fun w2 =>
 R (.returned (.slice none 0 0)) w2) (
 alE (.cells #[] 28) w1 fun r5 w3 =>
 ∃ l7 : SV, ∃ w4, (Builtin.append_ #[75, 75] 75 #[.slice (some ⟨r5, 0, none⟩) 0 0, .slice l0.a l0.len l0.cap]).run prog w3 = .ok (.slice l7.a l7.len l7.cap) w4 /\
 zQd prog ds w4 fun w5 =>
 R (.returned (.slice l7.a l7.len l7.cap)) w5)
theorem F141_p : Pl prog f141 [lS 0] yVf := fun R =>
 lf
theorem yQT (l0 : SV) (w : World) (R : Rt) (h : yVf R l0 [] w) : Calls prog 141 #[.slice l0.a l0.len l0.cap] w R :=
 plC F141_p func141 h
def F14_1 (R : Rt) (p0 : Option Addr) (n1 n2 : Int) (ds : Ds) (w : World) : Prop :=
 Calls prog 47 #[.pointer p0, .int .i64 n1] w fun e w1 =>
 ∃ p13_0 : Option Addr, ∃ v13_1 : Value, ∃ n13_2 : Int, e = .returned (.tuple #[.pointer p13_0, v13_1, .int .i64 n13_2]) /\
 fnE v13_1 fun fx firstx capx =>
 Br (n13_2 != 0) (
 zQd prog ({ target := .fn (.func fx) capx, args := (firstx.toList ++ ([] : List Value)).toArray } :: ds) w1 fun w2 =>
 R (.returned (.int .i64 n13_2)) w2) (
 Br (decide (n2 < 0)) (
 zQd prog ({ target := .fn (.func fx) capx, args := (firstx.toList ++ ([] : List Value)).toArray } :: ds) w1 fun w3 =>
 R (.returned (.int .i64 1)) w3) (
 Br (decide (n2 > 4)) (
 zQd prog ({ target := .fn (.func fx) capx, args := (firstx.toList ++ ([] : List Value)).toArray } :: ds) w1 fun w4 =>
 R (.returned (.int .i64 1)) w4) (
 Calls prog 48 #[.pointer p13_0] w1 fun e w5 =>
 ∃ b31 : Bool, e = .returned (.bool b31) /\
 Br (!b31) (
 zQd prog ({ target := .fn (.func fx) capx, args := (firstx.toList ++ ([] : List Value)).toArray } :: ds) w5 fun w6 =>
 R (.returned (.int .i64 9)) w6) (
 zQp p13_0 fun a7 =>
 st1 a7 (.int .i64 n2) w5 fun w8 =>
 zQd prog ({ target := .fn (.func fx) capx, args := (firstx.toList ++ ([] : List Value)).toArray } :: ds) w8 fun w9 =>
 R (.returned (.int .i64 0)) w9))))
theorem F14_p : Pl prog f14 [pS 0, iS 1, iS 2] F14_1 := fun R =>
 lf
theorem yXX (p0 : Option Addr) (n1 n2 : Int) (w : World) (R : Rt) (h : F14_1 R p0 n1 n2 [] w) : Calls prog 14 #[.pointer p0, .int .i64 n1, .int .i64 n2] w R :=
 plC F14_p func14 h
def F48_1 (R : Rt) (p0 : Option Addr) (ds : Ds) (w : World) : Prop :=
 zQp p0 fun a1 =>
 ∃ m6, w.cell? (a1.add 2) = some (.map m6) /\
 ∃ n7 : Int, ∃ w2, (Builtin.len_ #[88] 3 #[.map m6]).run prog w = .ok (.int .i64 n7) w2 /\
 Br (n7 == 0) (
 zQp p0 fun a3 =>
 ∃ l13 : SV, w2.cell? (a3.add 3) = some (.slice l13.a l13.len l13.cap) /\
 zQd prog ds w2 fun w4 =>
 R (.returned (.bool ((l13.len : Int) == 0))) w4) (
 zQd prog ds w2 fun w5 =>
 R (.returned (.bool false)) w5)
theorem F48_p : Pl prog f48 [pS 0] F48_1 := fun R =>
 lf
theorem yJO (p0 : Option Addr) (w : World) (R : Rt) (h : F48_1 R p0 [] w) : Calls prog 48 #[.pointer p0] w R :=
 plC F48_p func48 h
def yW9 (R : Rt) (p0 : Option Addr) (ds : Ds) (w : World) : Prop :=
 zQp p0 fun a1 =>
 ∃ n6, w.cell? a1 = some (.int .i64 n6) /\
 Br (n6 == 1) (
 zQd prog ds w fun w2 =>
 R (.returned (.bool true)) w2) (
 zQp p0 fun a3 =>
 ∃ n12, w.cell? a3 = some (.int .i64 n12) /\
 zQd prog ds w fun w4 =>
 R (.returned (.bool (n12 == 2))) w4)
theorem F103_p : Pl prog f103 [pS 0] yW9 := fun R =>
 lf
theorem yXF (p0 : Option Addr) (w : World) (R : Rt) (h : yW9 R p0 [] w) : Calls prog 103 #[.pointer p0] w R :=
 plC F103_p func103 h
def yYL (R : Rt) (p0 : Option Addr) (n2 : Int) (p6 p8 : Option Addr) (b9 : Bool) (ds : Ds) (w : World) : Prop :=
 Br b9 (
 zQp p8 fun a1 =>
 ∃ b55_0, w.cell? ((a1.add 2).add 0) = some (.bool b55_0) /\
 ∃ l55_1 : SV, w.cell? ((a1.add 2).add 1) = some (.slice l55_1.a l55_1.len l55_1.cap) /\
 zQp p6 fun a2 =>
 stA prog 77 a2 #[.bool b55_0, .slice l55_1.a l55_1.len l55_1.cap] w fun w3 =>
 zQd prog ds w3 fun w4 =>
 zQp p6 fun a5 =>
 ∃ bR0_0, w4.cell? (a5.add 0) = some (.bool bR0_0) /\
 ∃ lR0_1 : SV, w4.cell? (a5.add 1) = some (.slice lR0_1.a lR0_1.len lR0_1.cap) /\
 R (.returned (.tuple #[.agg #[.bool bR0_0, .slice lR0_1.a lR0_1.len lR0_1.cap], .bool true])) w4) (
 zQp p0 fun a6 =>
 ∃ l60 : SV, w.cell? ((a6.add 2).add 2) = some (.slice l60.a l60.len l60.cap) /\
 ∃ a7, l60.a = some a7 /\ 0 <= (IntKind.i64.wrap (n2 - 1)) /\ (IntKind.i64.wrap (n2 - 1)) < (l60.len : Int) /\
 ∃ b64_0, w.cell? ((a7.add ((IntKind.i64.wrap (n2 - 1)).toNat * 2)).add 0) = some (.bool b64_0) /\
 ∃ l64_1 : SV, w.cell? ((a7.add ((IntKind.i64.wrap (n2 - 1)).toNat * 2)).add 1) = some (.slice l64_1.a l64_1.len l64_1.cap) /\
 zQp p6 fun a8 =>
 stA prog 77 a8 #[.bool b64_0, .slice l64_1.a l64_1.len l64_1.cap] w fun w9 =>
 zQd prog ds w9 fun w10 =>
 zQp p6 fun a11 =>
 ∃ bR0_0, w10.cell? (a11.add 0) = some (.bool bR0_0) /\
 ∃ lR0_1 : SV, w10.cell? (a11.add 1) = some (.slice lR0_1.a lR0_1.len lR0_1.cap) /\
 R (.returned (.tuple #[.agg #[.bool bR0_0, .slice lR0_1.a lR0_1.len lR0_1.cap], .bool true])) w10)
def F49_2 (R : Rt) (p0 p1 : Option Addr) (n2 : Int) (ds : Ds) (w : World) : Prop :=
 alE (.cells #[.bool false, .slice none 0 0] 77) w fun r6 w12 =>
 Br (decide (n2 < 0)) (
 zQp p1 fun a13 =>
 ∃ l17 : SV, w12.cell? (a13.add 3) = some (.slice l17.a l17.len l17.cap) /\
 Br (decide (n2 >= (IntKind.i64.wrap (0 - (l17.len : Int))))) (
 zQp p1 fun a14 =>
 ∃ l25 : SV, w12.cell? (a14.add 3) = some (.slice l25.a l25.len l25.cap) /\
 ∃ a15, l25.a = some a15 /\ 0 <= (IntKind.i64.wrap ((IntKind.i64.wrap (0 - n2)) - 1)) /\ (IntKind.i64.wrap ((IntKind.i64.wrap (0 - n2)) - 1)) < (l25.len : Int) /\
 ∃ b30_0, w12.cell? ((a15.add ((IntKind.i64.wrap ((IntKind.i64.wrap (0 - n2)) - 1)).toNat * 2)).add 0) = some (.bool b30_0) /\
 ∃ l30_1 : SV, w12.cell? ((a15.add ((IntKind.i64.wrap ((IntKind.i64.wrap (0 - n2)) - 1)).toNat * 2)).add 1) = some (.slice l30_1.a l30_1.len l30_1.cap) /\
 stA prog 77 (⟨r6, 0, none⟩ : Addr) #[.bool b30_0, .slice l30_1.a l30_1.len l30_1.cap] w12 fun w16 =>
 zQd prog ds w16 fun w17 =>
 ∃ bR0_0, w17.cell? ((⟨r6, 0, none⟩ : Addr).add 0) = some (.bool bR0_0) /\
 ∃ lR0_1 : SV, w17.cell? ((⟨r6, 0, none⟩ : Addr).add 1) = some (.slice lR0_1.a lR0_1.len lR0_1.cap) /\
 R (.returned (.tuple #[.agg #[.bool bR0_0, .slice lR0_1.a lR0_1.len lR0_1.cap], .bool true])) w17) (
 Br (decide (n2 < 1)) (
 stA prog 77 (⟨r6, 0, none⟩ : Addr) #[.bool false, .slice none 0 0] w12 fun w18 =>
 zQd prog ds w18 fun w19 =>
 ∃ bR0_0, w19.cell? ((⟨r6, 0, none⟩ : Addr).add 0) = some (.bool bR0_0) /\
 ∃ lR0_1 : SV, w19.cell? ((⟨r6, 0, none⟩ : Addr).add 1) = some (.slice lR0_1.a lR0_1.len lR0_1.cap) /\
 R (.returned (.tuple #[.agg #[.bool bR0_0, .slice lR0_1.a lR0_1.len lR0_1.cap], .bool false])) w19) (
 zQp p0 fun a20 =>
 ∃ l39 : SV, w12.cell? ((a20.add 2).add 2) = some (.slice l39.a l39.len l39.cap) /\
 Br (decide (n2 > (l39.len : Int))) (
 stA prog 77 (⟨r6, 0, none⟩ : Addr) #[.bool false, .slice none 0 0] w12 fun w21 =>
 zQd prog ds w21 fun w22 =>
 ∃ bR0_0, w22.cell? ((⟨r6, 0, none⟩ : Addr).add 0) = some (.bool bR0_0) /\
 ∃ lR0_1 : SV, w22.cell? ((⟨r6, 0, none⟩ : Addr).add 1) = some (.slice lR0_1.a lR0_1.len lR0_1.cap) /\
 R (.returned (.tuple #[.agg #[.bool bR0_0, .slice lR0_1.a lR0_1.len lR0_1.cap], .bool false])) w22) (
 zQp p1 fun a23 =>
 ∃ m48, w12.cell? (a23.add 2) = some (.map m48) /\
 ∃ b50_0_0 : Bool, ∃ l50_0_1 : SV, ∃ b50_0_2 : Bool, ∃ l50_0_3 : SV, ∃ b50_1 : Bool, ∃ w24, (Instr.lookup 88 (.map m48) (.int .i64 n2) true).run prog w12 = .ok (.tuple #[.agg #[.bool b50_0_0, .slice l50_0_1.a l50_0_1.len l50_0_1.cap, .bool b50_0_2, .slice l50_0_3.a l50_0_3.len l50_0_3.cap], .bool b50_1]) w24 /\
 alE (.cells #[.bool false, .slice none 0 0, .bool false, .slice none 0 0] 133) w24 fun r8 w25 =>
 stA prog 133 (⟨r8, 0, none⟩ : Addr) #[.bool b50_0_0, .slice l50_0_1.a l50_0_1.len l50_0_1.cap, .bool b50_0_2, .slice l50_0_3.a l50_0_3.len l50_0_3.cap] w25 fun w26 =>
 yYL R p0 n2 (some (⟨r6, 0, none⟩ : Addr)) (some (⟨r8, 0, none⟩ : Addr)) b50_1 ds w26)))) (
 Br (decide (n2 < 1)) (
 stA prog 77 (⟨r6, 0, none⟩ : Addr) #[.bool false, .slice none 0 0] w12 fun w27 =>
 zQd prog ds w27 fun w28 =>
 ∃ bR0_0, w28.cell? ((⟨r6, 0, none⟩ : Addr).add 0) = some (.bool bR0_0) /\
 ∃ lR0_1 : SV, w28.cell? ((⟨r6, 0, none⟩ : Addr).add 1) = some (.slice lR0_1.a lR0_1.len lR0_1.cap) /\
 R (.returned (.tuple #[.agg #[.bool bR0_0, .slice lR0_1.a lR0_1.len lR0_1.cap], .bool false])) w28) (
 zQp p0 fun a29 =>
 ∃ l39 : SV, w12.cell? ((a29.add 2).add 2) = some (.slice l39.a l39.len l39.cap) /\
 Br (decide (n2 > (l39.len : Int))) (
 stA prog 77 (⟨r6, 0, none⟩ : Addr) #[.bool false, .slice none 0 0] w12 fun w30 =>
 zQd prog ds w30 fun w31 =>
 ∃ bR0_0, w31.cell? ((⟨r6, 0, none⟩ : Addr).add 0) = some (.bool bR0_0) /\
 ∃ lR0_1 : SV, w31.cell? ((⟨r6, 0, none⟩ : Addr).add 1) = some (.slice lR0_1.a lR0_1.len lR0_1.cap) /\
 R (.returned (.tuple #[.agg #[.bool bR0_0, .slice lR0_1.a lR0_1.len lR0_1.cap], .bool false])) w31) (
 zQp p1 fun a32 =>
 ∃ m48, w12.cell? (a32.add 2) = some (.map m48) /\
 ∃ b50_0_0 : Bool, ∃ l50_0_1 : SV, ∃ b50_0_2 : Bool, ∃ l50_0_3 : SV, ∃ b50_1 : Bool, ∃ w33, (Instr.lookup 88 (.map m48) (.int .i64 n2) true).run prog w12 = .ok (.tuple #[.agg #[.bool b50_0_0, .slice l50_0_1.a l50_0_1.len l50_0_1.cap, .bool b50_0_2, .slice l50_0_3.a l50_0_3.len l50_0_3.cap], .bool b50_1]) w33 /\
 alE (.cells #[.bool false, .slice none 0 0, .bool false, .slice none 0 0] 133) w33 fun r8 w34 =>
 stA prog 133 (⟨r8, 0, none⟩ : Addr) #[.bool b50_0_0, .slice l50_0_1.a l50_0_1.len l50_0_1.cap, .bool b50_0_2, .slice l50_0_3.a l50_0_3.len l50_0_3.cap] w34 fun w35 =>
 yYL R p0 n2 (some (⟨r6, 0, none⟩ : Addr)) (some (⟨r8, 0, none⟩ : Addr)) b50_1 ds w35)))
theorem F49_p : Pl prog f49 [pS 0, pS 1, iS 2] F49_2 := fun R =>
 pc 6 (zQ1 [pS 0, iS 2, pS 6, pS 8, bS 9] (yYL R) lf)
theorem yZg (p0 p1 : Option Addr) (n2 : Int) (w : World) (R : Rt) (h : F49_2 R p0 p1 n2 [] w) : Calls prog 49 #[.pointer p0, .pointer p1, .int .i64 n2] w R :=
 plC F49_p func49 h
def F15_1 (R : Rt) (p0 : Option Addr) (n1 n2 : Int) (ds : Ds) (w : World) : Prop :=
 Calls prog 47 #[.pointer p0, .int .i64 n1] w fun e w1 =>
 ∃ p16_0 : Option Addr, ∃ v16_1 : Value, ∃ n16_2 : Int, e = .returned (.tuple #[.pointer p16_0, v16_1, .int .i64 n16_2]) /\
 fnE v16_1 fun fx firstx capx =>
 Br (n16_2 != 0) (
 zQd prog ({ target := .fn (.func fx) capx, args := (firstx.toList ++ ([] : List Value)).toArray } :: ds) w1 fun w2 =>
 R (.returned (.int .i64 n16_2)) w2) (
 Calls prog 49 #[.pointer p0, .pointer p16_0, .int .i64 n2] w1 fun e w3 =>
 ∃ b28_0_0 : Bool, ∃ l28_0_1 : SV, ∃ b28_1 : Bool, e = .returned (.tuple #[.agg #[.bool b28_0_0, .slice l28_0_1.a l28_0_1.len l28_0_1.cap], .bool b28_1]) /\
 alE (.cells #[.bool false, .slice none 0 0] 77) w3 fun r10 w4 =>
 stA prog 77 (⟨r10, 0, none⟩ : Addr) #[.bool b28_0_0, .slice l28_0_1.a l28_0_1.len l28_0_1.cap] w4 fun w5 =>
 Br (!b28_1) (
 zQd prog ({ target := .fn (.func fx) capx, args := (firstx.toList ++ ([] : List Value)).toArray } :: ds) w5 fun w6 =>
 R (.returned (.int .i64 4)) w6) (
 zQp p16_0 fun a7 =>
 ∃ n37, w5.cell? (a7.add 1) = some (.int .i64 n37) /\
 Br (n2 != n37) (
 Calls prog 50 #[.pointer p0, .int .i64 n1, .pointer p16_0] w5 fun e w8 =>
 ∃ n42 : Int, e = .returned (.int .i64 n42) /\
 Br (n42 != 0) (
 zQd prog ({ target := .fn (.func fx) capx, args := (firstx.toList ++ ([] : List Value)).toArray } :: ds) w8 fun w9 =>
 R (.returned (.int .i64 n42)) w9) (
 zQp p16_0 fun a10 =>
 st1 (a10.add 1) (.int .i64 n2) w8 fun w11 =>
 zQd prog ({ target := .fn (.func fx) capx, args := (firstx.toList ++ ([] : List Value)).toArray } :: ds) w11 fun w12 =>
 R (.returned (.int .i64 0)) w12)) (
 zQp p16_0 fun a13 =>
 st1 (a13.add 1) (.int .i64 n2) w5 fun w14 =>
 zQd prog ({ target := .fn (.func fx) capx, args := (firstx.toList ++ ([] : List Value)).toArray } :: ds) w14 fun w15 =>
 R (.returned (.int .i64 0)) w15)))
theorem F15_p : Pl prog f15 [pS 0, iS 1, iS 2] F15_1 := fun R =>
 lf
theorem yJ5 (p0 : Option Addr) (n1 n2 : Int) (w : World) (R : Rt) (h : F15_1 R p0 n1 n2 [] w) : Calls prog 15 #[.pointer p0, .int .i64 n1, .int .i64 n2] w R :=
 plC F15_p func15 h
def F50_1 (R : Rt) (p0 : Option Addr) (n1 : Int) (p2 : Option Addr) (ds : Ds) (w : World) : Prop :=
 Calls prog 103 #[.pointer p2] w fun e w1 =>
 ∃ b10 : Bool, e = .returned (.bool b10) /\
 Br (!b10) (
 zQd prog ds w1 fun w2 =>
 R (.returned (.int .i64 0)) w2) (
 Calls prog 48 #[.pointer p2] w1 fun e w3 =>
 ∃ b14 : Bool, e = .returned (.bool b14) /\
 Br b14 (
 zQd prog ds w3 fun w4 =>
 R (.returned (.int .i64 0)) w4) (
 Calls prog 55 #[.pointer p0, .int .i64 n1, .pointer p2, .bool false] w3 fun e w5 =>
 ∃ l20_0 : SV, ∃ n20_1 : Int, e = .returned (.tuple #[.slice l20_0.a l20_0.len l20_0.cap, .int .i64 n20_1]) /\
 zQd prog ds w5 fun w6 =>
 R (.returned (.int .i64 n20_1)) w6))
theorem F50_p : Pl prog f50 [pS 0, iS 1, pS 2] F50_1 := fun R =>
 lf
theorem yXW (p0 : Option Addr) (n1 : Int) (p2 : Option Addr) (w : World) (R : Rt) (h : F50_1 R p0 n1 p2 [] w) : Calls prog 50 #[.pointer p0, .int .i64 n1, .pointer p2] w R :=
 plC F50_p func50 h
end Go.Proofs.YtcihcbfcgjepfaaGreatDoor
/- Shallow texts of functions, printed by program, each checked by the kernel against the loaded code. No condition. -/
namespace Go.Proofs.YtcihcbfcgjepfaaGreatDoor
open Go.Sh Tryz
def F39_1 (R : Rt) (l0 : SV) (ds : Ds) (w : World) : Prop :=
 ∃ b4 : Bool, ∃ w1, (eqS .eql 22 (.tmp 3) (.const (.slice none 0 0)) (.slice l0.a l0.len l0.cap) (.slice none 0 0)).run prog w = .ok (.bool b4) w1 /\
 Br b4 (
 zQd prog ds w1 fun w2 =>
 R (.returned (.slice none 0 0)) w2) (
 alE (.cells #[] 38) w1 fun r5 w3 =>
 ∃ l7 : SV, ∃ w4, (Builtin.append_ #[22, 22] 22 #[.slice (some ⟨r5, 0, none⟩) 0 0, .slice l0.a l0.len l0.cap]).run prog w3 = .ok (.slice l7.a l7.len l7.cap) w4 /\
 zQd prog ds w4 fun w5 =>
 R (.returned (.slice l7.a l7.len l7.cap)) w5)
theorem F39_p : Pl prog f39 [lS 0] F39_1 := fun R =>
 lf
theorem yJM (l0 : SV) (w : World) (R : Rt) (h : F39_1 R l0 [] w) : Calls prog 39 #[.slice l0.a l0.len l0.cap] w R :=
 plC F39_p func39 h
end Go.Proofs.YtcihcbfcgjepfaaGreatDoor
/- Shallow texts of functions, printed by program, each checked by the kernel against the loaded code. No condition. -/
namespace Go.Proofs.YtcihcbfcgjepfaaGreatDoor
open Go.Sh Tryz
def yVB (R : Rt) (p0 : Option Addr) (n1 : Int) (p2 : Option Addr) (n3 n9 : Int) (b10 : Bool) (ds : Ds) (w : World) : Prop :=
 Br b10 (
 Br (n9 != n1) (
 zQd prog ds w fun w1 =>
 R (.returned (.int .i64 12)) w1) (
 zQp p2 fun a2 =>
 ∃ n45, w.cell? a2 = some (.int .i64 n45) /\
 Br (n45 != 0) (
 zQp p0 fun a3 =>
 ∃ m50, w.cell? (a3.add 21) = some (.map m50) /\
 doE prog (Instr.mapUpdate 80 (.map m50) (.int .i64 n3) (.int .i64 n1)) w fun w4 =>
 zQd prog ds w4 fun w5 =>
 R (.returned (.int .i64 0)) w5) (
 zQd prog ds w fun w6 =>
 R (.returned (.int .i64 0)) w6))) (
 zQp p2 fun a7 =>
 ∃ n45, w.cell? a7 = some (.int .i64 n45) /\
 Br (n45 != 0) (
 zQp p0 fun a8 =>
 ∃ m50, w.cell? (a8.add 21) = some (.map m50) /\
 doE prog (Instr.mapUpdate 80 (.map m50) (.int .i64 n3) (.int .i64 n1)) w fun w9 =>
 zQd prog ds w9 fun w10 =>
 R (.returned (.int .i64 0)) w10) (
 zQd prog ds w fun w11 =>
 R (.returned (.int .i64 0)) w11))
def yW3 (R : Rt) (p0 : Option Addr) (n1 : Int) (p2 : Option Addr) (n3 : Int) (ds : Ds) (w : World) : Prop :=
 zQp p2 fun a12 =>
 ∃ n14, w.cell? a12 = some (.int .i64 n14) /\
 Br (n14 == 2) (
 zQd prog ds w fun w13 =>
 R (.returned (.int .i64 0)) w13) (
 zQp p2 fun a14 =>
 ∃ n20, w.cell? a14 = some (.int .i64 n20) /\
 Br (n20 == 4) (
 zQd prog ds w fun w15 =>
 R (.returned (.int .i64 0)) w15) (
 Br (decide (n3 < 0)) (
 zQd prog ds w fun w16 =>
 R (.returned (.int .i64 0)) w16) (
 zQp p0 fun a17 =>
 ∃ m31, w.cell? (a17.add 21) = some (.map m31) /\
 ∃ n33_0 : Int, ∃ b33_1 : Bool, ∃ w18, (Instr.lookup 80 (.map m31) (.int .i64 n3) true).run prog w = .ok (.tuple #[.int .i64 n33_0, .bool b33_1]) w18 /\
 yVB R p0 n1 p2 n3 n33_0 b33_1 ds w18)))
theorem F113_p : Pl prog f113 [pS 0, iS 1, pS 2, iS 3] yW3 := fun R =>
 pc 4 (zQ1 [pS 0, iS 1, pS 2, iS 3, iS 9, bS 10] (yVB R) lf)
theorem yXb (p0 : Option Addr) (n1 : Int) (p2 : Option Addr) (n3 : Int) (w : World) (R : Rt) (h : yW3 R p0 n1 p2 n3 [] w) : Calls prog 113 #[.pointer p0, .int .i64 n1, .pointer p2, .int .i64 n3] w R :=
 plC F113_p func113 h
def F53_1 (R : Rt) (p0 : Option Addr) (n1 : Int) (p2 : Option Addr) (v3 : Value) (ds : Ds) (w : World) : Prop :=
 zQp p2 fun a1 =>
 ∃ n18, w.cell? (a1.add 1) = some (.int .i64 n18) /\
 Calls prog 113 #[.pointer p0, .int .i64 n1, .pointer p2, .int .i64 n18] w fun e w2 =>
 ∃ n19 : Int, e = .returned (.int .i64 n19) /\
 Br (n19 != 0) (
 zQd prog ds w2 fun w3 =>
 R (.returned (.int .i64 n19)) w3) (
 zQp p2 fun a4 =>
 ∃ n80, w2.cell? (a4.add 1) = some (.int .i64 n80) /\
 Br (decide (n80 < 0)) (
 dwE w2 fun w5 =>
 zQp p2 fun a6 =>
 ∃ l86 : SV, w5.cell? (a6.add 3) = some (.slice l86.a l86.len l86.cap) /\
 zQp p2 fun a7 =>
 ∃ n90, w5.cell? (a7.add 1) = some (.int .i64 n90) /\
 ∃ a8, l86.a = some a8 /\ 0 <= (IntKind.i64.wrap ((IntKind.i64.wrap (0 - n90)) - 1)) /\ (IntKind.i64.wrap ((IntKind.i64.wrap (0 - n90)) - 1)) < (l86.len : Int) /\
 fnE v3 fun f94 first94 cap94 =>
 zXv prog f94 = true /\ Calls prog f94 (first94.toList ++ (([.pointer (some (a8.add ((IntKind.i64.wrap ((IntKind.i64.wrap (0 - n90)) - 1)).toNat * 2)))] : List Value) ++ cap94.toList)).toArray w5 fun e w9 =>
 e = .returned (.tuple #[]) /\
 zQd prog ds w9 fun w10 =>
 R (.returned (.int .i64 0)) w10) (
 zQp p2 fun a11 =>
 ∃ n99, w2.cell? a11 = some (.int .i64 n99) /\
 Br (n99 == 0) (
 dwE w2 fun w12 =>
 zQp p0 fun a13 =>
 ∃ l106 : SV, w12.cell? ((a13.add 2).add 2) = some (.slice l106.a l106.len l106.cap) /\
 zQp p2 fun a14 =>
 ∃ n110, w12.cell? (a14.add 1) = some (.int .i64 n110) /\
 ∃ a15, l106.a = some a15 /\ 0 <= (IntKind.i64.wrap (n110 - 1)) /\ (IntKind.i64.wrap (n110 - 1)) < (l106.len : Int) /\
 fnE v3 fun f113 first113 cap113 =>
 zXv prog f113 = true /\ Calls prog f113 (first113.toList ++ (([.pointer (some (a15.add ((IntKind.i64.wrap (n110 - 1)).toNat * 2)))] : List Value) ++ cap113.toList)).toArray w12 fun e w16 =>
 e = .returned (.tuple #[]) /\
 zQd prog ds w16 fun w17 =>
 R (.returned (.int .i64 0)) w17) (
 dwE w2 fun w18 =>
 ∃ S3 : World -> Prop, S3 w18 /\
 zQp p2 fun a19 =>
 ∃ m27, (∀ w', S3 w' -> w'.cell? (a19.add 2) = some (.map m27)) /\
 zQp p2 fun a20 =>
 ∃ n31, (∀ w', S3 w' -> w'.cell? (a20.add 1) = some (.int .i64 n31)) /\
 ∃ b32_0_0 : Bool, ∃ l32_0_1 : SV, ∃ b32_0_2 : Bool, ∃ l32_0_3 : SV, ∃ b32_1 : Bool, (∀ w', S3 w' -> (Instr.lookup 88 (.map m27) (.int .i64 n31) true).run prog w' = .ok (.tuple #[.agg #[.bool b32_0_0, .slice l32_0_1.a l32_0_1.len l32_0_1.cap, .bool b32_0_2, .slice l32_0_3.a l32_0_3.len l32_0_3.cap], .bool b32_1]) w') /\
 alE (.cells #[.bool false, .slice none 0 0, .bool false, .slice none 0 0] 133) w18 fun r10 w21 =>
 S3 w21 /\
 stA prog 133 (⟨r10, 0, none⟩ : Addr) #[.bool b32_0_0, .slice l32_0_1.a l32_0_1.len l32_0_1.cap, .bool b32_0_2, .slice l32_0_3.a l32_0_3.len l32_0_3.cap] w21 fun w22 =>
 Br (!b32_1) (
 dwE w22 fun w23 =>
 ∃ S4 : World -> Prop, S4 w23 /\
 zQp p0 fun a24 =>
 ∃ l41 : SV, (∀ w', S4 w' -> w'.cell? ((a24.add 2).add 2) = some (.slice l41.a l41.len l41.cap)) /\
 zQp p2 fun a25 =>
 ∃ n45, (∀ w', S4 w' -> w'.cell? (a25.add 1) = some (.int .i64 n45)) /\
 ∃ a26, l41.a = some a26 /\ 0 <= (IntKind.i64.wrap (n45 - 1)) /\ (IntKind.i64.wrap (n45 - 1)) < (l41.len : Int) /\
 ∃ b48_0, (∀ w', S4 w' -> w'.cell? ((a26.add ((IntKind.i64.wrap (n45 - 1)).toNat * 2)).add 0) = some (.bool b48_0)) /\
 ∃ l48_1 : SV, (∀ w', S4 w' -> w'.cell? ((a26.add ((IntKind.i64.wrap (n45 - 1)).toNat * 2)).add 1) = some (.slice l48_1.a l48_1.len l48_1.cap)) /\
 zQp p0 fun a27 =>
 ∃ l54 : SV, (∀ w', S4 w' -> w'.cell? ((a27.add 2).add 2) = some (.slice l54.a l54.len l54.cap)) /\
 zQp p2 fun a28 =>
 ∃ n58, (∀ w', S4 w' -> w'.cell? (a28.add 1) = some (.int .i64 n58)) /\
 ∃ a29, l54.a = some a29 /\ 0 <= (IntKind.i64.wrap (n58 - 1)) /\ (IntKind.i64.wrap (n58 - 1)) < (l54.len : Int) /\
 ∃ b61_0, (∀ w', S4 w' -> w'.cell? ((a29.add ((IntKind.i64.wrap (n58 - 1)).toNat * 2)).add 0) = some (.bool b61_0)) /\
 ∃ l61_1 : SV, (∀ w', S4 w' -> w'.cell? ((a29.add ((IntKind.i64.wrap (n58 - 1)).toNat * 2)).add 1) = some (.slice l61_1.a l61_1.len l61_1.cap)) /\
 Calls prog 88 #[.agg #[.bool b48_0, .slice l48_1.a l48_1.len l48_1.cap]] w23 fun e w30 =>
 ∃ b49_0 : Bool, ∃ l49_1 : SV, e = .returned (.agg #[.bool b49_0, .slice l49_1.a l49_1.len l49_1.cap]) /\
 S4 w30 /\
 Calls prog 88 #[.agg #[.bool b61_0, .slice l61_1.a l61_1.len l61_1.cap]] w30 fun e w31 =>
 ∃ b62_0 : Bool, ∃ l62_1 : SV, e = .returned (.agg #[.bool b62_0, .slice l62_1.a l62_1.len l62_1.cap]) /\
 stA prog 133 (⟨r10, 0, none⟩ : Addr) #[.bool b49_0, .slice l49_1.a l49_1.len l49_1.cap, .bool b62_0, .slice l62_1.a l62_1.len l62_1.cap] w31 fun w32 =>
 fnE v3 fun f66 first66 cap66 =>
 zXv prog f66 = true /\ Calls prog f66 (first66.toList ++ (([.pointer (some ((⟨r10, 0, none⟩ : Addr).add 2))] : List Value) ++ cap66.toList)).toArray w32 fun e w33 =>
 e = .returned (.tuple #[]) /\
 dwE w33 fun w34 =>
 zQp p2 fun a35 =>
 ∃ m70, w34.cell? (a35.add 2) = some (.map m70) /\
 zQp p2 fun a36 =>
 ∃ n74, w34.cell? (a36.add 1) = some (.int .i64 n74) /\
 ∃ b75_0, w34.cell? ((⟨r10, 0, none⟩ : Addr).add 0) = some (.bool b75_0) /\
 ∃ l75_1 : SV, w34.cell? ((⟨r10, 0, none⟩ : Addr).add 1) = some (.slice l75_1.a l75_1.len l75_1.cap) /\
 ∃ b75_2, w34.cell? ((⟨r10, 0, none⟩ : Addr).add 2) = some (.bool b75_2) /\
 ∃ l75_3 : SV, w34.cell? ((⟨r10, 0, none⟩ : Addr).add 3) = some (.slice l75_3.a l75_3.len l75_3.cap) /\
 doE prog (Instr.mapUpdate 88 (.map m70) (.int .i64 n74) (.agg #[.bool b75_0, .slice l75_1.a l75_1.len l75_1.cap, .bool b75_2, .slice l75_3.a l75_3.len l75_3.cap])) w34 fun w37 =>
 zQd prog ds w37 fun w38 =>
 R (.returned (.int .i64 0)) w38) (
 fnE v3 fun f66 first66 cap66 =>
 zXv prog f66 = true /\ Calls prog f66 (first66.toList ++ (([.pointer (some ((⟨r10, 0, none⟩ : Addr).add 2))] : List Value) ++ cap66.toList)).toArray w22 fun e w39 =>
 e = .returned (.tuple #[]) /\
 dwE w39 fun w40 =>
 zQp p2 fun a41 =>
 ∃ m70, w40.cell? (a41.add 2) = some (.map m70) /\
 zQp p2 fun a42 =>
 ∃ n74, w40.cell? (a42.add 1) = some (.int .i64 n74) /\
 ∃ b75_0, w40.cell? ((⟨r10, 0, none⟩ : Addr).add 0) = some (.bool b75_0) /\
 ∃ l75_1 : SV, w40.cell? ((⟨r10, 0, none⟩ : Addr).add 1) = some (.slice l75_1.a l75_1.len l75_1.cap) /\
 ∃ b75_2, w40.cell? ((⟨r10, 0, none⟩ : Addr).add 2) = some (.bool b75_2) /\
 ∃ l75_3 : SV, w40.cell? ((⟨r10, 0, none⟩ : Addr).add 3) = some (.slice l75_3.a l75_3.len l75_3.cap) /\
 doE prog (Instr.mapUpdate 88 (.map m70) (.int .i64 n74) (.agg #[.bool b75_0, .slice l75_1.a l75_1.len l75_1.cap, .bool b75_2, .slice l75_3.a l75_3.len l75_3.cap])) w40 fun w43 =>
 zQd prog ds w43 fun w44 =>
 R (.returned (.int .i64 0)) w44))))
theorem F53_p : Pl prog f53 [pS 0, iS 1, pS 2, vS 3] F53_1 := fun R =>
 lf
theorem yKd (p0 : Option Addr) (n1 : Int) (p2 : Option Addr) (v3 : Value) (w : World) (R : Rt) (h : F53_1 R p0 n1 p2 v3 [] w) : Calls prog 53 #[.pointer p0, .int .i64 n1, .pointer p2, v3] w R :=
 plC F53_p func53 h
def F16_1 (R : Rt) (p0 : Option Addr) (n1 : Int) (s2 : ByteArray) (n3_0 n3_1 : Int) (s3_2 : ByteArray) (ds : Ds) (w : World) : Prop :=
 alE (.cells #[.int .i64 n3_0, .int .i64 n3_1, .string s3_2] 28) w fun r7 w1 =>
 Calls prog 47 #[.pointer p0, .int .i64 n1] w1 fun e w2 =>
 ∃ p17_0 : Option Addr, ∃ v17_1 : Value, ∃ n17_2 : Int, e = .returned (.tuple #[.pointer p17_0, v17_1, .int .i64 n17_2]) /\
 fnE v17_1 fun fx firstx capx =>
 Br (n17_2 != 0) (
 zQd prog ({ target := .fn (.func fx) capx, args := (firstx.toList ++ ([] : List Value)).toArray } :: ds) w2 fun w3 =>
 R (.returned (.int .i64 n17_2)) w3) (
 zQp p17_0 fun a4 =>
 ∃ n28, w2.cell? (a4.add 1) = some (.int .i64 n28) /\
 Br (n28 == 0) (
 zQd prog ({ target := .fn (.func fx) capx, args := (firstx.toList ++ ([] : List Value)).toArray } :: ds) w2 fun w5 =>
 R (.returned (.int .i64 9)) w5) (
 zQp p0 fun a6 =>
 ∃ l35 : SV, w2.cell? ((a6.add 2).add 1) = some (.slice l35.a l35.len l35.cap) /\
 Calls prog 51 #[.slice l35.a l35.len l35.cap, .string s2] w2 fun e w7 =>
 ∃ n37_0 : Int, ∃ b37_1 : Bool, e = .returned (.tuple #[.int .i64 n37_0, .bool b37_1]) /\
 alE (.cells #[.int .i64 0] 3) w7 fun r12 w8 =>
 st1 (⟨r12, 0, none⟩ : Addr) (.int .i64 n37_0) w8 fun w9 =>
 Br (!b37_1) (
 zQd prog ({ target := .fn (.func fx) capx, args := (firstx.toList ++ ([] : List Value)).toArray } :: ds) w9 fun w10 =>
 R (.returned (.int .i64 4)) w10) (
 dwE w9 fun w11 =>
 zQp p0 fun a12 =>
 ∃ l47 : SV, w11.cell? ((a12.add 2).add 1) = some (.slice l47.a l47.len l47.cap) /\
 ∃ n48, w11.cell? (⟨r12, 0, none⟩ : Addr) = some (.int .i64 n48) /\
 ∃ a13, l47.a = some a13 /\ 0 <= n48 /\ n48 < (l47.len : Int) /\
 ∃ s50_0, w11.cell? ((a13.add (n48.toNat * 4)).add 0) = some (.string s50_0) /\
 ∃ n50_1, w11.cell? ((a13.add (n48.toNat * 4)).add 1) = some (.int .i64 n50_1) /\
 ∃ n50_2, w11.cell? ((a13.add (n48.toNat * 4)).add 2) = some (.int .i64 n50_2) /\
 ∃ b50_3, w11.cell? ((a13.add (n48.toNat * 4)).add 3) = some (.bool b50_3) /\
 zQp p0 fun a14 =>
 ∃ n55, w11.cell? (a14.add 2) = some (.int .i64 n55) /\
 ∃ n56_0, w11.cell? ((⟨r7, 0, none⟩ : Addr).add 0) = some (.int .i64 n56_0) /\
 ∃ n56_1, w11.cell? ((⟨r7, 0, none⟩ : Addr).add 1) = some (.int .i64 n56_1) /\
 ∃ s56_2, w11.cell? ((⟨r7, 0, none⟩ : Addr).add 2) = some (.string s56_2) /\
 Calls prog 52 #[.agg #[.string s50_0, .int .i64 n50_1, .int .i64 n50_2, .bool b50_3], .int .i64 n55, .agg #[.int .i64 n56_0, .int .i64 n56_1, .string s56_2]] w11 fun e w15 =>
 ∃ n57_0_0 : Int, ∃ n57_0_1 : Int, ∃ s57_0_2 : ByteArray, ∃ n57_1 : Int, e = .returned (.tuple #[.agg #[.int .i64 n57_0_0, .int .i64 n57_0_1, .string s57_0_2], .int .i64 n57_1]) /\
 stA prog 28 (⟨r7, 0, none⟩ : Addr) #[.int .i64 n57_0_0, .int .i64 n57_0_1, .string s57_0_2] w15 fun w16 =>
 Br (n57_1 != 0) (
 zQd prog ({ target := .fn (.func fx) capx, args := (firstx.toList ++ ([] : List Value)).toArray } :: ds) w16 fun w17 =>
 R (.returned (.int .i64 n57_1)) w17) (
 Calls prog 53 #[.pointer p0, .int .i64 n1, .pointer p17_0, .func (.func 54) #[] #[.pointer (some (⟨r7, 0, none⟩ : Addr)), .pointer (some (⟨r12, 0, none⟩ : Addr))]] w16 fun e w18 =>
 ∃ n67 : Int, e = .returned (.int .i64 n67) /\
 zQd prog ({ target := .fn (.func fx) capx, args := (firstx.toList ++ ([] : List Value)).toArray } :: ds) w18 fun w19 =>
 R (.returned (.int .i64 n67)) w19))))
theorem F16_p : Pl prog f16 [pS 0, iS 1, sS 2, aS 3 [.int .i64, .int .i64, .str]] F16_1 := fun R =>
 lf
theorem yZc (p0 : Option Addr) (n1 : Int) (s2 : ByteArray) (n3_0 n3_1 : Int) (s3_2 : ByteArray) (w : World) (R : Rt) (h : F16_1 R p0 n1 s2 n3_0 n3_1 s3_2 [] w) : Calls prog 16 #[.pointer p0, .int .i64 n1, .string s2, .agg #[.int .i64 n3_0, .int .i64 n3_1, .string s3_2]] w R :=
 plC F16_p func16 h
def F54_1 (R : Rt) (p0 : Option Addr) (v1 v2 : Value) (ds : Ds) (w : World) : Prop :=
 dwE w fun w1 =>
 zQp p0 fun a2 =>
 ∃ l7 : SV, w1.cell? (a2.add 1) = some (.slice l7.a l7.len l7.cap) /\
 zJe v2 fun a3 =>
 ∃ n8, w1.cell? a3 = some (.int .i64 n8) /\
 zJe v1 fun a4 =>
 ∃ n9_0, w1.cell? (a4.add 0) = some (.int .i64 n9_0) /\
 ∃ n9_1, w1.cell? (a4.add 1) = some (.int .i64 n9_1) /\
 ∃ s9_2, w1.cell? (a4.add 2) = some (.string s9_2) /\
 ∃ a5, l7.a = some a5 /\ 0 <= n8 /\ n8 < (l7.len : Int) /\
 stA prog 28 (a5.add (n8.toNat * 3)) #[.int .i64 n9_0, .int .i64 n9_1, .string s9_2] w1 fun w6 =>
 zQd prog ds w6 fun w7 =>
 R (.returned (.tuple #[])) w7
theorem F54_p : Pl prog f54 [pS 0, vS 1, vS 2] F54_1 := fun R =>
 lf
theorem yZI (p0 : Option Addr) (v1 v2 : Value) (w : World) (R : Rt) (h : F54_1 R p0 v1 v2 [] w) : Calls prog 54 #[.pointer p0, v1, v2] w R :=
 plC F54_p func54 h
def F20_1 (R : Rt) (p0 : Option Addr) (n1 : Int) (b2 : Bool) (ds : Ds) (w : World) : Prop :=
 alE (.cells #[.bool b2] 4) w fun r5 w1 =>
 Calls prog 47 #[.pointer p0, .int .i64 n1] w1 fun e w2 =>
 ∃ p13_0 : Option Addr, ∃ v13_1 : Value, ∃ n13_2 : Int, e = .returned (.tuple #[.pointer p13_0, v13_1, .int .i64 n13_2]) /\
 fnE v13_1 fun fx firstx capx =>
 Br (n13_2 != 0) (
 zQd prog ({ target := .fn (.func fx) capx, args := (firstx.toList ++ ([] : List Value)).toArray } :: ds) w2 fun w3 =>
 R (.returned (.int .i64 n13_2)) w3) (
 zQp p13_0 fun a4 =>
 ∃ n24, w2.cell? (a4.add 1) = some (.int .i64 n24) /\
 Br (n24 == 0) (
 zQd prog ({ target := .fn (.func fx) capx, args := (firstx.toList ++ ([] : List Value)).toArray } :: ds) w2 fun w5 =>
 R (.returned (.int .i64 9)) w5) (
 Calls prog 53 #[.pointer p0, .int .i64 n1, .pointer p13_0, .func (.func 57) #[] #[.pointer (some (⟨r5, 0, none⟩ : Addr))]] w2 fun e w6 =>
 ∃ n30 : Int, e = .returned (.int .i64 n30) /\
 zQd prog ({ target := .fn (.func fx) capx, args := (firstx.toList ++ ([] : List Value)).toArray } :: ds) w6 fun w7 =>
 R (.returned (.int .i64 n30)) w7))
theorem F20_p : Pl prog f20 [pS 0, iS 1, bS 2] F20_1 := fun R =>
 lf
theorem yZ3 (p0 : Option Addr) (n1 : Int) (b2 : Bool) (w : World) (R : Rt) (h : F20_1 R p0 n1 b2 [] w) : Calls prog 20 #[.pointer p0, .int .i64 n1, .bool b2] w R :=
 plC F20_p func20 h
def F57_1 (R : Rt) (p0 : Option Addr) (v1 : Value) (ds : Ds) (w : World) : Prop :=
 zJe v1 fun a1 =>
 ∃ b4, w.cell? a1 = some (.bool b4) /\
 zQp p0 fun a2 =>
 st1 a2 (.bool b4) w fun w3 =>
 zQd prog ds w3 fun w4 =>
 R (.returned (.tuple #[])) w4
theorem F57_p : Pl prog f57 [pS 0, vS 1] F57_1 := fun R =>
 lf
theorem yZO (p0 : Option Addr) (v1 : Value) (w : World) (R : Rt) (h : F57_1 R p0 v1 [] w) : Calls prog 57 #[.pointer p0, v1] w R :=
 plC F57_p func57 h
def F56_1 (R : Rt) (p0 : Option Addr) (b1_0 : Bool) (l1_1 : SV) (b2 : Bool) (s3 : ByteArray) (ds : Ds) (w : World) : Prop :=
 alE (.cells #[.bool b1_0, .slice l1_1.a l1_1.len l1_1.cap] 77) w fun r5 w1 =>
 alE (.cells #[.int .i64 0, .int .i64 0, .string (⟨#[]⟩ : ByteArray)] 28) w1 fun r8 w2 =>
 zQp p0 fun a3 =>
 ∃ l17 : SV, w2.cell? ((a3.add 2).add 1) = some (.slice l17.a l17.len l17.cap) /\
 Calls prog 51 #[.slice l17.a l17.len l17.cap, .string s3] w2 fun e w4 =>
 ∃ n19_0 : Int, ∃ b19_1 : Bool, e = .returned (.tuple #[.int .i64 n19_0, .bool b19_1]) /\
 Br (!b2) (
 stA prog 28 (⟨r8, 0, none⟩ : Addr) #[.int .i64 0, .int .i64 0, .string (⟨#[]⟩ : ByteArray)] w4 fun w5 =>
 zQd prog ds w5 fun w6 =>
 ∃ nR0_0, w6.cell? ((⟨r8, 0, none⟩ : Addr).add 0) = some (.int .i64 nR0_0) /\
 ∃ nR0_1, w6.cell? ((⟨r8, 0, none⟩ : Addr).add 1) = some (.int .i64 nR0_1) /\
 ∃ sR0_2, w6.cell? ((⟨r8, 0, none⟩ : Addr).add 2) = some (.string sR0_2) /\
 R (.returned (.tuple #[.agg #[.int .i64 nR0_0, .int .i64 nR0_1, .string sR0_2], .int .i64 4])) w6) (
 Br (!b19_1) (
 stA prog 28 (⟨r8, 0, none⟩ : Addr) #[.int .i64 0, .int .i64 0, .string (⟨#[]⟩ : ByteArray)] w4 fun w7 =>
 zQd prog ds w7 fun w8 =>
 ∃ nR0_0, w8.cell? ((⟨r8, 0, none⟩ : Addr).add 0) = some (.int .i64 nR0_0) /\
 ∃ nR0_1, w8.cell? ((⟨r8, 0, none⟩ : Addr).add 1) = some (.int .i64 nR0_1) /\
 ∃ sR0_2, w8.cell? ((⟨r8, 0, none⟩ : Addr).add 2) = some (.string sR0_2) /\
 R (.returned (.tuple #[.agg #[.int .i64 nR0_0, .int .i64 nR0_1, .string sR0_2], .int .i64 4])) w8) (
 ∃ l30 : SV, w4.cell? ((⟨r5, 0, none⟩ : Addr).add 1) = some (.slice l30.a l30.len l30.cap) /\
 ∃ a9, l30.a = some a9 /\ 0 <= n19_0 /\ n19_0 < (l30.len : Int) /\
 ∃ n33_0, w4.cell? ((a9.add (n19_0.toNat * 3)).add 0) = some (.int .i64 n33_0) /\
 ∃ n33_1, w4.cell? ((a9.add (n19_0.toNat * 3)).add 1) = some (.int .i64 n33_1) /\
 ∃ s33_2, w4.cell? ((a9.add (n19_0.toNat * 3)).add 2) = some (.string s33_2) /\
 stA prog 28 (⟨r8, 0, none⟩ : Addr) #[.int .i64 n33_0, .int .i64 n33_1, .string s33_2] w4 fun w10 =>
 zQd prog ds w10 fun w11 =>
 ∃ nR0_0, w11.cell? ((⟨r8, 0, none⟩ : Addr).add 0) = some (.int .i64 nR0_0) /\
 ∃ nR0_1, w11.cell? ((⟨r8, 0, none⟩ : Addr).add 1) = some (.int .i64 nR0_1) /\
 ∃ sR0_2, w11.cell? ((⟨r8, 0, none⟩ : Addr).add 2) = some (.string sR0_2) /\
 R (.returned (.tuple #[.agg #[.int .i64 nR0_0, .int .i64 nR0_1, .string sR0_2], .int .i64 0])) w11))
theorem F56_p : Pl prog f56 [pS 0, aS 1 [.bool, .slice], bS 2, sS 3] F56_1 := fun R =>
 lf
theorem yKa (p0 : Option Addr) (b1_0 : Bool) (l1_1 : SV) (b2 : Bool) (s3 : ByteArray) (w : World) (R : Rt) (h : F56_1 R p0 b1_0 l1_1 b2 s3 [] w) : Calls prog 56 #[.pointer p0, .agg #[.bool b1_0, .slice l1_1.a l1_1.len l1_1.cap], .bool b2, .string s3] w R :=
 plC F56_p func56 h
def F18_1 (R : Rt) (p0 : Option Addr) (n1 : Int) (s2 : ByteArray) (ds : Ds) (w : World) : Prop :=
 alE (.cells #[.int .i64 0, .int .i64 0, .string (⟨#[]⟩ : ByteArray)] 28) w fun r6 w1 =>
 Calls prog 47 #[.pointer p0, .int .i64 0] w1 fun e w2 =>
 ∃ p13_0 : Option Addr, ∃ v13_1 : Value, ∃ n13_2 : Int, e = .returned (.tuple #[.pointer p13_0, v13_1, .int .i64 n13_2]) /\
 fnE v13_1 fun fx firstx capx =>
 Br (n13_2 != 0) (
 stA prog 28 (⟨r6, 0, none⟩ : Addr) #[.int .i64 0, .int .i64 0, .string (⟨#[]⟩ : ByteArray)] w2 fun w3 =>
 zQd prog ({ target := .fn (.func fx) capx, args := (firstx.toList ++ ([] : List Value)).toArray } :: ds) w3 fun w4 =>
 ∃ nR0_0, w4.cell? ((⟨r6, 0, none⟩ : Addr).add 0) = some (.int .i64 nR0_0) /\
 ∃ nR0_1, w4.cell? ((⟨r6, 0, none⟩ : Addr).add 1) = some (.int .i64 nR0_1) /\
 ∃ sR0_2, w4.cell? ((⟨r6, 0, none⟩ : Addr).add 2) = some (.string sR0_2) /\
 R (.returned (.tuple #[.agg #[.int .i64 nR0_0, .int .i64 nR0_1, .string sR0_2], .int .i64 n13_2])) w4) (
 Br (decide (n1 < 1)) (
 stA prog 28 (⟨r6, 0, none⟩ : Addr) #[.int .i64 0, .int .i64 0, .string (⟨#[]⟩ : ByteArray)] w2 fun w5 =>
 zQd prog ({ target := .fn (.func fx) capx, args := (firstx.toList ++ ([] : List Value)).toArray } :: ds) w5 fun w6 =>
 ∃ nR0_0, w6.cell? ((⟨r6, 0, none⟩ : Addr).add 0) = some (.int .i64 nR0_0) /\
 ∃ nR0_1, w6.cell? ((⟨r6, 0, none⟩ : Addr).add 1) = some (.int .i64 nR0_1) /\
 ∃ sR0_2, w6.cell? ((⟨r6, 0, none⟩ : Addr).add 2) = some (.string sR0_2) /\
 R (.returned (.tuple #[.agg #[.int .i64 nR0_0, .int .i64 nR0_1, .string sR0_2], .int .i64 4])) w6) (
 zQp p0 fun a7 =>
 ∃ l30 : SV, w2.cell? ((a7.add 2).add 2) = some (.slice l30.a l30.len l30.cap) /\
 Br (decide (n1 > (l30.len : Int))) (
 stA prog 28 (⟨r6, 0, none⟩ : Addr) #[.int .i64 0, .int .i64 0, .string (⟨#[]⟩ : ByteArray)] w2 fun w8 =>
 zQd prog ({ target := .fn (.func fx) capx, args := (firstx.toList ++ ([] : List Value)).toArray } :: ds) w8 fun w9 =>
 ∃ nR0_0, w9.cell? ((⟨r6, 0, none⟩ : Addr).add 0) = some (.int .i64 nR0_0) /\
 ∃ nR0_1, w9.cell? ((⟨r6, 0, none⟩ : Addr).add 1) = some (.int .i64 nR0_1) /\
 ∃ sR0_2, w9.cell? ((⟨r6, 0, none⟩ : Addr).add 2) = some (.string sR0_2) /\
 R (.returned (.tuple #[.agg #[.int .i64 nR0_0, .int .i64 nR0_1, .string sR0_2], .int .i64 4])) w9) (
 zQp p0 fun a10 =>
 ∃ l40 : SV, w2.cell? ((a10.add 2).add 2) = some (.slice l40.a l40.len l40.cap) /\
 ∃ a11, l40.a = some a11 /\ 0 <= (IntKind.i64.wrap (n1 - 1)) /\ (IntKind.i64.wrap (n1 - 1)) < (l40.len : Int) /\
 ∃ b44_0, w2.cell? ((a11.add ((IntKind.i64.wrap (n1 - 1)).toNat * 2)).add 0) = some (.bool b44_0) /\
 ∃ l44_1 : SV, w2.cell? ((a11.add ((IntKind.i64.wrap (n1 - 1)).toNat * 2)).add 1) = some (.slice l44_1.a l44_1.len l44_1.cap) /\
 Calls prog 56 #[.pointer p0, .agg #[.bool b44_0, .slice l44_1.a l44_1.len l44_1.cap], .bool true, .string s2] w2 fun e w12 =>
 ∃ n46_0_0 : Int, ∃ n46_0_1 : Int, ∃ s46_0_2 : ByteArray, ∃ n46_1 : Int, e = .returned (.tuple #[.agg #[.int .i64 n46_0_0, .int .i64 n46_0_1, .string s46_0_2], .int .i64 n46_1]) /\
 stA prog 28 (⟨r6, 0, none⟩ : Addr) #[.int .i64 n46_0_0, .int .i64 n46_0_1, .string s46_0_2] w12 fun w13 =>
 zQd prog ({ target := .fn (.func fx) capx, args := (firstx.toList ++ ([] : List Value)).toArray } :: ds) w13 fun w14 =>
 ∃ nR0_0, w14.cell? ((⟨r6, 0, none⟩ : Addr).add 0) = some (.int .i64 nR0_0) /\
 ∃ nR0_1, w14.cell? ((⟨r6, 0, none⟩ : Addr).add 1) = some (.int .i64 nR0_1) /\
 ∃ sR0_2, w14.cell? ((⟨r6, 0, none⟩ : Addr).add 2) = some (.string sR0_2) /\
 R (.returned (.tuple #[.agg #[.int .i64 nR0_0, .int .i64 nR0_1, .string sR0_2], .int .i64 n46_1])) w14)))
theorem F18_p : Pl prog f18 [pS 0, iS 1, sS 2] F18_1 := fun R =>
 lf
theorem yZR (p0 : Option Addr) (n1 : Int) (s2 : ByteArray) (w : World) (R : Rt) (h : F18_1 R p0 n1 s2 [] w) : Calls prog 18 #[.pointer p0, .int .i64 n1, .string s2] w R :=
 plC F18_p func18 h
def F24_1 (R : Rt) (p0 : Option Addr) (ds : Ds) (w : World) : Prop :=
 alE (.cells #[.int .i64 0, .slice none 0 0, .slice none 0 0] 25) w fun r2 w1 =>
 Calls prog 47 #[.pointer p0, .int .i64 0] w1 fun e w2 =>
 ∃ p9_0 : Option Addr, ∃ v9_1 : Value, ∃ n9_2 : Int, e = .returned (.tuple #[.pointer p9_0, v9_1, .int .i64 n9_2]) /\
 fnE v9_1 fun fx firstx capx =>
 Br (n9_2 != 0) (
 stA prog 25 (⟨r2, 0, none⟩ : Addr) #[.int .i64 0, .slice none 0 0, .slice none 0 0] w2 fun w3 =>
 zQd prog ({ target := .fn (.func fx) capx, args := (firstx.toList ++ ([] : List Value)).toArray } :: ds) w3 fun w4 =>
 ∃ nR0_0, w4.cell? ((⟨r2, 0, none⟩ : Addr).add 0) = some (.int .i64 nR0_0) /\
 ∃ lR0_1 : SV, w4.cell? ((⟨r2, 0, none⟩ : Addr).add 1) = some (.slice lR0_1.a lR0_1.len lR0_1.cap) /\
 ∃ lR0_2 : SV, w4.cell? ((⟨r2, 0, none⟩ : Addr).add 2) = some (.slice lR0_2.a lR0_2.len lR0_2.cap) /\
 R (.returned (.agg #[.int .i64 nR0_0, .slice lR0_1.a lR0_1.len lR0_1.cap, .slice lR0_2.a lR0_2.len lR0_2.cap])) w4) (
 zQp p0 fun a5 =>
 ∃ n20_0, w2.cell? ((a5.add 2).add 0) = some (.int .i64 n20_0) /\
 ∃ l20_1 : SV, w2.cell? ((a5.add 2).add 1) = some (.slice l20_1.a l20_1.len l20_1.cap) /\
 ∃ l20_2 : SV, w2.cell? ((a5.add 2).add 2) = some (.slice l20_2.a l20_2.len l20_2.cap) /\
 alE (.cells #[.int .i64 0, .slice none 0 0, .slice none 0 0] 25) w2 fun r6 w6 =>
 stA prog 25 (⟨r6, 0, none⟩ : Addr) #[.int .i64 n20_0, .slice l20_1.a l20_1.len l20_1.cap, .slice l20_2.a l20_2.len l20_2.cap] w6 fun w7 =>
 dwE w7 fun w8 =>
 ∃ S1 : World -> Prop, S1 w8 /\
 ∃ l22 : SV, (∀ w', S1 w' -> w'.cell? ((⟨r6, 0, none⟩ : Addr).add 1) = some (.slice l22.a l22.len l22.cap)) /\
 ∃ l25 : SV, (∀ w', S1 w' -> w'.cell? ((⟨r6, 0, none⟩ : Addr).add 2) = some (.slice l25.a l25.len l25.cap)) /\
 Calls prog 39 #[.slice l22.a l22.len l22.cap] w8 fun e w9 =>
 ∃ l23 : SV, e = .returned (.slice l23.a l23.len l23.cap) /\
 S1 w9 /\
 Calls prog 40 #[.slice l25.a l25.len l25.cap] w9 fun e w10 =>
 ∃ l26 : SV, e = .returned (.slice l26.a l26.len l26.cap) /\
 st1 ((⟨r6, 0, none⟩ : Addr).add 1) (.slice l23.a l23.len l23.cap) w10 fun w11 =>
 st1 ((⟨r6, 0, none⟩ : Addr).add 2) (.slice l26.a l26.len l26.cap) w11 fun w12 =>
 ∃ n29_0, w12.cell? ((⟨r6, 0, none⟩ : Addr).add 0) = some (.int .i64 n29_0) /\
 ∃ l29_1 : SV, w12.cell? ((⟨r6, 0, none⟩ : Addr).add 1) = some (.slice l29_1.a l29_1.len l29_1.cap) /\
 ∃ l29_2 : SV, w12.cell? ((⟨r6, 0, none⟩ : Addr).add 2) = some (.slice l29_2.a l29_2.len l29_2.cap) /\
 stA prog 25 (⟨r2, 0, none⟩ : Addr) #[.int .i64 n29_0, .slice l29_1.a l29_1.len l29_1.cap, .slice l29_2.a l29_2.len l29_2.cap] w12 fun w13 =>
 zQd prog ({ target := .fn (.func fx) capx, args := (firstx.toList ++ ([] : List Value)).toArray } :: ds) w13 fun w14 =>
 ∃ nR0_0, w14.cell? ((⟨r2, 0, none⟩ : Addr).add 0) = some (.int .i64 nR0_0) /\
 ∃ lR0_1 : SV, w14.cell? ((⟨r2, 0, none⟩ : Addr).add 1) = some (.slice lR0_1.a lR0_1.len lR0_1.cap) /\
 ∃ lR0_2 : SV, w14.cell? ((⟨r2, 0, none⟩ : Addr).add 2) = some (.slice lR0_2.a lR0_2.len lR0_2.cap) /\
 R (.returned (.agg #[.int .i64 nR0_0, .slice lR0_1.a lR0_1.len lR0_1.cap, .slice lR0_2.a lR0_2.len lR0_2.cap])) w14)
theorem F24_p : Pl prog f24 [pS 0] F24_1 := fun R =>
 lf
theorem yJb (p0 : Option Addr) (w : World) (R : Rt) (h : F24_1 R p0 [] w) : Calls prog 24 #[.pointer p0] w R :=
 plC F24_p func24 h
end Go.Proofs.YtcihcbfcgjepfaaGreatDoor
/- Shallow texts of functions, printed by program, each checked by the kernel against the loaded code. No condition. -/
namespace Go.Proofs.YtcihcbfcgjepfaaGreatDoor
open Go.Sh Tryz
def F55_1 (R : Rt) (p0 : Option Addr) (n1 : Int) (p2 : Option Addr) (l15 : SV) (ds : Ds) (w : World) : Prop :=
 zQp p2 fun a1 =>
 ∃ n105, w.cell? (a1.add 1) = some (.int .i64 n105) /\
 Br (decide (n105 < 0)) (
 zQp p2 fun a2 =>
 ∃ n112, w.cell? (a2.add 1) = some (.int .i64 n112) /\
 ∃ a3, l15.a = some a3 /\ 0 <= (IntKind.i64.wrap ((IntKind.i64.wrap (0 - n112)) - 1)) /\ (IntKind.i64.wrap ((IntKind.i64.wrap (0 - n112)) - 1)) < (l15.len : Int) /\
 ∃ n116, w.cell? (a3.add ((IntKind.i64.wrap ((IntKind.i64.wrap (0 - n112)) - 1)).toNat * 1)) = some (.int .i64 n116) /\
 zQp p2 fun a4 =>
 st1 (a4.add 1) (.int .i64 n116) w fun w5 =>
 Calls prog 116 #[.pointer p0, .int .i64 n1, .pointer p2] w5 fun e w6 =>
 e = .returned (.tuple #[]) /\
 zQd prog ds w6 fun w7 =>
 R (.returned (.tuple #[.slice l15.a l15.len l15.cap, .int .i64 0])) w7) (
 Calls prog 116 #[.pointer p0, .int .i64 n1, .pointer p2] w fun e w8 =>
 e = .returned (.tuple #[]) /\
 zQd prog ds w8 fun w9 =>
 R (.returned (.tuple #[.slice l15.a l15.len l15.cap, .int .i64 0])) w9)
def F55_2 (R : Rt) (J1 : (SV × Int) -> World -> Prop) (p0 : Option Addr) (n1 : Int) (p2 : Option Addr) (l15 l74 : SV) (n75 n76 : Int) (ds : Ds) (w : World) : Prop :=
 Br (decide (n76 < n75)) (
 ∃ a10, l74.a = some a10 /\ 0 <= n76 /\ n76 < (l74.len : Int) /\
 ∃ b79_0, w.cell? ((a10.add (n76.toNat * 2)).add 0) = some (.bool b79_0) /\
 ∃ l79_1 : SV, w.cell? ((a10.add (n76.toNat * 2)).add 1) = some (.slice l79_1.a l79_1.len l79_1.cap) /\
 alE (.cells #[.bool false, .slice none 0 0] 77) w fun r17 w11 =>
 stA prog 77 (⟨r17, 0, none⟩ : Addr) #[.bool b79_0, .slice l79_1.a l79_1.len l79_1.cap] w11 fun w12 =>
 dwE w12 fun w13 =>
 ∃ S1 : World -> Prop, S1 w13 /\
 zQp p0 fun a14 =>
 ∃ l85 : SV, (∀ w', S1 w' -> w'.cell? ((a14.add 2).add 2) = some (.slice l85.a l85.len l85.cap)) /\
 ∃ b86_0, (∀ w', S1 w' -> w'.cell? ((⟨r17, 0, none⟩ : Addr).add 0) = some (.bool b86_0)) /\
 ∃ l86_1 : SV, (∀ w', S1 w' -> w'.cell? ((⟨r17, 0, none⟩ : Addr).add 1) = some (.slice l86_1.a l86_1.len l86_1.cap)) /\
 alE (.cells #[.bool b86_0, .slice l86_1.a l86_1.len l86_1.cap] 77) w13 fun r87 w15 =>
 S1 w15 /\
 ∃ l88 : SV, ∃ w16, (Builtin.append_ #[23, 23] 23 #[.slice l85.a l85.len l85.cap, .slice (some ⟨r87, 0, none⟩) 1 1]).run prog w15 = .ok (.slice l88.a l88.len l88.cap) w16 /\
 zQp p0 fun a17 =>
 st1 ((a17.add 2).add 2) (.slice l88.a l88.len l88.cap) w16 fun w18 =>
 zQp p0 fun a19 =>
 ∃ l97 : SV, w18.cell? ((a19.add 2).add 2) = some (.slice l97.a l97.len l97.cap) /\
 alE (.cells #[.int .i64 (l97.len : Int)] 3) w18 fun r99 w20 =>
 ∃ l100 : SV, ∃ w21, (Builtin.append_ #[43, 43] 43 #[.slice l15.a l15.len l15.cap, .slice (some ⟨r99, 0, none⟩) 1 1]).run prog w20 = .ok (.slice l100.a l100.len l100.cap) w21 /\
 J1 (l100, (IntKind.i64.wrap (n76 + 1))) w21) (
 F55_1 R p0 n1 p2 l15 ds w)
def F55_3 (R : Rt) (p0 : Option Addr) (n1 : Int) (p2 : Option Addr) (l15 l74 : SV) (n75 n76 : Int) (ds : Ds) (w : World) : Prop :=
 zQJ (fun (J1 : (SV × Int) -> World -> Prop) (s : SV × Int) (w : World) => F55_2 R J1 p0 n1 p2 s.1 l74 n75 s.2 ds w) (l15, n76) w
def yY2 (R : Rt) (p0 : Option Addr) (n1 : Int) (p2 : Option Addr) (ds : Ds) (w : World) : Prop :=
 zQp p2 fun a22 =>
 ∃ l74 : SV, w.cell? (a22.add 3) = some (.slice l74.a l74.len l74.cap) /\
 F55_3 R p0 n1 p2 ⟨none, 0, 0⟩ l74 (l74.len : Int) 0 ds w
def F55_6 (R : Rt) (J1 : (Unit) -> World -> Prop) (p0 : Option Addr) (n1 : Int) (p2 p55 : Option Addr) (ds : Ds) (w : World) : Prop :=
 (∃ w23, (Instr.next (.pointer p55) false 0).run prog w = .ok (.tuple #[.bool false]) w23 /\
 yY2 R p0 n1 p2 ds w23) ∨ (∃ k56 v56 : Value, ∃ w24, (Instr.next (.pointer p55) false 0).run prog w = .ok (.tuple #[.bool true, k56, v56]) w24 /\
 ∃ k58 v58 : Value, ∃ w25, (Instr.entry (.pointer p55)).run prog w24 = .ok (.tuple #[k58, v58]) w25 /\
 yZY .i64 k58 fun n59 =>
 yXQ v58 fun q60 =>
 dHd q60 fun x60_0 q60_0 =>
 dBl x60_0 fun b60_0 =>
 dHd q60_0 fun x60_1 q60_1 =>
 dSl x60_1 fun l60_1 =>
 dHd q60_1 fun x60_2 q60_2 =>
 dBl x60_2 fun b60_2 =>
 dHd q60_2 fun x60_3 q60_3 =>
 dSl x60_3 fun l60_3 =>
 yXV q60_3 (
 alE (.cells #[.bool false, .slice none 0 0, .bool false, .slice none 0 0] 133) w25 fun r14 w26 =>
 stA prog 133 (⟨r14, 0, none⟩ : Addr) #[.bool b60_0, .slice l60_1.a l60_1.len l60_1.cap, .bool b60_2, .slice l60_3.a l60_3.len l60_3.cap] w26 fun w27 =>
 dwE w27 fun w28 =>
 ∃ b61_0, w28.cell? ((⟨r14, 0, none⟩ : Addr).add 0) = some (.bool b61_0) /\
 ∃ l61_1 : SV, w28.cell? ((⟨r14, 0, none⟩ : Addr).add 1) = some (.slice l61_1.a l61_1.len l61_1.cap) /\
 ∃ b61_2, w28.cell? ((⟨r14, 0, none⟩ : Addr).add 2) = some (.bool b61_2) /\
 ∃ l61_3 : SV, w28.cell? ((⟨r14, 0, none⟩ : Addr).add 3) = some (.slice l61_3.a l61_3.len l61_3.cap) /\
 zQp p0 fun a29 =>
 ∃ l66 : SV, w28.cell? ((a29.add 2).add 2) = some (.slice l66.a l66.len l66.cap) /\
 ∃ a30, l66.a = some a30 /\ 0 <= (IntKind.i64.wrap (n59 - 1)) /\ (IntKind.i64.wrap (n59 - 1)) < (l66.len : Int) /\
 Calls prog 115 #[.agg #[.bool b61_0, .slice l61_1.a l61_1.len l61_1.cap, .bool b61_2, .slice l61_3.a l61_3.len l61_3.cap], .pointer (some (a30.add ((IntKind.i64.wrap (n59 - 1)).toNat * 2)))] w28 fun e w31 =>
 e = .returned (.tuple #[]) /\
 J1 () w31))
def F55_7 (R : Rt) (p0 : Option Addr) (n1 : Int) (p2 p55 : Option Addr) (ds : Ds) (w : World) : Prop :=
 zQJ (fun (J1 : (Unit) -> World -> Prop) (_ : Unit) (w : World) => F55_6 R J1 p0 n1 p2 p55 ds w) () w
def yYr (R : Rt) (p0 : Option Addr) (n1 : Int) (p2 : Option Addr) (ds : Ds) (w : World) : Prop :=
 zQp p2 fun a32 =>
 ∃ m54, w.cell? (a32.add 2) = some (.map m54) /\
 ∃ p55 : Option Addr, ∃ w33, (Instr.range 88 (.map m54)).run prog w = .ok (.pointer p55) w33 /\
 F55_7 R p0 n1 p2 p55 ds w33
def yVu (R : Rt) (J1 : (Unit) -> World -> Prop) (p0 : Option Addr) (n1 : Int) (p2 p31 : Option Addr) (ds : Ds) (w : World) : Prop :=
 (∃ w34, (Instr.next (.pointer p31) false 0).run prog w = .ok (.tuple #[.bool false]) w34 /\
 yYr R p0 n1 p2 ds w34) ∨ (∃ k32 v32 : Value, ∃ w35, (Instr.next (.pointer p31) false 0).run prog w = .ok (.tuple #[.bool true, k32, v32]) w35 /\
 ∃ k34 v34 : Value, ∃ w36, (Instr.entry (.pointer p31)).run prog w35 = .ok (.tuple #[k34, v34]) w36 /\
 yZY .i64 k34 fun n35 =>
 zQp p0 fun a37 =>
 ∃ m40, w36.cell? (a37.add 21) = some (.map m40) /\
 ∃ n42_0 : Int, ∃ b42_1 : Bool, ∃ w38, (Instr.lookup 80 (.map m40) (.int .i64 n35) true).run prog w36 = .ok (.tuple #[.int .i64 n42_0, .bool b42_1]) w38 /\
 Br b42_1 (
 Br (n42_0 != n1) (
 zQd prog ds w38 fun w39 =>
 R (.returned (.tuple #[.slice none 0 0, .int .i64 12])) w39) (
 J1 () w38)) (
 J1 () w38))
def yQg (R : Rt) (p0 : Option Addr) (n1 : Int) (p2 p31 : Option Addr) (ds : Ds) (w : World) : Prop :=
 zQJ (fun (J1 : (Unit) -> World -> Prop) (_ : Unit) (w : World) => yVu R J1 p0 n1 p2 p31 ds w) () w
def yVx (R : Rt) (p0 : Option Addr) (n1 : Int) (p2 : Option Addr) (b3 : Bool) (ds : Ds) (w : World) : Prop :=
 Br (!b3) (
 Calls prog 114 #[.pointer p0, .pointer p2] w fun e w40 =>
 ∃ l23 : SV, e = .returned (.slice l23.a l23.len l23.cap) /\
 Br (decide ((l23.len : Int) > 0)) (
 zQd prog ds w40 fun w41 =>
 R (.returned (.tuple #[.slice none 0 0, .int .i64 13])) w41) (
 zQp p2 fun a42 =>
 ∃ m30, w40.cell? (a42.add 2) = some (.map m30) /\
 ∃ p31 : Option Addr, ∃ w43, (Instr.range 88 (.map m30)).run prog w40 = .ok (.pointer p31) w43 /\
 yQg R p0 n1 p2 p31 ds w43)) (
 zQp p2 fun a44 =>
 ∃ m30, w.cell? (a44.add 2) = some (.map m30) /\
 ∃ p31 : Option Addr, ∃ w45, (Instr.range 88 (.map m30)).run prog w = .ok (.pointer p31) w45 /\
 yQg R p0 n1 p2 p31 ds w45)
theorem F55_p : Pl prog f55 [pS 0, iS 1, pS 2, bS 3] yVx := fun R =>
 pc 4 (zQ1 [pS 0, iS 1, pS 2, pS 31] (yQg R) (bk 0 (zQ1 [pS 0, iS 1, pS 2] (yYr R) (pc 1 (zQ1 [pS 0, iS 1, pS 2, pS 55] (F55_7 R) (bk 2 (zQ1 [pS 0, iS 1, pS 2] (yY2 R) (pc 2 (zQ1 [pS 0, iS 1, pS 2, lS 15, lS 74, iS 75, iS 76] (F55_3 R) (bk 4 (zQ1 [pS 0, iS 1, pS 2, lS 15] (F55_1 R) lf) (lp [lS 15, iS 76] [pS 0, iS 1, pS 2, lS 15, lS 74, iS 75, iS 76] (F55_2 R) zZb fun J1 => lf))))) (lp [] [pS 0, iS 1, pS 2, pS 55] (F55_6 R) zZb fun J1 => lf))))) (lp [] [pS 0, iS 1, pS 2, pS 31] (yVu R) zZb fun J1 => lf)))
theorem yJX (p0 : Option Addr) (n1 : Int) (p2 : Option Addr) (b3 : Bool) (w : World) (R : Rt) (h : yVx R p0 n1 p2 b3 [] w) : Calls prog 55 #[.pointer p0, .int .i64 n1, .pointer p2, .bool b3] w R :=
 plC F55_p func55 h
def yW6 (R : Rt) (l5 : SV) (ds : Ds) (w : World) : Prop :=
 zQd prog ds w fun w1 =>
 R (.returned (.slice l5.a l5.len l5.cap)) w1
def yW4 (R : Rt) (J1 : (SV × Int) -> World -> Prop) (p0 p1 : Option Addr) (l5 l13 : SV) (n14 n15 : Int) (ds : Ds) (w : World) : Prop :=
 Br (decide (n15 < n14)) (
 ∃ a2, l13.a = some a2 /\ 0 <= n15 /\ n15 < (l13.len : Int) /\
 ∃ n18, w.cell? (a2.add (n15.toNat * 1)) = some (.int .i64 n18) /\
 dwE w fun w3 =>
 zQp p1 fun a4 =>
 ∃ m22, w3.cell? (a4.add 2) = some (.map m22) /\
 ∃ b24_0 : Bool, ∃ l24_1 : SV, ∃ b24_2 : Bool, ∃ l24_3 : SV, (Instr.lookup 88 (.map m22) (.int .i64 n18) false).run prog w3 = .ok (.agg #[.bool b24_0, .slice l24_1.a l24_1.len l24_1.cap, .bool b24_2, .slice l24_3.a l24_3.len l24_3.cap]) w3 /\
 zQp p0 fun a5 =>
 ∃ l29 : SV, w3.cell? ((a5.add 2).add 2) = some (.slice l29.a l29.len l29.cap) /\
 ∃ a6, l29.a = some a6 /\ 0 <= (IntKind.i64.wrap (n18 - 1)) /\ (IntKind.i64.wrap (n18 - 1)) < (l29.len : Int) /\
 ∃ b33_0, w3.cell? ((a6.add ((IntKind.i64.wrap (n18 - 1)).toNat * 2)).add 0) = some (.bool b33_0) /\
 ∃ l33_1 : SV, w3.cell? ((a6.add ((IntKind.i64.wrap (n18 - 1)).toNat * 2)).add 1) = some (.slice l33_1.a l33_1.len l33_1.cap) /\
 Calls prog 162 #[.agg #[.bool b24_0, .slice l24_1.a l24_1.len l24_1.cap, .bool b24_2, .slice l24_3.a l24_3.len l24_3.cap], .agg #[.bool b33_0, .slice l33_1.a l33_1.len l33_1.cap]] w3 fun e w7 =>
 ∃ b34 : Bool, e = .returned (.bool b34) /\
 Br b34 (
 alE (.cells #[.int .i64 n18] 3) w7 fun r37 w8 =>
 ∃ l38 : SV, ∃ w9, (Builtin.append_ #[43, 43] 43 #[.slice l5.a l5.len l5.cap, .slice (some ⟨r37, 0, none⟩) 1 1]).run prog w8 = .ok (.slice l38.a l38.len l38.cap) w9 /\
 J1 (l38, (IntKind.i64.wrap (n15 + 1))) w9) (
 J1 (l5, (IntKind.i64.wrap (n15 + 1))) w7)) (
 yW6 R l5 ds w)
def yWR (R : Rt) (p0 p1 : Option Addr) (l5 l13 : SV) (n14 n15 : Int) (ds : Ds) (w : World) : Prop :=
 zQJ (fun (J1 : (SV × Int) -> World -> Prop) (s : SV × Int) (w : World) => yW4 R J1 p0 p1 s.1 l13 n14 s.2 ds w) (l5, n15) w
def yWY (R : Rt) (p0 p1 : Option Addr) (ds : Ds) (w : World) : Prop :=
 zQp p1 fun a10 =>
 ∃ m11, w.cell? (a10.add 2) = some (.map m11) /\
 Calls prog 129 #[.map m11] w fun e w11 =>
 ∃ v12 : Value, e = .returned (v12) /\
 Calls prog 128 #[v12] w11 fun e w12 =>
 ∃ l13 : SV, e = .returned (.slice l13.a l13.len l13.cap) /\
 yWR R p0 p1 ⟨none, 0, 0⟩ l13 (l13.len : Int) 0 ds w12
theorem F114_p : Pl prog f114 [pS 0, pS 1] yWY := fun R =>
 pc 3 (zQ1 [pS 0, pS 1, lS 5, lS 13, iS 14, iS 15] (yWR R) (bk 0 (zQ1 [lS 5] (yW6 R) lf) (lp [lS 5, iS 15] [pS 0, pS 1, lS 5, lS 13, iS 14, iS 15] (yW4 R) zZb fun J1 => lf)))
theorem yXC (p0 p1 : Option Addr) (w : World) (R : Rt) (h : yWY R p0 p1 [] w) : Calls prog 114 #[.pointer p0, .pointer p1] w R :=
 plC F114_p func114 h
def yW5 (R : Rt) (ds : Ds) (w : World) : Prop :=
 zQd prog ds w fun w1 =>
 R (.returned (.bool false)) w1
def yVA (R : Rt) (J1 : (Int) -> World -> Prop) (p2 p3 : Option Addr) (l18 : SV) (n19 n20 : Int) (ds : Ds) (w : World) : Prop :=
 Br (decide (n20 < n19)) (
 ∃ a2, l18.a = some a2 /\ 0 <= n20 /\ n20 < (l18.len : Int) /\
 ∃ n24_0, w.cell? ((a2.add (n20.toNat * 3)).add 0) = some (.int .i64 n24_0) /\
 ∃ n24_1, w.cell? ((a2.add (n20.toNat * 3)).add 1) = some (.int .i64 n24_1) /\
 ∃ s24_2, w.cell? ((a2.add (n20.toNat * 3)).add 2) = some (.string s24_2) /\
 alE (.cells #[.int .i64 0, .int .i64 0, .string (⟨#[]⟩ : ByteArray)] 28) w fun r6 w3 =>
 stA prog 28 (⟨r6, 0, none⟩ : Addr) #[.int .i64 n24_0, .int .i64 n24_1, .string s24_2] w3 fun w4 =>
 dwE w4 fun w5 =>
 zQp p2 fun a6 =>
 ∃ l27 : SV, w5.cell? (a6.add 1) = some (.slice l27.a l27.len l27.cap) /\
 ∃ a7, l27.a = some a7 /\ 0 <= n20 /\ n20 < (l27.len : Int) /\
 ∃ n30_0, w5.cell? ((a7.add (n20.toNat * 3)).add 0) = some (.int .i64 n30_0) /\
 ∃ n30_1, w5.cell? ((a7.add (n20.toNat * 3)).add 1) = some (.int .i64 n30_1) /\
 ∃ s30_2, w5.cell? ((a7.add (n20.toNat * 3)).add 2) = some (.string s30_2) /\
 ∃ n31_0, w5.cell? ((⟨r6, 0, none⟩ : Addr).add 0) = some (.int .i64 n31_0) /\
 ∃ n31_1, w5.cell? ((⟨r6, 0, none⟩ : Addr).add 1) = some (.int .i64 n31_1) /\
 ∃ s31_2, w5.cell? ((⟨r6, 0, none⟩ : Addr).add 2) = some (.string s31_2) /\
 zQp p3 fun a8 =>
 ∃ l33 : SV, w5.cell? (a8.add 1) = some (.slice l33.a l33.len l33.cap) /\
 ∃ a9, l33.a = some a9 /\ 0 <= n20 /\ n20 < (l33.len : Int) /\
 ∃ n36_0, w5.cell? ((a9.add (n20.toNat * 3)).add 0) = some (.int .i64 n36_0) /\
 ∃ n36_1, w5.cell? ((a9.add (n20.toNat * 3)).add 1) = some (.int .i64 n36_1) /\
 ∃ s36_2, w5.cell? ((a9.add (n20.toNat * 3)).add 2) = some (.string s36_2) /\
 Calls prog 200 #[.agg #[.int .i64 n30_0, .int .i64 n30_1, .string s30_2], .agg #[.int .i64 n31_0, .int .i64 n31_1, .string s31_2], .agg #[.int .i64 n36_0, .int .i64 n36_1, .string s36_2]] w5 fun e w10 =>
 ∃ b37 : Bool, e = .returned (.bool b37) /\
 Br b37 (
 zQd prog ds w10 fun w11 =>
 R (.returned (.bool true)) w11) (
 J1 (IntKind.i64.wrap (n20 + 1)) w10)) (
 yW5 R ds w)
def yV9 (R : Rt) (p2 p3 : Option Addr) (l18 : SV) (n19 n20 : Int) (ds : Ds) (w : World) : Prop :=
 zQJ (fun (J1 : (Int) -> World -> Prop) (s : Int) (w : World) => yVA R J1 p2 p3 l18 n19 s ds w) n20 w
def yWX (R : Rt) (b0_0 : Bool) (l0_1 : SV) (b0_2 : Bool) (l0_3 : SV) (b1_0 : Bool) (l1_1 : SV) (ds : Ds) (w : World) : Prop :=
 alE (.cells #[.bool b0_0, .slice l0_1.a l0_1.len l0_1.cap, .bool b0_2, .slice l0_3.a l0_3.len l0_3.cap] 133) w fun r2 w12 =>
 alE (.cells #[.bool b1_0, .slice l1_1.a l1_1.len l1_1.cap] 77) w12 fun r3 w13 =>
 ∃ b9, w13.cell? (⟨r2, 0, none⟩ : Addr) = some (.bool b9) /\
 ∃ b12, w13.cell? ((⟨r2, 0, none⟩ : Addr).add 2) = some (.bool b12) /\
 ∃ b14, w13.cell? (⟨r3, 0, none⟩ : Addr) = some (.bool b14) /\
 Calls prog 199 #[.bool b9, .bool b12, .bool b14] w13 fun e w14 =>
 ∃ b15 : Bool, e = .returned (.bool b15) /\
 Br b15 (
 zQd prog ds w14 fun w15 =>
 R (.returned (.bool true)) w15) (
 ∃ l18 : SV, w14.cell? (((⟨r2, 0, none⟩ : Addr).add 2).add 1) = some (.slice l18.a l18.len l18.cap) /\
 yV9 R (some (⟨r2, 0, none⟩ : Addr)) (some (⟨r3, 0, none⟩ : Addr)) l18 (l18.len : Int) 0 ds w14)
theorem F162_p : Pl prog f162 [aS 0 [.bool, .slice, .bool, .slice], aS 1 [.bool, .slice]] yWX := fun R =>
 pc 4 (zQ1 [pS 2, pS 3, lS 18, iS 19, iS 20] (yV9 R) (bk 0 (zQ1 [] (yW5 R) lf) (lp [iS 20] [pS 2, pS 3, lS 18, iS 19, iS 20] (yVA R) zZb fun J1 => lf)))
theorem yXo (b0_0 : Bool) (l0_1 : SV) (b0_2 : Bool) (l0_3 : SV) (b1_0 : Bool) (l1_1 : SV) (w : World) (R : Rt) (h : yWX R b0_0 l0_1 b0_2 l0_3 b1_0 l1_1 [] w) : Calls prog 162 #[.agg #[.bool b0_0, .slice l0_1.a l0_1.len l0_1.cap, .bool b0_2, .slice l0_3.a l0_3.len l0_3.cap], .agg #[.bool b1_0, .slice l1_1.a l1_1.len l1_1.cap]] w R :=
 plC F162_p func162 h
def yVV (R : Rt) (b0 b1 b2 : Bool) (ds : Ds) (w : World) : Prop :=
 Br (!(b0 == b1)) (
 Br (!(b2 == b0)) (
 zQd prog ds w fun w1 =>
 R (.returned (.bool (!(b2 == b1)))) w1) (
 zQd prog ds w fun w2 =>
 R (.returned (.bool false)) w2)) (
 zQd prog ds w fun w3 =>
 R (.returned (.bool false)) w3)
theorem F199_p : Pl prog f199 [bS 0, bS 1, bS 2] yVV := fun R =>
 lf
theorem yQ4 (b0 b1 b2 : Bool) (w : World) (R : Rt) (h : yVV R b0 b1 b2 [] w) : Calls prog 199 #[.bool b0, .bool b1, .bool b2] w R :=
 plC F199_p func199 h
def yV4 (R : Rt) (n0_0 n0_1 : Int) (s0_2 : ByteArray) (n1_0 n1_1 : Int) (s1_2 : ByteArray) (n2_0 n2_1 : Int) (s2_2 : ByteArray) (ds : Ds) (w : World) : Prop :=
 alE (.cells #[.int .i64 n0_0, .int .i64 n0_1, .string s0_2] 28) w fun r3 w1 =>
 alE (.cells #[.int .i64 n1_0, .int .i64 n1_1, .string s1_2] 28) w1 fun r4 w2 =>
 alE (.cells #[.int .i64 n2_0, .int .i64 n2_1, .string s2_2] 28) w2 fun r5 w3 =>
 ∃ n7_0, w3.cell? ((⟨r3, 0, none⟩ : Addr).add 0) = some (.int .i64 n7_0) /\
 ∃ n7_1, w3.cell? ((⟨r3, 0, none⟩ : Addr).add 1) = some (.int .i64 n7_1) /\
 ∃ s7_2, w3.cell? ((⟨r3, 0, none⟩ : Addr).add 2) = some (.string s7_2) /\
 ∃ n8_0, w3.cell? ((⟨r4, 0, none⟩ : Addr).add 0) = some (.int .i64 n8_0) /\
 ∃ n8_1, w3.cell? ((⟨r4, 0, none⟩ : Addr).add 1) = some (.int .i64 n8_1) /\
 ∃ s8_2, w3.cell? ((⟨r4, 0, none⟩ : Addr).add 2) = some (.string s8_2) /\
 ∃ b9 : Bool, ∃ w4, (eqS .neq 28 (.tmp 7) (.tmp 8) (.agg #[.int .i64 n7_0, .int .i64 n7_1, .string s7_2]) (.agg #[.int .i64 n8_0, .int .i64 n8_1, .string s8_2])).run prog w3 = .ok (.bool b9) w4 /\
 Br b9 (
 ∃ n11_0, w4.cell? ((⟨r5, 0, none⟩ : Addr).add 0) = some (.int .i64 n11_0) /\
 ∃ n11_1, w4.cell? ((⟨r5, 0, none⟩ : Addr).add 1) = some (.int .i64 n11_1) /\
 ∃ s11_2, w4.cell? ((⟨r5, 0, none⟩ : Addr).add 2) = some (.string s11_2) /\
 ∃ n12_0, w4.cell? ((⟨r3, 0, none⟩ : Addr).add 0) = some (.int .i64 n12_0) /\
 ∃ n12_1, w4.cell? ((⟨r3, 0, none⟩ : Addr).add 1) = some (.int .i64 n12_1) /\
 ∃ s12_2, w4.cell? ((⟨r3, 0, none⟩ : Addr).add 2) = some (.string s12_2) /\
 ∃ b13 : Bool, ∃ w5, (eqS .neq 28 (.tmp 11) (.tmp 12) (.agg #[.int .i64 n11_0, .int .i64 n11_1, .string s11_2]) (.agg #[.int .i64 n12_0, .int .i64 n12_1, .string s12_2])).run prog w4 = .ok (.bool b13) w5 /\
 Br b13 (
 ∃ n16_0, w5.cell? ((⟨r5, 0, none⟩ : Addr).add 0) = some (.int .i64 n16_0) /\
 ∃ n16_1, w5.cell? ((⟨r5, 0, none⟩ : Addr).add 1) = some (.int .i64 n16_1) /\
 ∃ s16_2, w5.cell? ((⟨r5, 0, none⟩ : Addr).add 2) = some (.string s16_2) /\
 ∃ n17_0, w5.cell? ((⟨r4, 0, none⟩ : Addr).add 0) = some (.int .i64 n17_0) /\
 ∃ n17_1, w5.cell? ((⟨r4, 0, none⟩ : Addr).add 1) = some (.int .i64 n17_1) /\
 ∃ s17_2, w5.cell? ((⟨r4, 0, none⟩ : Addr).add 2) = some (.string s17_2) /\
 ∃ b18 : Bool, ∃ w6, (eqS .neq 28 (.tmp 16) (.tmp 17) (.agg #[.int .i64 n16_0, .int .i64 n16_1, .string s16_2]) (.agg #[.int .i64 n17_0, .int .i64 n17_1, .string s17_2])).run prog w5 = .ok (.bool b18) w6 /\
 zQd prog ds w6 fun w7 =>
 R (.returned (.bool b18)) w7) (
 zQd prog ds w5 fun w8 =>
 R (.returned (.bool false)) w8)) (
 zQd prog ds w4 fun w9 =>
 R (.returned (.bool false)) w9)
theorem F200_p : Pl prog f200 [aS 0 [.int .i64, .int .i64, .str], aS 1 [.int .i64, .int .i64, .str], aS 2 [.int .i64, .int .i64, .str]] yV4 := fun R =>
 lf
theorem yXx (n0_0 n0_1 : Int) (s0_2 : ByteArray) (n1_0 n1_1 : Int) (s1_2 : ByteArray) (n2_0 n2_1 : Int) (s2_2 : ByteArray) (w : World) (R : Rt) (h : yV4 R n0_0 n0_1 s0_2 n1_0 n1_1 s1_2 n2_0 n2_1 s2_2 [] w) : Calls prog 200 #[.agg #[.int .i64 n0_0, .int .i64 n0_1, .string s0_2], .agg #[.int .i64 n1_0, .int .i64 n1_1, .string s1_2], .agg #[.int .i64 n2_0, .int .i64 n2_1, .string s2_2]] w R :=
 plC F200_p func200 h
def yVc (R : Rt) (J1 : (Int) -> World -> Prop) (p1 p2 : Option Addr) (l21 : SV) (n22 n23 : Int) (ds : Ds) (w : World) : Prop :=
 Br (decide (n23 < n22)) (
 ∃ a1, l21.a = some a1 /\ 0 <= n23 /\ n23 < (l21.len : Int) /\
 ∃ n27_0, w.cell? ((a1.add (n23.toNat * 3)).add 0) = some (.int .i64 n27_0) /\
 ∃ n27_1, w.cell? ((a1.add (n23.toNat * 3)).add 1) = some (.int .i64 n27_1) /\
 ∃ s27_2, w.cell? ((a1.add (n23.toNat * 3)).add 2) = some (.string s27_2) /\
 alE (.cells #[.int .i64 0, .int .i64 0, .string (⟨#[]⟩ : ByteArray)] 28) w fun r5 w2 =>
 stA prog 28 (⟨r5, 0, none⟩ : Addr) #[.int .i64 n27_0, .int .i64 n27_1, .string s27_2] w2 fun w3 =>
 dwE w3 fun w4 =>
 zQp p2 fun a5 =>
 ∃ l30 : SV, w4.cell? (a5.add 1) = some (.slice l30.a l30.len l30.cap) /\
 ∃ a6, l30.a = some a6 /\ 0 <= n23 /\ n23 < (l30.len : Int) /\
 ∃ n33_0, w4.cell? ((a6.add (n23.toNat * 3)).add 0) = some (.int .i64 n33_0) /\
 ∃ n33_1, w4.cell? ((a6.add (n23.toNat * 3)).add 1) = some (.int .i64 n33_1) /\
 ∃ s33_2, w4.cell? ((a6.add (n23.toNat * 3)).add 2) = some (.string s33_2) /\
 ∃ n34_0, w4.cell? ((⟨r5, 0, none⟩ : Addr).add 0) = some (.int .i64 n34_0) /\
 ∃ n34_1, w4.cell? ((⟨r5, 0, none⟩ : Addr).add 1) = some (.int .i64 n34_1) /\
 ∃ s34_2, w4.cell? ((⟨r5, 0, none⟩ : Addr).add 2) = some (.string s34_2) /\
 ∃ b35 : Bool, (∀ w, (eqS .neq 28 (.tmp 33) (.tmp 34) (.agg #[.int .i64 n33_0, .int .i64 n33_1, .string s33_2]) (.agg #[.int .i64 n34_0, .int .i64 n34_1, .string s34_2])).run prog w = .ok (.bool b35) w) /\
 Br b35 (
 dwE w4 fun w7 =>
 zQp p1 fun a8 =>
 ∃ l39 : SV, w7.cell? (a8.add 1) = some (.slice l39.a l39.len l39.cap) /\
 ∃ n41_0, w7.cell? ((⟨r5, 0, none⟩ : Addr).add 0) = some (.int .i64 n41_0) /\
 ∃ n41_1, w7.cell? ((⟨r5, 0, none⟩ : Addr).add 1) = some (.int .i64 n41_1) /\
 ∃ s41_2, w7.cell? ((⟨r5, 0, none⟩ : Addr).add 2) = some (.string s41_2) /\
 ∃ a9, l39.a = some a9 /\ 0 <= n23 /\ n23 < (l39.len : Int) /\
 stA prog 28 (a9.add (n23.toNat * 3)) #[.int .i64 n41_0, .int .i64 n41_1, .string s41_2] w7 fun w10 =>
 J1 (IntKind.i64.wrap (n23 + 1)) w10) (
 J1 (IntKind.i64.wrap (n23 + 1)) w4)) (
 zQd prog ds w fun w11 =>
 R (.returned (.tuple #[])) w11)
def zVE (R : Rt) (p1 p2 : Option Addr) (l21 : SV) (n22 n23 : Int) (ds : Ds) (w : World) : Prop :=
 zQJ (fun (J1 : (Int) -> World -> Prop) (s : Int) (w : World) => yVc R J1 p1 p2 l21 n22 s ds w) n23 w
def yWC (R : Rt) (b0_0 : Bool) (l0_1 : SV) (b0_2 : Bool) (l0_3 : SV) (p1 : Option Addr) (ds : Ds) (w : World) : Prop :=
 alE (.cells #[.bool b0_0, .slice l0_1.a l0_1.len l0_1.cap, .bool b0_2, .slice l0_3.a l0_3.len l0_3.cap] 133) w fun r2 w12 =>
 ∃ b8, w12.cell? (⟨r2, 0, none⟩ : Addr) = some (.bool b8) /\
 ∃ b11, w12.cell? ((⟨r2, 0, none⟩ : Addr).add 2) = some (.bool b11) /\
 Br (!(b8 == b11)) (
 ∃ b16, w12.cell? ((⟨r2, 0, none⟩ : Addr).add 2) = some (.bool b16) /\
 zQp p1 fun a13 =>
 st1 a13 (.bool b16) w12 fun w14 =>
 ∃ l21 : SV, w14.cell? (((⟨r2, 0, none⟩ : Addr).add 2).add 1) = some (.slice l21.a l21.len l21.cap) /\
 zVE R p1 (some (⟨r2, 0, none⟩ : Addr)) l21 (l21.len : Int) 0 ds w14) (
 ∃ l21 : SV, w12.cell? (((⟨r2, 0, none⟩ : Addr).add 2).add 1) = some (.slice l21.a l21.len l21.cap) /\
 zVE R p1 (some (⟨r2, 0, none⟩ : Addr)) l21 (l21.len : Int) 0 ds w12)
theorem F115_p : Pl prog f115 [aS 0 [.bool, .slice, .bool, .slice], pS 1] yWC := fun R =>
 pc 4 (zQ1 [pS 1, pS 2, lS 21, iS 22, iS 23] (zVE R) (bk 0 zZb (lp [iS 23] [pS 1, pS 2, lS 21, iS 22, iS 23] (yVc R) zZb fun J1 => lf)))
theorem yXH (b0_0 : Bool) (l0_1 : SV) (b0_2 : Bool) (l0_3 : SV) (p1 : Option Addr) (w : World) (R : Rt) (h : yWC R b0_0 l0_1 b0_2 l0_3 p1 [] w) : Calls prog 115 #[.agg #[.bool b0_0, .slice l0_1.a l0_1.len l0_1.cap, .bool b0_2, .slice l0_3.a l0_3.len l0_3.cap], .pointer p1] w R :=
 plC F115_p func115 h
def yVO (R : Rt) (J1 : (Unit) -> World -> Prop) (p0 : Option Addr) (n1 : Int) (p19 : Option Addr) (ds : Ds) (w : World) : Prop :=
 (∃ w1, (Instr.next (.pointer p19) false 0).run prog w = .ok (.tuple #[.bool false]) w1 /\
 zQd prog ds w1 fun w3 =>
 R (.returned (.tuple #[])) w3) ∨ (∃ k20 v20 : Value, ∃ w2, (Instr.next (.pointer p19) false 0).run prog w = .ok (.tuple #[.bool true, k20, v20]) w2 /\
 ∃ k22 v22 : Value, ∃ w4, (Instr.entry (.pointer p19)).run prog w2 = .ok (.tuple #[k22, v22]) w4 /\
 yZY .i64 k22 fun n23 =>
 yZY .i64 v22 fun n24 =>
 Br (n24 == n1) (
 zQp p0 fun a5 =>
 ∃ m31, w4.cell? (a5.add 21) = some (.map m31) /\
 ∃ w6, (Builtin.delete_ #[80, 3] 0 #[.map m31, .int .i64 n23]).run prog w4 = .ok (.tuple #[]) w6 /\
 J1 () w6) (
 J1 () w4))
def yWI (R : Rt) (p0 : Option Addr) (n1 : Int) (p19 : Option Addr) (ds : Ds) (w : World) : Prop :=
 zQJ (fun (J1 : (Unit) -> World -> Prop) (_ : Unit) (w : World) => yVO R J1 p0 n1 p19 ds w) () w
def yVE (R : Rt) (p0 : Option Addr) (n1 : Int) (p2 : Option Addr) (ds : Ds) (w : World) : Prop :=
 alE (.map #[] 0) w fun r10 w7 =>
 zQp p2 fun a8 =>
 st1 (a8.add 2) (.map (some r10)) w7 fun w9 =>
 zQp p2 fun a10 =>
 st1 (a10.add 3) (.slice none 0 0) w9 fun w11 =>
 zQp p0 fun a12 =>
 ∃ m18, w11.cell? (a12.add 21) = some (.map m18) /\
 ∃ p19 : Option Addr, ∃ w13, (Instr.range 80 (.map m18)).run prog w11 = .ok (.pointer p19) w13 /\
 yWI R p0 n1 p19 ds w13
theorem F116_p : Pl prog f116 [pS 0, iS 1, pS 2] yVE := fun R =>
 pc 2 (zQ1 [pS 0, iS 1, pS 19] (yWI R) (bk 0 zZb (lp [] [pS 0, iS 1, pS 19] (yVO R) zZb fun J1 => lf)))
theorem yXp (p0 : Option Addr) (n1 : Int) (p2 : Option Addr) (w : World) (R : Rt) (h : yVE R p0 n1 p2 [] w) : Calls prog 116 #[.pointer p0, .int .i64 n1, .pointer p2] w R :=
 plC F116_p func116 h
def F17_1 (R : Rt) (p0 : Option Addr) (n1 : Int) (b2 : Bool) (ds : Ds) (w : World) : Prop :=
 Calls prog 47 #[.pointer p0, .int .i64 n1] w fun e w1 =>
 ∃ p14_0 : Option Addr, ∃ v14_1 : Value, ∃ n14_2 : Int, e = .returned (.tuple #[.pointer p14_0, v14_1, .int .i64 n14_2]) /\
 fnE v14_1 fun fx firstx capx =>
 Br (n14_2 != 0) (
 zQd prog ({ target := .fn (.func fx) capx, args := (firstx.toList ++ ([] : List Value)).toArray } :: ds) w1 fun w2 =>
 R (.returned (.tuple #[.slice none 0 0, .int .i64 n14_2])) w2) (
 Calls prog 55 #[.pointer p0, .int .i64 n1, .pointer p14_0, .bool b2] w1 fun e w3 =>
 ∃ l26_0 : SV, ∃ n26_1 : Int, e = .returned (.tuple #[.slice l26_0.a l26_0.len l26_0.cap, .int .i64 n26_1]) /\
 zQd prog ({ target := .fn (.func fx) capx, args := (firstx.toList ++ ([] : List Value)).toArray } :: ds) w3 fun w4 =>
 R (.returned (.tuple #[.slice l26_0.a l26_0.len l26_0.cap, .int .i64 n26_1])) w4)
theorem F17_p : Pl prog f17 [pS 0, iS 1, bS 2] F17_1 := fun R =>
 lf
theorem yKb (p0 : Option Addr) (n1 : Int) (b2 : Bool) (w : World) (R : Rt) (h : F17_1 R p0 n1 b2 [] w) : Calls prog 17 #[.pointer p0, .int .i64 n1, .bool b2] w R :=
 plC F17_p func17 h
def F58_1 (R : Rt) (p0 : Option Addr) (n1 : Int) (p2 : Option Addr) (ds : Ds) (w : World) : Prop :=
 dwE w fun w1 =>
 zQp p2 fun a2 =>
 ∃ m11, w1.cell? (a2.add 2) = some (.map m11) /\
 ∃ n12 : Int, (Builtin.len_ #[88] 3 #[.map m11]).run prog w1 = .ok (.int .i64 n12) w1 /\
 zQp p2 fun a3 =>
 ∃ l16 : SV, w1.cell? (a3.add 3) = some (.slice l16.a l16.len l16.cap) /\
 zQp p2 fun a4 =>
 ∃ n22, w1.cell? (a4.add 1) = some (.int .i64 n22) /\
 Br (decide (n22 < 0)) (
 zQp p2 fun a5 =>
 st1 (a5.add 1) (.int .i64 0) w1 fun w6 =>
 Calls prog 116 #[.pointer p0, .int .i64 n1, .pointer p2] w6 fun e w7 =>
 e = .returned (.tuple #[]) /\
 zQd prog ds w7 fun w8 =>
 R (.returned (.int .i64 (IntKind.i64.wrap (n12 + (l16.len : Int))))) w8) (
 Calls prog 116 #[.pointer p0, .int .i64 n1, .pointer p2] w1 fun e w9 =>
 e = .returned (.tuple #[]) /\
 zQd prog ds w9 fun w10 =>
 R (.returned (.int .i64 (IntKind.i64.wrap (n12 + (l16.len : Int))))) w10)
theorem F58_p : Pl prog f58 [pS 0, iS 1, pS 2] F58_1 := fun R =>
 lf
theorem yJp (p0 : Option Addr) (n1 : Int) (p2 : Option Addr) (w : World) (R : Rt) (h : F58_1 R p0 n1 p2 [] w) : Calls prog 58 #[.pointer p0, .int .i64 n1, .pointer p2] w R :=
 plC F58_p func58 h
def F22_1 (R : Rt) (p0 : Option Addr) (n1 : Int) (ds : Ds) (w : World) : Prop :=
 Calls prog 47 #[.pointer p0, .int .i64 n1] w fun e w1 =>
 ∃ p12_0 : Option Addr, ∃ v12_1 : Value, ∃ n12_2 : Int, e = .returned (.tuple #[.pointer p12_0, v12_1, .int .i64 n12_2]) /\
 fnE v12_1 fun fx firstx capx =>
 Br (n12_2 != 0) (
 zQd prog ({ target := .fn (.func fx) capx, args := (firstx.toList ++ ([] : List Value)).toArray } :: ds) w1 fun w2 =>
 R (.returned (.tuple #[.int .i64 0, .int .i64 n12_2])) w2) (
 Calls prog 58 #[.pointer p0, .int .i64 n1, .pointer p12_0] w1 fun e w3 =>
 ∃ n23 : Int, e = .returned (.int .i64 n23) /\
 zQd prog ({ target := .fn (.func fx) capx, args := (firstx.toList ++ ([] : List Value)).toArray } :: ds) w3 fun w4 =>
 R (.returned (.tuple #[.int .i64 n23, .int .i64 0])) w4)
theorem F22_p : Pl prog f22 [pS 0, iS 1] F22_1 := fun R =>
 lf
theorem yZi (p0 : Option Addr) (n1 : Int) (w : World) (R : Rt) (h : F22_1 R p0 n1 [] w) : Calls prog 22 #[.pointer p0, .int .i64 n1] w R :=
 plC F22_p func22 h
end Go.Proofs.YtcihcbfcgjepfaaGreatDoor
/- Shallow texts of functions, printed by program, each checked by the kernel against the loaded code. No condition. -/
namespace Go.Proofs.YtcihcbfcgjepfaaGreatDoor
open Go.Sh Tryz
def F59_1 (R : Rt) (ds : Ds) (w : World) : Prop :=
 zQd prog ds w fun w1 =>
 R (.returned (.bool true)) w1
def F59_2 (R : Rt) (J1 : (Int) -> World -> Prop) (l0 l1 : SV) (n5 : Int) (ds : Ds) (w : World) : Prop :=
 Br (decide (n5 < (l0.len : Int))) (
 dwE w fun w2 =>
 ∃ a3, l0.a = some a3 /\ 0 <= n5 /\ n5 < (l0.len : Int) /\
 ∃ s20_0, w2.cell? ((a3.add (n5.toNat * 4)).add 0) = some (.string s20_0) /\
 ∃ n20_1, w2.cell? ((a3.add (n5.toNat * 4)).add 1) = some (.int .i64 n20_1) /\
 ∃ n20_2, w2.cell? ((a3.add (n5.toNat * 4)).add 2) = some (.int .i64 n20_2) /\
 ∃ b20_3, w2.cell? ((a3.add (n5.toNat * 4)).add 3) = some (.bool b20_3) /\
 ∃ a4, l1.a = some a4 /\ 0 <= n5 /\ n5 < (l1.len : Int) /\
 ∃ s24_0, w2.cell? ((a4.add (n5.toNat * 4)).add 0) = some (.string s24_0) /\
 ∃ n24_1, w2.cell? ((a4.add (n5.toNat * 4)).add 1) = some (.int .i64 n24_1) /\
 ∃ n24_2, w2.cell? ((a4.add (n5.toNat * 4)).add 2) = some (.int .i64 n24_2) /\
 ∃ b24_3, w2.cell? ((a4.add (n5.toNat * 4)).add 3) = some (.bool b24_3) /\
 ∃ b25 : Bool, (∀ w, (eqS .neq 38 (.tmp 20) (.tmp 24) (.agg #[.string s20_0, .int .i64 n20_1, .int .i64 n20_2, .bool b20_3]) (.agg #[.string s24_0, .int .i64 n24_1, .int .i64 n24_2, .bool b24_3])).run prog w = .ok (.bool b25) w) /\
 Br b25 (
 zQd prog ds w2 fun w5 =>
 R (.returned (.bool false)) w5) (
 J1 (IntKind.i64.wrap (n5 + 1)) w2)) (
 F59_1 R ds w)
def F59_3 (R : Rt) (l0 l1 : SV) (n5 : Int) (ds : Ds) (w : World) : Prop :=
 zQJ (fun (J1 : (Int) -> World -> Prop) (s : Int) (w : World) => F59_2 R J1 l0 l1 s ds w) n5 w
def F59_5 (R : Rt) (l0 l1 : SV) (ds : Ds) (w : World) : Prop :=
 Br ((l0.len : Int) != (l1.len : Int)) (
 zQd prog ds w fun w6 =>
 R (.returned (.bool false)) w6) (
 F59_3 R l0 l1 0 ds w)
theorem F59_p : Pl prog f59 [lS 0, lS 1] F59_5 := fun R =>
 pc 4 (zQ1 [lS 0, lS 1, iS 5] (F59_3 R) (bk 0 (zQ1 [] (F59_1 R) lf) (lp [iS 5] [lS 0, lS 1, iS 5] (F59_2 R) zZb fun J1 => lf)))
theorem yJJ (l0 l1 : SV) (w : World) (R : Rt) (h : F59_5 R l0 l1 [] w) : Calls prog 59 #[.slice l0.a l0.len l0.cap, .slice l1.a l1.len l1.cap] w R :=
 plC F59_p func59 h
end Go.Proofs.YtcihcbfcgjepfaaGreatDoor
/- Shallow texts of functions, printed by program, each checked by the kernel against the loaded code. No condition. -/
namespace Go.Proofs.YtcihcbfcgjepfaaGreatDoor
open Go.Sh Tryz
end Go.Proofs.YtcihcbfcgjepfaaGreatDoor
/- Shallow texts of functions, printed by program, each checked by the kernel against the loaded code. No condition. -/
namespace Go.Proofs.YtcihcbfcgjepfaaGreatDoor
open Go.Sh Tryz
end Go.Proofs.YtcihcbfcgjepfaaGreatDoor
/- Shallow texts of functions, printed by program, each checked by the kernel against the loaded code. No condition. -/
namespace Go.Proofs.YtcihcbfcgjepfaaGreatDoor
open Go.Sh Tryz
def F23_1 (R : Rt) (ds : Ds) (w : World) : Prop :=
 zQd prog ds w fun w1 =>
 R (.returned (.bool true)) w1
def F23_2 (R : Rt) (J1 : (Int) -> World -> Prop) (p2 p3 : Option Addr) (n5 : Int) (ds : Ds) (w : World) : Prop :=
 zQp p2 fun a2 =>
 ∃ l30 : SV, w.cell? (a2.add 2) = some (.slice l30.a l30.len l30.cap) /\
 Br (decide (n5 < (l30.len : Int))) (
 dwE w fun w3 =>
 zQp p2 fun a4 =>
 ∃ l36 : SV, w3.cell? (a4.add 2) = some (.slice l36.a l36.len l36.cap) /\
 ∃ a5, l36.a = some a5 /\ 0 <= n5 /\ n5 < (l36.len : Int) /\
 ∃ b39_0, w3.cell? ((a5.add (n5.toNat * 2)).add 0) = some (.bool b39_0) /\
 ∃ l39_1 : SV, w3.cell? ((a5.add (n5.toNat * 2)).add 1) = some (.slice l39_1.a l39_1.len l39_1.cap) /\
 zQp p3 fun a6 =>
 ∃ l41 : SV, w3.cell? (a6.add 2) = some (.slice l41.a l41.len l41.cap) /\
 ∃ a7, l41.a = some a7 /\ 0 <= n5 /\ n5 < (l41.len : Int) /\
 ∃ b44_0, w3.cell? ((a7.add (n5.toNat * 2)).add 0) = some (.bool b44_0) /\
 ∃ l44_1 : SV, w3.cell? ((a7.add (n5.toNat * 2)).add 1) = some (.slice l44_1.a l44_1.len l44_1.cap) /\
 Calls prog 60 #[.agg #[.bool b39_0, .slice l39_1.a l39_1.len l39_1.cap], .agg #[.bool b44_0, .slice l44_1.a l44_1.len l44_1.cap]] w3 fun e w8 =>
 ∃ b45 : Bool, e = .returned (.bool b45) /\
 Br (!b45) (
 zQd prog ds w8 fun w9 =>
 R (.returned (.bool false)) w9) (
 J1 (IntKind.i64.wrap (n5 + 1)) w8)) (
 F23_1 R ds w)
def F23_3 (R : Rt) (p2 p3 : Option Addr) (n5 : Int) (ds : Ds) (w : World) : Prop :=
 zQJ (fun (J1 : (Int) -> World -> Prop) (s : Int) (w : World) => F23_2 R J1 p2 p3 s ds w) n5 w
def F23_5 (R : Rt) (n0_0 : Int) (l0_1 l0_2 : SV) (n1_0 : Int) (l1_1 l1_2 : SV) (ds : Ds) (w : World) : Prop :=
 alE (.cells #[.int .i64 n0_0, .slice l0_1.a l0_1.len l0_1.cap, .slice l0_2.a l0_2.len l0_2.cap] 25) w fun r2 w10 =>
 alE (.cells #[.int .i64 n1_0, .slice l1_1.a l1_1.len l1_1.cap, .slice l1_2.a l1_2.len l1_2.cap] 25) w10 fun r3 w11 =>
 ∃ n7, w11.cell? (⟨r2, 0, none⟩ : Addr) = some (.int .i64 n7) /\
 ∃ n9, w11.cell? (⟨r3, 0, none⟩ : Addr) = some (.int .i64 n9) /\
 Br (n7 != n9) (
 zQd prog ds w11 fun w12 =>
 R (.returned (.bool false)) w12) (
 ∃ l13 : SV, w11.cell? ((⟨r2, 0, none⟩ : Addr).add 1) = some (.slice l13.a l13.len l13.cap) /\
 ∃ l15 : SV, w11.cell? ((⟨r3, 0, none⟩ : Addr).add 1) = some (.slice l15.a l15.len l15.cap) /\
 Calls prog 59 #[.slice l13.a l13.len l13.cap, .slice l15.a l15.len l15.cap] w11 fun e w13 =>
 ∃ b16 : Bool, e = .returned (.bool b16) /\
 Br (!b16) (
 zQd prog ds w13 fun w14 =>
 R (.returned (.bool false)) w14) (
 ∃ l21 : SV, w13.cell? ((⟨r2, 0, none⟩ : Addr).add 2) = some (.slice l21.a l21.len l21.cap) /\
 ∃ l24 : SV, w13.cell? ((⟨r3, 0, none⟩ : Addr).add 2) = some (.slice l24.a l24.len l24.cap) /\
 Br ((l21.len : Int) != (l24.len : Int)) (
 zQd prog ds w13 fun w15 =>
 R (.returned (.bool false)) w15) (
 F23_3 R (some (⟨r2, 0, none⟩ : Addr)) (some (⟨r3, 0, none⟩ : Addr)) 0 ds w13)))
theorem F23_p : Pl prog f23 [aS 0 [.int .i64, .slice, .slice], aS 1 [.int .i64, .slice, .slice]] F23_5 := fun R =>
 pc 4 (zQ1 [pS 2, pS 3, iS 5] (F23_3 R) (bk 0 (zQ1 [] (F23_1 R) lf) (lp [iS 5] [pS 2, pS 3, iS 5] (F23_2 R) zZb fun J1 => lf)))
theorem yZd (n0_0 : Int) (l0_1 l0_2 : SV) (n1_0 : Int) (l1_1 l1_2 : SV) (w : World) (R : Rt) (h : F23_5 R n0_0 l0_1 l0_2 n1_0 l1_1 l1_2 [] w) : Calls prog 23 #[.agg #[.int .i64 n0_0, .slice l0_1.a l0_1.len l0_1.cap, .slice l0_2.a l0_2.len l0_2.cap], .agg #[.int .i64 n1_0, .slice l1_1.a l1_1.len l1_1.cap, .slice l1_2.a l1_2.len l1_2.cap]] w R :=
 plC F23_p func23 h
end Go.Proofs.YtcihcbfcgjepfaaGreatDoor
/- Shallow texts of functions, printed by program, each checked by the kernel against the loaded code. No condition. -/
namespace Go.Proofs.YtcihcbfcgjepfaaGreatDoor
open Go.Sh Tryz
def F9_1 (R : Rt) (l1 : SV) (n5 : Int) (ds : Ds) (w : World) : Prop :=
 Br (decide (n5 > 2000000)) (
 zQd prog ds w fun w1 =>
 R (.returned (.bool true)) w1) (
 zQd prog ds w fun w2 =>
 R (.returned (.bool (decide ((l1.len : Int) > 200)))) w2)
def F9_2 (R : Rt) (J1 : (Int × Int) -> World -> Prop) (l1 : SV) (n5 n6 : Int) (ds : Ds) (w : World) : Prop :=
 Br (decide (n6 < (l1.len : Int))) (
 dwE w fun w3 =>
 ∃ a4, l1.a = some a4 /\ 0 <= n6 /\ n6 < (l1.len : Int) /\
 ∃ s20, w3.cell? ((a4.add (n6.toNat * 6)).add 4) = some (.string s20) /\
 ∃ a5, l1.a = some a5 /\ 0 <= n6 /\ n6 < (l1.len : Int) /\
 ∃ s26, w3.cell? ((a5.add (n6.toNat * 6)).add 5) = some (.string s26) /\
 J1 ((IntKind.i64.wrap (n5 + (IntKind.i64.wrap ((s20.size : Int) + (s26.size : Int))))), (IntKind.i64.wrap (n6 + 1))) w3) (
 F9_1 R l1 n5 ds w)
def F9_3 (R : Rt) (l1 : SV) (n5 n6 : Int) (ds : Ds) (w : World) : Prop :=
 zQJ (fun (J1 : (Int × Int) -> World -> Prop) (s : Int × Int) (w : World) => F9_2 R J1 l1 s.1 s.2 ds w) (n5, n6) w
def F9_5 (R : Rt) (n0_0 : Int) (l0_1 l0_2 l1 : SV) (ds : Ds) (w : World) : Prop :=
 alE (.cells #[.int .i64 n0_0, .slice l0_1.a l0_1.len l0_1.cap, .slice l0_2.a l0_2.len l0_2.cap] 25) w fun r2 w6 =>
 ∃ n7_0, w6.cell? ((⟨r2, 0, none⟩ : Addr).add 0) = some (.int .i64 n7_0) /\
 ∃ l7_1 : SV, w6.cell? ((⟨r2, 0, none⟩ : Addr).add 1) = some (.slice l7_1.a l7_1.len l7_1.cap) /\
 ∃ l7_2 : SV, w6.cell? ((⟨r2, 0, none⟩ : Addr).add 2) = some (.slice l7_2.a l7_2.len l7_2.cap) /\
 Calls prog 36 #[.agg #[.int .i64 n7_0, .slice l7_1.a l7_1.len l7_1.cap, .slice l7_2.a l7_2.len l7_2.cap]] w6 fun e w7 =>
 ∃ n8 : Int, e = .returned (.int .i64 n8) /\
 F9_3 R l1 n8 0 ds w7
theorem F9_p : Pl prog f9 [aS 0 [.int .i64, .slice, .slice], lS 1] F9_5 := fun R =>
 pc 3 (zQ1 [lS 1, iS 5, iS 6] (F9_3 R) (bk 0 (zQ1 [lS 1, iS 5] (F9_1 R) lf) (lp [iS 5, iS 6] [lS 1, iS 5, iS 6] (F9_2 R) zZb fun J1 => lf)))
theorem yK5 (n0_0 : Int) (l0_1 l0_2 l1 : SV) (w : World) (R : Rt) (h : F9_5 R n0_0 l0_1 l0_2 l1 [] w) : Calls prog 9 #[.agg #[.int .i64 n0_0, .slice l0_1.a l0_1.len l0_1.cap, .slice l0_2.a l0_2.len l0_2.cap], .slice l1.a l1.len l1.cap] w R :=
 plC F9_p func9 h
def F21_1 (R : Rt) (n0_0 n0_1 n0_2 n0_3 : Int) (s0_4 s0_5 : ByteArray) (ds : Ds) (w : World) : Prop :=
 alE (.cells #[.int .i64 n0_0, .int .i64 n0_1, .int .i64 n0_2, .int .i64 n0_3, .string s0_4, .string s0_5] 51) w fun r1 w1 =>
 alE (.cells #[.int .i64 0, .int .i64 0, .string (⟨#[]⟩ : ByteArray)] 28) w1 fun r2 w2 =>
 ∃ n4, w2.cell? ((⟨r1, 0, none⟩ : Addr).add 3) = some (.int .i64 n4) /\
 ∃ n6, w2.cell? ((⟨r1, 0, none⟩ : Addr).add 2) = some (.int .i64 n6) /\
 ∃ s8, w2.cell? ((⟨r1, 0, none⟩ : Addr).add 5) = some (.string s8) /\
 stA prog 28 (⟨r2, 0, none⟩ : Addr) #[.int .i64 n4, .int .i64 n6, .string s8] w2 fun w3 =>
 zQd prog ds w3 fun w4 =>
 ∃ nR0_0, w4.cell? ((⟨r2, 0, none⟩ : Addr).add 0) = some (.int .i64 nR0_0) /\
 ∃ nR0_1, w4.cell? ((⟨r2, 0, none⟩ : Addr).add 1) = some (.int .i64 nR0_1) /\
 ∃ sR0_2, w4.cell? ((⟨r2, 0, none⟩ : Addr).add 2) = some (.string sR0_2) /\
 R (.returned (.agg #[.int .i64 nR0_0, .int .i64 nR0_1, .string sR0_2])) w4
theorem F21_p : Pl prog f21 [aS 0 [.int .i64, .int .i64, .int .i64, .int .i64, .str, .str]] F21_1 := fun R =>
 lf
theorem yJa (n0_0 n0_1 n0_2 n0_3 : Int) (s0_4 s0_5 : ByteArray) (w : World) (R : Rt) (h : F21_1 R n0_0 n0_1 n0_2 n0_3 s0_4 s0_5 [] w) : Calls prog 21 #[.agg #[.int .i64 n0_0, .int .i64 n0_1, .int .i64 n0_2, .int .i64 n0_3, .string s0_4, .string s0_5]] w R :=
 plC F21_p func21 h
end Go.Proofs.YtcihcbfcgjepfaaGreatDoor
/- Shallow texts of functions, printed by program, each checked by the kernel against the loaded code. No condition. -/
namespace Go.Proofs.YtcihcbfcgjepfaaGreatDoor
open Go.Sh Tryz
def F10_1 (R : Rt) (p1 : Option Addr) (ds : Ds) (w : World) : Prop :=
 Calls prog 17 #[.pointer p1, .int .i64 0, .bool false] w fun e w1 =>
 ∃ l54_0 : SV, ∃ n54_1 : Int, e = .returned (.tuple #[.slice l54_0.a l54_0.len l54_0.cap, .int .i64 n54_1]) /\
 Calls prog 17 #[.pointer p1, .int .i64 1, .bool false] w1 fun e w2 =>
 ∃ l59_0 : SV, ∃ n59_1 : Int, e = .returned (.tuple #[.slice l59_0.a l59_0.len l59_0.cap, .int .i64 n59_1]) /\
 Calls prog 17 #[.pointer p1, .int .i64 1, .bool true] w2 fun e w3 =>
 ∃ l64_0 : SV, ∃ n64_1 : Int, e = .returned (.tuple #[.slice l64_0.a l64_0.len l64_0.cap, .int .i64 n64_1]) /\
 Calls prog 18 #[.pointer p1, .int .i64 1, .string (⟨#[65]⟩ : ByteArray)] w3 fun e w4 =>
 ∃ n69_0_0 : Int, ∃ n69_0_1 : Int, ∃ s69_0_2 : ByteArray, ∃ n69_1 : Int, e = .returned (.tuple #[.agg #[.int .i64 n69_0_0, .int .i64 n69_0_1, .string s69_0_2], .int .i64 n69_1]) /\
 alE (.cells #[.int .i64 0, .int .i64 0, .string (⟨#[]⟩ : ByteArray)] 28) w4 fun r10 w5 =>
 stA prog 28 (⟨r10, 0, none⟩ : Addr) #[.int .i64 n69_0_0, .int .i64 n69_0_1, .string s69_0_2] w5 fun w6 =>
 Br (n54_1 == 0) (
 Br (n59_1 == 13) (
 Br (n64_1 == 0) (
 Br (n69_1 == 0) (
 ∃ n88, w6.cell? ((⟨r10, 0, none⟩ : Addr).add 1) = some (.int .i64 n88) /\
 zQd prog ds w6 fun w7 =>
 R (.returned (.bool (n88 == 2))) w7) (
 zQd prog ds w6 fun w8 =>
 R (.returned (.bool false)) w8)) (
 zQd prog ds w6 fun w9 =>
 R (.returned (.bool false)) w9)) (
 zQd prog ds w6 fun w10 =>
 R (.returned (.bool false)) w10)) (
 zQd prog ds w6 fun w11 =>
 R (.returned (.bool false)) w11)
def F10_2 (R : Rt) (J1 : (Int) -> World -> Prop) (p1 : Option Addr) (n3 : Int) (ds : Ds) (w : World) : Prop :=
 Br (decide (n3 < 2)) (
 Calls prog 14 #[.pointer p1, .int .i64 n3, .int .i64 2] w fun e w12 =>
 ∃ n35 : Int, e = .returned (.int .i64 n35) /\
 Br (n35 != 0) (
 zQd prog ds w12 fun w13 =>
 R (.returned (.bool false)) w13) (
 Calls prog 15 #[.pointer p1, .int .i64 n3, .int .i64 1] w12 fun e w14 =>
 ∃ n40 : Int, e = .returned (.int .i64 n40) /\
 Br (n40 != 0) (
 zQd prog ds w14 fun w15 =>
 R (.returned (.bool false)) w15) (
 Calls prog 37 #[.int .i64 (IntKind.i64.wrap (n3 + 1))] w14 fun e w16 =>
 ∃ n48_0 : Int, ∃ n48_1 : Int, ∃ s48_2 : ByteArray, e = .returned (.agg #[.int .i64 n48_0, .int .i64 n48_1, .string s48_2]) /\
 Calls prog 16 #[.pointer p1, .int .i64 n3, .string (⟨#[65]⟩ : ByteArray), .agg #[.int .i64 n48_0, .int .i64 n48_1, .string s48_2]] w16 fun e w17 =>
 ∃ n49 : Int, e = .returned (.int .i64 n49) /\
 Br (n49 != 0) (
 zQd prog ds w17 fun w18 =>
 R (.returned (.bool false)) w18) (
 J1 (IntKind.i64.wrap (n3 + 1)) w17)))) (
 F10_1 R p1 ds w)
def yYA (R : Rt) (p1 : Option Addr) (n3 : Int) (ds : Ds) (w : World) : Prop :=
 zQJ (fun (J1 : (Int) -> World -> Prop) (s : Int) (w : World) => F10_2 R J1 p1 s ds w) n3 w
def F10_5 (R : Rt) (ds : Ds) (w : World) : Prop :=
 alE (.cells #[.string (⟨#[65]⟩ : ByteArray), .int .i64 2, .int .i64 5, .bool false] 38) w fun r14 w19 =>
 Calls prog 37 #[.int .i64 0] w19 fun e w20 =>
 ∃ n15_0 : Int, ∃ n15_1 : Int, ∃ s15_2 : ByteArray, e = .returned (.agg #[.int .i64 n15_0, .int .i64 n15_1, .string s15_2]) /\
 alE (.cells #[.int .i64 n15_0, .int .i64 n15_1, .string s15_2] 28) w20 fun r16 w21 =>
 alE (.cells #[.bool false, .slice (some ⟨r16, 0, none⟩) 1 1] 77) w21 fun r18 w22 =>
 Calls prog 11 #[.agg #[.int .i64 0, .slice (some ⟨r14, 0, none⟩) 1 1, .slice (some ⟨r18, 0, none⟩) 1 1]] w22 fun e w23 =>
 ∃ p20_0 : Option Addr, ∃ n20_1 : Int, e = .returned (.tuple #[.pointer p20_0, .int .i64 n20_1]) /\
 Br (n20_1 != 0) (
 zQd prog ds w23 fun w24 =>
 R (.returned (.bool false)) w24) (
 ∃ b27 : Bool, ∃ w25, (eqS .eql 32 (.tmp 26) (.const (.pointer none)) (.pointer p20_0) (.pointer none)).run prog w23 = .ok (.bool b27) w25 /\
 Br b27 (
 zQd prog ds w25 fun w26 =>
 R (.returned (.bool false)) w26) (
 yYA R p20_0 0 ds w25))
theorem F10_p : Pl prog f10 [] F10_5 := fun R =>
 pc 5 (zQ1 [pS 1, iS 3] (yYA R) (bk 0 (zQ1 [pS 1] (F10_1 R) lf) (lp [iS 3] [pS 1, iS 3] (F10_2 R) zZb fun J1 => lf)))
theorem yZ2  (w : World) (R : Rt) (h : F10_5 R [] w) : Calls prog 10 #[] w R :=
 plC F10_p func10 h
end Go.Proofs.YtcihcbfcgjepfaaGreatDoor
/- Shallow texts of functions, printed by program, each checked by the kernel against the loaded code. No condition. -/
namespace Go.Proofs.YtcihcbfcgjepfaaGreatDoor
open Go.Sh Tryz
def F4_1 (R : Rt) (p3 p7 p9 p11 : Option Addr) (ds : Ds) (w : World) : Prop :=
 Calls prog 17 #[.pointer p7, .int .i64 0, .bool false] w fun e w1 =>
 ∃ l176_0 : SV, ∃ n176_1 : Int, e = .returned (.tuple #[.slice l176_0.a l176_0.len l176_0.cap, .int .i64 n176_1]) /\
 Br (n176_1 != 0) (
 zQd prog ds w1 fun w2 =>
 R (.returned (.bool false)) w2) (
 Calls prog 22 #[.pointer p11, .int .i64 0] w1 fun e w3 =>
 ∃ n182_0 : Int, ∃ n182_1 : Int, e = .returned (.tuple #[.int .i64 n182_0, .int .i64 n182_1]) /\
 dwE w3 fun w4 =>
 ∃ S1 : World -> Prop, S1 w4 /\
 Calls prog 24 #[.pointer p7] w4 fun e w5 =>
 ∃ n184_0 : Int, ∃ l184_1 : SV, ∃ l184_2 : SV, e = .returned (.agg #[.int .i64 n184_0, .slice l184_1.a l184_1.len l184_1.cap, .slice l184_2.a l184_2.len l184_2.cap]) /\
 S1 w5 /\
 Calls prog 24 #[.pointer p9] w5 fun e w6 =>
 ∃ n186_0 : Int, ∃ l186_1 : SV, ∃ l186_2 : SV, e = .returned (.agg #[.int .i64 n186_0, .slice l186_1.a l186_1.len l186_1.cap, .slice l186_2.a l186_2.len l186_2.cap]) /\
 S1 w6 /\
 Calls prog 23 #[.agg #[.int .i64 n184_0, .slice l184_1.a l184_1.len l184_1.cap, .slice l184_2.a l184_2.len l184_2.cap], .agg #[.int .i64 n186_0, .slice l186_1.a l186_1.len l186_1.cap, .slice l186_2.a l186_2.len l186_2.cap]] w6 fun e w7 =>
 ∃ b187 : Bool, e = .returned (.bool b187) /\
 S1 w7 /\
 Br b187 (
 zQp p3 fun a8 =>
 ∃ n191_0, (∀ w', S1 w' -> w'.cell? (a8.add 0) = some (.int .i64 n191_0)) /\
 ∃ l191_1 : SV, (∀ w', S1 w' -> w'.cell? (a8.add 1) = some (.slice l191_1.a l191_1.len l191_1.cap)) /\
 ∃ l191_2 : SV, (∀ w', S1 w' -> w'.cell? (a8.add 2) = some (.slice l191_2.a l191_2.len l191_2.cap)) /\
 Calls prog 24 #[.pointer p11] w7 fun e w9 =>
 ∃ n190_0 : Int, ∃ l190_1 : SV, ∃ l190_2 : SV, e = .returned (.agg #[.int .i64 n190_0, .slice l190_1.a l190_1.len l190_1.cap, .slice l190_2.a l190_2.len l190_2.cap]) /\
 S1 w9 /\
 Calls prog 23 #[.agg #[.int .i64 n190_0, .slice l190_1.a l190_1.len l190_1.cap, .slice l190_2.a l190_2.len l190_2.cap], .agg #[.int .i64 n191_0, .slice l191_1.a l191_1.len l191_1.cap, .slice l191_2.a l191_2.len l191_2.cap]] w9 fun e w10 =>
 ∃ b192 : Bool, e = .returned (.bool b192) /\
 Br b192 (
 Calls prog 10 #[] w10 fun e w11 =>
 ∃ b195 : Bool, e = .returned (.bool b195) /\
 zQd prog ds w11 fun w12 =>
 R (.returned (.bool b195)) w12) (
 zQd prog ds w10 fun w13 =>
 R (.returned (.bool false)) w13)) (
 zQd prog ds w7 fun w14 =>
 R (.returned (.bool false)) w14))
def yVk (R : Rt) (J1 : (Int) -> World -> Prop) (l1 : SV) (p3 p7 p9 p11 : Option Addr) (n13 n14 : Int) (ds : Ds) (w : World) : Prop :=
 J1 (IntKind.i64.wrap (n14 + 1)) w
def F4_3 (R : Rt) (J1 : (Int) -> World -> Prop) (l1 : SV) (p3 p7 p9 p11 : Option Addr) (n13 n14 : Int) (ds : Ds) (w : World) : Prop :=
 ∃ a15, l1.a = some a15 /\ 0 <= n14 /\ n14 < (l1.len : Int) /\
 ∃ n96, w.cell? ((a15.add (n14.toNat * 6)).add 1) = some (.int .i64 n96) /\
 ∃ a16, l1.a = some a16 /\ 0 <= n14 /\ n14 < (l1.len : Int) /\
 ∃ n100_0, w.cell? ((a16.add (n14.toNat * 6)).add 0) = some (.int .i64 n100_0) /\
 ∃ n100_1, w.cell? ((a16.add (n14.toNat * 6)).add 1) = some (.int .i64 n100_1) /\
 ∃ n100_2, w.cell? ((a16.add (n14.toNat * 6)).add 2) = some (.int .i64 n100_2) /\
 ∃ n100_3, w.cell? ((a16.add (n14.toNat * 6)).add 3) = some (.int .i64 n100_3) /\
 ∃ s100_4, w.cell? ((a16.add (n14.toNat * 6)).add 4) = some (.string s100_4) /\
 ∃ s100_5, w.cell? ((a16.add (n14.toNat * 6)).add 5) = some (.string s100_5) /\
 alE (.cells #[.int .i64 0, .int .i64 0, .int .i64 0, .int .i64 0, .string (⟨#[]⟩ : ByteArray), .string (⟨#[]⟩ : ByteArray)] 51) w fun r16 w17 =>
 stA prog 51 (⟨r16, 0, none⟩ : Addr) #[.int .i64 n100_0, .int .i64 n100_1, .int .i64 n100_2, .int .i64 n100_3, .string s100_4, .string s100_5] w17 fun w18 =>
 Calls prog 15 #[.pointer p7, .int .i64 0, .int .i64 n96] w18 fun e w19 =>
 ∃ n103 : Int, e = .returned (.int .i64 n103) /\
 Calls prog 15 #[.pointer p9, .int .i64 0, .int .i64 n96] w19 fun e w20 =>
 ∃ n106 : Int, e = .returned (.int .i64 n106) /\
 Calls prog 15 #[.pointer p11, .int .i64 0, .int .i64 n96] w20 fun e w21 =>
 ∃ n109 : Int, e = .returned (.int .i64 n109) /\
 Br (n103 != n106) (
 Br (decide (n96 < 0)) (
 Calls prog 10 #[] w21 fun e w22 =>
 ∃ b121 : Bool, e = .returned (.bool b121) /\
 zQd prog ds w22 fun w23 =>
 R (.returned (.bool b121)) w23) (
 zQd prog ds w21 fun w24 =>
 R (.returned (.bool false)) w24)) (
 Br (n103 != n109) (
 Br (decide (n96 < 0)) (
 Calls prog 10 #[] w21 fun e w25 =>
 ∃ b121 : Bool, e = .returned (.bool b121) /\
 zQd prog ds w25 fun w26 =>
 R (.returned (.bool b121)) w26) (
 zQd prog ds w21 fun w27 =>
 R (.returned (.bool false)) w27)) (
 Br (n103 != 0) (
 yVk R J1 l1 p3 p7 p9 p11 n13 n14 ds w21) (
 ∃ n126, w21.cell? (⟨r16, 0, none⟩ : Addr) = some (.int .i64 n126) /\
 IntKind.i64 = IntKind.i64 /\ (3 : Int) ≠ 0 /\
 Br ((n126.tmod 3) == 0) (
 dwE w21 fun w28 =>
 ∃ S2 : World -> Prop, S2 w28 /\
 ∃ n131, (∀ w', S2 w' -> w'.cell? ((⟨r16, 0, none⟩ : Addr).add 2) = some (.int .i64 n131)) /\
 ∃ n136, (∀ w', S2 w' -> w'.cell? ((⟨r16, 0, none⟩ : Addr).add 2) = some (.int .i64 n136)) /\
 ∃ n141, (∀ w', S2 w' -> w'.cell? ((⟨r16, 0, none⟩ : Addr).add 2) = some (.int .i64 n141)) /\
 Calls prog 20 #[.pointer p7, .int .i64 0, .bool (decide (n131 > 0))] w28 fun e w29 =>
 ∃ n133 : Int, e = .returned (.int .i64 n133) /\
 S2 w29 /\
 Calls prog 20 #[.pointer p9, .int .i64 0, .bool (decide (n136 > 0))] w29 fun e w30 =>
 ∃ n138 : Int, e = .returned (.int .i64 n138) /\
 S2 w30 /\
 Calls prog 20 #[.pointer p11, .int .i64 0, .bool (decide (n141 > 0))] w30 fun e w31 =>
 ∃ n143 : Int, e = .returned (.int .i64 n143) /\
 Br (n133 != n138) (
 zQd prog ds w31 fun w32 =>
 R (.returned (.bool false)) w32) (
 Br (n133 != n143) (
 zQd prog ds w31 fun w33 =>
 R (.returned (.bool false)) w33) (
 Br (decide (n13 < 3)) (
 Calls prog 22 #[.pointer p11, .int .i64 0] w31 fun e w34 =>
 ∃ n173_0 : Int, ∃ n173_1 : Int, e = .returned (.tuple #[.int .i64 n173_0, .int .i64 n173_1]) /\
 yVk R J1 l1 p3 p7 p9 p11 n13 n14 ds w34) (
 yVk R J1 l1 p3 p7 p9 p11 n13 n14 ds w31)))) (
 dwE w21 fun w35 =>
 ∃ S3 : World -> Prop, S3 w35 /\
 ∃ s146, (∀ w', S3 w' -> w'.cell? ((⟨r16, 0, none⟩ : Addr).add 4) = some (.string s146)) /\
 ∃ n147_0, (∀ w', S3 w' -> w'.cell? ((⟨r16, 0, none⟩ : Addr).add 0) = some (.int .i64 n147_0)) /\
 ∃ n147_1, (∀ w', S3 w' -> w'.cell? ((⟨r16, 0, none⟩ : Addr).add 1) = some (.int .i64 n147_1)) /\
 ∃ n147_2, (∀ w', S3 w' -> w'.cell? ((⟨r16, 0, none⟩ : Addr).add 2) = some (.int .i64 n147_2)) /\
 ∃ n147_3, (∀ w', S3 w' -> w'.cell? ((⟨r16, 0, none⟩ : Addr).add 3) = some (.int .i64 n147_3)) /\
 ∃ s147_4, (∀ w', S3 w' -> w'.cell? ((⟨r16, 0, none⟩ : Addr).add 4) = some (.string s147_4)) /\
 ∃ s147_5, (∀ w', S3 w' -> w'.cell? ((⟨r16, 0, none⟩ : Addr).add 5) = some (.string s147_5)) /\
 ∃ s152, (∀ w', S3 w' -> w'.cell? ((⟨r16, 0, none⟩ : Addr).add 4) = some (.string s152)) /\
 ∃ n153_0, (∀ w', S3 w' -> w'.cell? ((⟨r16, 0, none⟩ : Addr).add 0) = some (.int .i64 n153_0)) /\
 ∃ n153_1, (∀ w', S3 w' -> w'.cell? ((⟨r16, 0, none⟩ : Addr).add 1) = some (.int .i64 n153_1)) /\
 ∃ n153_2, (∀ w', S3 w' -> w'.cell? ((⟨r16, 0, none⟩ : Addr).add 2) = some (.int .i64 n153_2)) /\
 ∃ n153_3, (∀ w', S3 w' -> w'.cell? ((⟨r16, 0, none⟩ : Addr).add 3) = some (.int .i64 n153_3)) /\
 ∃ s153_4, (∀ w', S3 w' -> w'.cell? ((⟨r16, 0, none⟩ : Addr).add 4) = some (.string s153_4)) /\
 ∃ s153_5, (∀ w', S3 w' -> w'.cell? ((⟨r16, 0, none⟩ : Addr).add 5) = some (.string s153_5)) /\
 ∃ s158, (∀ w', S3 w' -> w'.cell? ((⟨r16, 0, none⟩ : Addr).add 4) = some (.string s158)) /\
 ∃ n159_0, (∀ w', S3 w' -> w'.cell? ((⟨r16, 0, none⟩ : Addr).add 0) = some (.int .i64 n159_0)) /\
 ∃ n159_1, (∀ w', S3 w' -> w'.cell? ((⟨r16, 0, none⟩ : Addr).add 1) = some (.int .i64 n159_1)) /\
 ∃ n159_2, (∀ w', S3 w' -> w'.cell? ((⟨r16, 0, none⟩ : Addr).add 2) = some (.int .i64 n159_2)) /\
 ∃ n159_3, (∀ w', S3 w' -> w'.cell? ((⟨r16, 0, none⟩ : Addr).add 3) = some (.int .i64 n159_3)) /\
 ∃ s159_4, (∀ w', S3 w' -> w'.cell? ((⟨r16, 0, none⟩ : Addr).add 4) = some (.string s159_4)) /\
 ∃ s159_5, (∀ w', S3 w' -> w'.cell? ((⟨r16, 0, none⟩ : Addr).add 5) = some (.string s159_5)) /\
 Calls prog 21 #[.agg #[.int .i64 n147_0, .int .i64 n147_1, .int .i64 n147_2, .int .i64 n147_3, .string s147_4, .string s147_5]] w35 fun e w36 =>
 ∃ n148_0 : Int, ∃ n148_1 : Int, ∃ s148_2 : ByteArray, e = .returned (.agg #[.int .i64 n148_0, .int .i64 n148_1, .string s148_2]) /\
 S3 w36 /\
 Calls prog 16 #[.pointer p7, .int .i64 0, .string s146, .agg #[.int .i64 n148_0, .int .i64 n148_1, .string s148_2]] w36 fun e w37 =>
 ∃ n149 : Int, e = .returned (.int .i64 n149) /\
 S3 w37 /\
 Calls prog 21 #[.agg #[.int .i64 n153_0, .int .i64 n153_1, .int .i64 n153_2, .int .i64 n153_3, .string s153_4, .string s153_5]] w37 fun e w38 =>
 ∃ n154_0 : Int, ∃ n154_1 : Int, ∃ s154_2 : ByteArray, e = .returned (.agg #[.int .i64 n154_0, .int .i64 n154_1, .string s154_2]) /\
 S3 w38 /\
 Calls prog 16 #[.pointer p9, .int .i64 0, .string s152, .agg #[.int .i64 n154_0, .int .i64 n154_1, .string s154_2]] w38 fun e w39 =>
 ∃ n155 : Int, e = .returned (.int .i64 n155) /\
 S3 w39 /\
 Calls prog 21 #[.agg #[.int .i64 n159_0, .int .i64 n159_1, .int .i64 n159_2, .int .i64 n159_3, .string s159_4, .string s159_5]] w39 fun e w40 =>
 ∃ n160_0 : Int, ∃ n160_1 : Int, ∃ s160_2 : ByteArray, e = .returned (.agg #[.int .i64 n160_0, .int .i64 n160_1, .string s160_2]) /\
 S3 w40 /\
 Calls prog 16 #[.pointer p11, .int .i64 0, .string s158, .agg #[.int .i64 n160_0, .int .i64 n160_1, .string s160_2]] w40 fun e w41 =>
 ∃ n161 : Int, e = .returned (.int .i64 n161) /\
 Br (n149 != n155) (
 zQd prog ds w41 fun w42 =>
 R (.returned (.bool false)) w42) (
 Br (n149 != n161) (
 zQd prog ds w41 fun w43 =>
 R (.returned (.bool false)) w43) (
 Br (decide (n13 < 3)) (
 Calls prog 22 #[.pointer p11, .int .i64 0] w41 fun e w44 =>
 ∃ n173_0 : Int, ∃ n173_1 : Int, e = .returned (.tuple #[.int .i64 n173_0, .int .i64 n173_1]) /\
 yVk R J1 l1 p3 p7 p9 p11 n13 n14 ds w44) (
 yVk R J1 l1 p3 p7 p9 p11 n13 n14 ds w41)))))))
def F4_4 (R : Rt) (J1 : (Int) -> World -> Prop) (l1 : SV) (p3 p7 p9 p11 : Option Addr) (n13 n14 : Int) (ds : Ds) (w : World) : Prop :=
 Br (decide (n14 < (l1.len : Int))) (
 F4_3 R J1 l1 p3 p7 p9 p11 n13 n14 ds w) (
 F4_1 R p3 p7 p9 p11 ds w)
def F4_5 (R : Rt) (l1 : SV) (p3 p7 p9 p11 : Option Addr) (n13 n14 : Int) (ds : Ds) (w : World) : Prop :=
 zQJ (fun (J1 : (Int) -> World -> Prop) (s : Int) (w : World) => F4_4 R J1 l1 p3 p7 p9 p11 n13 s ds w) n14 w
def F4_7 (R : Rt) (l1 : SV) (n2 : Int) (p3 p7 : Option Addr) (n8 : Int) (p9 p11 : Option Addr) (b59 : Bool) (ds : Ds) (w : World) : Prop :=
 Br b59 (
 zQp p3 fun a45 =>
 ∃ n61_0, w.cell? (a45.add 0) = some (.int .i64 n61_0) /\
 ∃ l61_1 : SV, w.cell? (a45.add 1) = some (.slice l61_1.a l61_1.len l61_1.cap) /\
 ∃ l61_2 : SV, w.cell? (a45.add 2) = some (.slice l61_2.a l61_2.len l61_2.cap) /\
 Calls prog 12 #[.agg #[.int .i64 n61_0, .slice l61_1.a l61_1.len l61_1.cap, .slice l61_2.a l61_2.len l61_2.cap]] w fun e w46 =>
 ∃ n62 : Int, e = .returned (.int .i64 n62) /\
 Br (n8 == n62) (
 Br (n8 != 0) (
 Calls prog 10 #[] w46 fun e w47 =>
 ∃ b69 : Bool, e = .returned (.bool b69) /\
 zQd prog ds w47 fun w48 =>
 R (.returned (.bool b69)) w48) (
 zQd prog ds w46 fun w49 =>
 R (.returned (.bool false)) w49)) (
 zQd prog ds w46 fun w50 =>
 R (.returned (.bool false)) w50)) (
 IntKind.i64 = IntKind.i64 /\ (4 : Int) ≠ 0 /\
 IntKind.i64 = IntKind.i64 /\ (4 : Int) ≠ 0 /\
 Calls prog 14 #[.pointer p7, .int .i64 0, .int .i64 (IntKind.i64.wrap (((IntKind.i64.wrap ((n2.tmod 4) + 4)).tmod 4) + 1))] w fun e w51 =>
 ∃ n78 : Int, e = .returned (.int .i64 n78) /\
 Br (n78 != 0) (
 zQd prog ds w51 fun w52 =>
 R (.returned (.bool false)) w52) (
 Calls prog 14 #[.pointer p11, .int .i64 0, .int .i64 (IntKind.i64.wrap (((IntKind.i64.wrap ((n2.tmod 4) + 4)).tmod 4) + 1))] w51 fun e w53 =>
 ∃ n83 : Int, e = .returned (.int .i64 n83) /\
 Br (n83 != 0) (
 zQd prog ds w53 fun w54 =>
 R (.returned (.bool false)) w54) (
 F4_5 R l1 p3 p7 p9 p11 (IntKind.i64.wrap (((IntKind.i64.wrap ((n2.tmod 4) + 4)).tmod 4) + 1)) 0 ds w53)))
def F4_8 (R : Rt) (l1 : SV) (n2 : Int) (p3 p7 : Option Addr) (n8 : Int) (p9 p11 : Option Addr) (ds : Ds) (w : World) : Prop :=
 Br (n8 != 0) (
 F4_7 R l1 n2 p3 p7 n8 p9 p11 true ds w) (
 ∃ b50 : Bool, ∃ w55, (eqS .eql 32 (.tmp 49) (.const (.pointer none)) (.pointer p7) (.pointer none)).run prog w = .ok (.bool b50) w55 /\
 Br b50 (
 F4_7 R l1 n2 p3 p7 n8 p9 p11 true ds w55) (
 ∃ b54 : Bool, ∃ w56, (eqS .eql 32 (.tmp 53) (.const (.pointer none)) (.pointer p9) (.pointer none)).run prog w55 = .ok (.bool b54) w56 /\
 Br b54 (
 F4_7 R l1 n2 p3 p7 n8 p9 p11 true ds w56) (
 ∃ b58 : Bool, ∃ w57, (eqS .eql 32 (.tmp 57) (.const (.pointer none)) (.pointer p11) (.pointer none)).run prog w56 = .ok (.bool b58) w57 /\
 F4_7 R l1 n2 p3 p7 n8 p9 p11 b58 ds w57)))
def F4_9 (R : Rt) (n0_0 : Int) (l0_1 l0_2 l1 : SV) (n2 : Int) (ds : Ds) (w : World) : Prop :=
 alE (.cells #[.int .i64 n0_0, .slice l0_1.a l0_1.len l0_1.cap, .slice l0_2.a l0_2.len l0_2.cap] 25) w fun r3 w58 =>
 ∃ n22_0, w58.cell? ((⟨r3, 0, none⟩ : Addr).add 0) = some (.int .i64 n22_0) /\
 ∃ l22_1 : SV, w58.cell? ((⟨r3, 0, none⟩ : Addr).add 1) = some (.slice l22_1.a l22_1.len l22_1.cap) /\
 ∃ l22_2 : SV, w58.cell? ((⟨r3, 0, none⟩ : Addr).add 2) = some (.slice l22_2.a l22_2.len l22_2.cap) /\
 Calls prog 9 #[.agg #[.int .i64 n22_0, .slice l22_1.a l22_1.len l22_1.cap, .slice l22_2.a l22_2.len l22_2.cap], .slice l1.a l1.len l1.cap] w58 fun e w59 =>
 ∃ b24 : Bool, e = .returned (.bool b24) /\
 Br b24 (
 Calls prog 10 #[] w59 fun e w60 =>
 ∃ b30 : Bool, e = .returned (.bool b30) /\
 zQd prog ds w60 fun w61 =>
 R (.returned (.bool b30)) w61) (
 Br (decide ((l1.len : Int) > 60)) (
 Calls prog 10 #[] w59 fun e w62 =>
 ∃ b30 : Bool, e = .returned (.bool b30) /\
 zQd prog ds w62 fun w63 =>
 R (.returned (.bool b30)) w63) (
 ∃ n32_0, w59.cell? ((⟨r3, 0, none⟩ : Addr).add 0) = some (.int .i64 n32_0) /\
 ∃ l32_1 : SV, w59.cell? ((⟨r3, 0, none⟩ : Addr).add 1) = some (.slice l32_1.a l32_1.len l32_1.cap) /\
 ∃ l32_2 : SV, w59.cell? ((⟨r3, 0, none⟩ : Addr).add 2) = some (.slice l32_2.a l32_2.len l32_2.cap) /\
 Calls prog 11 #[.agg #[.int .i64 n32_0, .slice l32_1.a l32_1.len l32_1.cap, .slice l32_2.a l32_2.len l32_2.cap]] w59 fun e w64 =>
 ∃ p33_0 : Option Addr, ∃ n33_1 : Int, e = .returned (.tuple #[.pointer p33_0, .int .i64 n33_1]) /\
 ∃ n37_0, w64.cell? ((⟨r3, 0, none⟩ : Addr).add 0) = some (.int .i64 n37_0) /\
 ∃ l37_1 : SV, w64.cell? ((⟨r3, 0, none⟩ : Addr).add 1) = some (.slice l37_1.a l37_1.len l37_1.cap) /\
 ∃ l37_2 : SV, w64.cell? ((⟨r3, 0, none⟩ : Addr).add 2) = some (.slice l37_2.a l37_2.len l37_2.cap) /\
 Calls prog 11 #[.agg #[.int .i64 n37_0, .slice l37_1.a l37_1.len l37_1.cap, .slice l37_2.a l37_2.len l37_2.cap]] w64 fun e w65 =>
 ∃ p38_0 : Option Addr, ∃ n38_1 : Int, e = .returned (.tuple #[.pointer p38_0, .int .i64 n38_1]) /\
 ∃ n42_0, w65.cell? ((⟨r3, 0, none⟩ : Addr).add 0) = some (.int .i64 n42_0) /\
 ∃ l42_1 : SV, w65.cell? ((⟨r3, 0, none⟩ : Addr).add 1) = some (.slice l42_1.a l42_1.len l42_1.cap) /\
 ∃ l42_2 : SV, w65.cell? ((⟨r3, 0, none⟩ : Addr).add 2) = some (.slice l42_2.a l42_2.len l42_2.cap) /\
 Calls prog 11 #[.agg #[.int .i64 n42_0, .slice l42_1.a l42_1.len l42_1.cap, .slice l42_2.a l42_2.len l42_2.cap]] w65 fun e w66 =>
 ∃ p43_0 : Option Addr, ∃ n43_1 : Int, e = .returned (.tuple #[.pointer p43_0, .int .i64 n43_1]) /\
 F4_8 R l1 n2 (some (⟨r3, 0, none⟩ : Addr)) p33_0 n33_1 p38_0 p43_0 ds w66))
theorem F4_p : Pl prog f4 [aS 0 [.int .i64, .slice, .slice], lS 1, iS 2] F4_9 := fun R =>
 pc 6 (zQ1 [lS 1, iS 2, pS 3, pS 7, iS 8, pS 9, pS 11] (F4_8 R) (pc 1 (zQ1 [lS 1, iS 2, pS 3, pS 7, iS 8, pS 9, pS 11, bS 59] (F4_7 R) (pc 5 (zQ1 [lS 1, pS 3, pS 7, pS 9, pS 11, iS 13, iS 14] (F4_5 R) (bk 0 (zQ1 [pS 3, pS 7, pS 9, pS 11] (F4_1 R) lf) (lp [iS 14] [lS 1, pS 3, pS 7, pS 9, pS 11, iS 13, iS 14] (F4_4 R) zZb fun J1 => pc 2 (zQ1 [lS 1, pS 3, pS 7, pS 9, pS 11, iS 13, iS 14] (F4_3 R J1) (pc 1 (zQ1 [lS 1, pS 3, pS 7, pS 9, pS 11, iS 13, iS 14] (yVk R J1) lf))))))))))
theorem yWa (n0_0 : Int) (l0_1 l0_2 l1 : SV) (n2 : Int) (w : World) (R : Rt) (h : F4_9 R n0_0 l0_1 l0_2 l1 n2 [] w) : Calls prog 4 #[.agg #[.int .i64 n0_0, .slice l0_1.a l0_1.len l0_1.cap, .slice l0_2.a l0_2.len l0_2.cap], .slice l1.a l1.len l1.cap, .int .i64 n2] w R :=
 plC F4_p func4 h
end Go.Proofs.YtcihcbfcgjepfaaGreatDoor
