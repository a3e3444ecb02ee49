import Derived.Test.YtcihcbfcgjepfaaGreatDoorProg
import Derived.Test.YtcihcbfcgjepfaaGreatDoorShTwentyEight
/- Shallow texts of functions, printed by program, each checked by the kernel against the loaded code. No condition. -/
set_option maxRecDepth 100000
set_option linter.unusedVariables false
namespace Go.Proofs.YtcihcbfcgjepfaaGreatDoor
open Go.Sh Tryz
def F107_1 (R : Rt) (n0_0 n0_1 : Int) (s0_2 : ByteArray) (ds : Ds) (w : World) : Prop :=
 alE (.cells #[.int .i64 n0_0, .int .i64 n0_1, .string s0_2] 28) w fun r1 w1 =>
 ∃ s4, w1.cell? ((⟨r1, 0, none⟩ : Addr).add 2) = some (.string s4) /\
 Br (decide ((s4.size : Int) > 2048)) (
 runD prog ds w1 fun w2 =>
 R (.returned (.int .i64 3)) w2) (
 ∃ n7_0, w1.cell? ((⟨r1, 0, none⟩ : Addr).add 0) = some (.int .i64 n7_0) /\
 ∃ n7_1, w1.cell? ((⟨r1, 0, none⟩ : Addr).add 1) = some (.int .i64 n7_1) /\
 ∃ s7_2, w1.cell? ((⟨r1, 0, none⟩ : Addr).add 2) = some (.string s7_2) /\
 Calls prog 152 #[.agg #[.int .i64 n7_0, .int .i64 n7_1, .string s7_2]] w1 fun e w3 =>
 ∃ b8 : Bool, e = .returned (.bool b8) /\
 Br (!b8) (
 runD prog ds w3 fun w4 =>
 R (.returned (.int .i64 1)) w4) (
 runD prog ds w3 fun w5 =>
 R (.returned (.int .i64 0)) w5))
theorem F107_p : Pl prog f107 [aS 0 [.int .i64, .int .i64, .str]] F107_1 := fun R =>
  lf
theorem F107_calls (n0_0 n0_1 : Int) (s0_2 : ByteArray) (w : World) (R : Rt) (h : F107_1 R n0_0 n0_1 s0_2 [] w) : Calls prog 107 #[.agg #[.int .i64 n0_0, .int .i64 n0_1, .string s0_2]] w R :=
  plC F107_p func107 h
def F152_1 (R : Rt) (p1 : Option Addr) (n22 : Int) (ds : Ds) (w : World) : Prop :=
 Br (n22 == 0) (
 ptrE p1 fun a1 =>
 ∃ n26, w.cell? (a1.add 1) = some (.int .i64 n26) /\
 runD prog ds w fun w2 =>
 R (.returned (.bool (n26 == 0))) w2) (
 Br (n22 == 1) (
 ptrE p1 fun a3 =>
 ∃ n31, w.cell? (a3.add 1) = some (.int .i64 n31) /\
 Br (n31 == 0) (
 runD prog ds w fun w4 =>
 R (.returned (.bool true)) w4) (
 ptrE p1 fun a5 =>
 ∃ n35, w.cell? (a5.add 1) = some (.int .i64 n35) /\
 runD prog ds w fun w6 =>
 R (.returned (.bool (n35 == 1))) w6)) (
 Br (n22 == 2) (
 ptrE p1 fun a7 =>
 ∃ n41, w.cell? (a7.add 1) = some (.int .i64 n41) /\
 Calls prog 158 #[.int .i64 n41] w fun e w8 =>
 ∃ b42 : Bool, e = .returned (.bool b42) /\
 runD prog ds w8 fun w9 =>
 R (.returned (.bool b42)) w9) (
 Br (n22 == 3) (
 ptrE p1 fun a10 =>
 ∃ n46, w.cell? (a10.add 1) = some (.int .i64 n46) /\
 Calls prog 188 #[.int .i64 n46] w fun e w11 =>
 ∃ b47 : Bool, e = .returned (.bool b47) /\
 runD prog ds w11 fun w12 =>
 R (.returned (.bool b47)) w12) (
 ptrE p1 fun a13 =>
 ∃ n49, w.cell? a13 = some (.int .i64 n49) /\
 runD prog ds w fun w14 =>
 R (.returned (.bool (n49 == 4))) w14))))
def F152_2 (R : Rt) (n0_0 n0_1 : Int) (s0_2 : ByteArray) (ds : Ds) (w : World) : Prop :=
 alE (.cells #[.int .i64 n0_0, .int .i64 n0_1, .string s0_2] 28) w fun r1 w15 =>
 ∃ n4, w15.cell? (⟨r1, 0, none⟩ : Addr) = some (.int .i64 n4) /\
 Br (n4 != 4) (
 ∃ s8, w15.cell? ((⟨r1, 0, none⟩ : Addr).add 2) = some (.string s8) /\
 Br (!(s8.toList == (⟨#[]⟩ : ByteArray).toList)) (
 runD prog ds w15 fun w16 =>
 R (.returned (.bool false)) w16) (
 ∃ n13, w15.cell? (⟨r1, 0, none⟩ : Addr) = some (.int .i64 n13) /\
 Br (n13 == 4) (
 ∃ n17, w15.cell? ((⟨r1, 0, none⟩ : Addr).add 1) = some (.int .i64 n17) /\
 Br (n17 != 0) (
 runD prog ds w15 fun w17 =>
 R (.returned (.bool false)) w17) (
 ∃ n22, w15.cell? (⟨r1, 0, none⟩ : Addr) = some (.int .i64 n22) /\
 F152_1 R (some (⟨r1, 0, none⟩ : Addr)) n22 ds w15)) (
 ∃ n22, w15.cell? (⟨r1, 0, none⟩ : Addr) = some (.int .i64 n22) /\
 F152_1 R (some (⟨r1, 0, none⟩ : Addr)) n22 ds w15))) (
 ∃ n13, w15.cell? (⟨r1, 0, none⟩ : Addr) = some (.int .i64 n13) /\
 Br (n13 == 4) (
 ∃ n17, w15.cell? ((⟨r1, 0, none⟩ : Addr).add 1) = some (.int .i64 n17) /\
 Br (n17 != 0) (
 runD prog ds w15 fun w18 =>
 R (.returned (.bool false)) w18) (
 ∃ n22, w15.cell? (⟨r1, 0, none⟩ : Addr) = some (.int .i64 n22) /\
 F152_1 R (some (⟨r1, 0, none⟩ : Addr)) n22 ds w15)) (
 ∃ n22, w15.cell? (⟨r1, 0, none⟩ : Addr) = some (.int .i64 n22) /\
 F152_1 R (some (⟨r1, 0, none⟩ : Addr)) n22 ds w15))
theorem F152_p : Pl prog f152 [aS 0 [.int .i64, .int .i64, .str]] F152_2 := fun R =>
  pc 4 (rest [pS 1, iS 22] (F152_1 R) lf)
theorem F152_calls (n0_0 n0_1 : Int) (s0_2 : ByteArray) (w : World) (R : Rt) (h : F152_2 R n0_0 n0_1 s0_2 [] w) : Calls prog 152 #[.agg #[.int .i64 n0_0, .int .i64 n0_1, .string s0_2]] w R :=
  plC F152_p func152 h
def F158_1 (R : Rt) (n0 : Int) (ds : Ds) (w : World) : Prop :=
 Br (decide (n0 ≥ (-1000000000000000))) (
 runD prog ds w fun w1 =>
 R (.returned (.bool (decide (n0 <= 1000000000000000)))) w1) (
 runD prog ds w fun w2 =>
 R (.returned (.bool false)) w2)
theorem F158_p : Pl prog f158 [iS 0] F158_1 := fun R =>
  lf
theorem F158_calls (n0 : Int) (w : World) (R : Rt) (h : F158_1 R n0 [] w) : Calls prog 158 #[.int .i64 n0] w R :=
  plC F158_p func158 h
def F188_1 (R : Rt) (n0 : Int) (ds : Ds) (w : World) : Prop :=
 Br (decide (n0 ≥ 0)) (
 runD prog ds w fun w1 =>
 R (.returned (.bool (decide (n0 <= 3652059)))) w1) (
 runD prog ds w fun w2 =>
 R (.returned (.bool false)) w2)
theorem F188_p : Pl prog f188 [iS 0] F188_1 := fun R =>
  lf
theorem F188_calls (n0 : Int) (w : World) (R : Rt) (h : F188_1 R n0 [] w) : Calls prog 188 #[.int .i64 n0] w R :=
  plC F188_p func188 h
def F45_1 (R : Rt) (p1 : Option Addr) (b3 : Bool) (ds : Ds) (w : World) : Prop :=
 Br (!b3) (
 runD prog ds w fun w1 =>
 R (.returned (.int .i64 1)) w1) (
 ptrE p1 fun a2 =>
 ∃ n49, w.cell? a2 = some (.int .i64 n49) /\
 Br (n49 != 4) (
 ptrE p1 fun a3 =>
 ∃ s53, w.cell? (a3.add 2) = some (.string s53) /\
 Br (!(s53.toList == (⟨#[]⟩ : ByteArray).toList)) (
 runD prog ds w fun w4 =>
 R (.returned (.int .i64 1)) w4) (
 runD prog ds w fun w5 =>
 R (.returned (.int .i64 0)) w5)) (
 runD prog ds w fun w6 =>
 R (.returned (.int .i64 0)) w6))
def F45_2 (R : Rt) (n0_0 n0_1 : Int) (s0_2 : ByteArray) (ds : Ds) (w : World) : Prop :=
 alE (.cells #[.int .i64 n0_0, .int .i64 n0_1, .string s0_2] 28) w fun r1 w7 =>
 ∃ s5, w7.cell? ((⟨r1, 0, none⟩ : Addr).add 2) = some (.string s5) /\
 Br (decide ((s5.size : Int) > 2048)) (
 runD prog ds w7 fun w8 =>
 R (.returned (.int .i64 3)) w8) (
 ∃ n9, w7.cell? (⟨r1, 0, none⟩ : Addr) = some (.int .i64 n9) /\
 Br (n9 == 0) (
 ∃ n13, w7.cell? ((⟨r1, 0, none⟩ : Addr).add 1) = some (.int .i64 n13) /\
 F45_1 R (some (⟨r1, 0, none⟩ : Addr)) (n13 == 0) ds w7) (
 Br (n9 == 1) (
 ∃ n18, w7.cell? ((⟨r1, 0, none⟩ : Addr).add 1) = some (.int .i64 n18) /\
 Br (n18 == 0) (
 F45_1 R (some (⟨r1, 0, none⟩ : Addr)) true ds w7) (
 ∃ n22, w7.cell? ((⟨r1, 0, none⟩ : Addr).add 1) = some (.int .i64 n22) /\
 F45_1 R (some (⟨r1, 0, none⟩ : Addr)) (n22 == 1) ds w7)) (
 Br (n9 == 2) (
 ∃ n28, w7.cell? ((⟨r1, 0, none⟩ : Addr).add 1) = some (.int .i64 n28) /\
 Calls prog 98 #[.int .i64 n28] w7 fun e w9 =>
 ∃ b29 : Bool, e = .returned (.bool b29) /\
 F45_1 R (some (⟨r1, 0, none⟩ : Addr)) b29 ds w9) (
 Br (n9 == 3) (
 ∃ n33, w7.cell? ((⟨r1, 0, none⟩ : Addr).add 1) = some (.int .i64 n33) /\
 Br (decide (n33 ≥ 0)) (
 ∃ n37, w7.cell? ((⟨r1, 0, none⟩ : Addr).add 1) = some (.int .i64 n37) /\
 F45_1 R (some (⟨r1, 0, none⟩ : Addr)) (decide (n37 <= 3652059)) ds w7) (
 F45_1 R (some (⟨r1, 0, none⟩ : Addr)) false ds w7)) (
 Br (n9 == 4) (
 ∃ n43, w7.cell? ((⟨r1, 0, none⟩ : Addr).add 1) = some (.int .i64 n43) /\
 F45_1 R (some (⟨r1, 0, none⟩ : Addr)) (n43 == 0) ds w7) (
 F45_1 R (some (⟨r1, 0, none⟩ : Addr)) false ds w7))))))
theorem F45_p : Pl prog f45 [aS 0 [.int .i64, .int .i64, .str]] F45_2 := fun R =>
  pc 6 (rest [pS 1, bS 3] (F45_1 R) lf)
theorem F45_calls (n0_0 n0_1 : Int) (s0_2 : ByteArray) (w : World) (R : Rt) (h : F45_2 R n0_0 n0_1 s0_2 [] w) : Calls prog 45 #[.agg #[.int .i64 n0_0, .int .i64 n0_1, .string s0_2]] w R :=
  plC F45_p func45 h
def F98_1 (R : Rt) (n0 : Int) (ds : Ds) (w : World) : Prop :=
 Br (decide (n0 ≥ (-1000000000000000))) (
 runD prog ds w fun w1 =>
 R (.returned (.bool (decide (n0 <= 1000000000000000)))) w1) (
 runD prog ds w fun w2 =>
 R (.returned (.bool false)) w2)
theorem F98_p : Pl prog f98 [iS 0] F98_1 := fun R =>
  lf
theorem F98_calls (n0 : Int) (w : World) (R : Rt) (h : F98_1 R n0 [] w) : Calls prog 98 #[.int .i64 n0] w R :=
  plC F98_p func98 h
end Go.Proofs.YtcihcbfcgjepfaaGreatDoor

/- Shallow texts of functions, printed by program, each checked by the kernel against the loaded code. No condition. -/
set_option maxRecDepth 100000
set_option linter.unusedVariables false
namespace Go.Proofs.YtcihcbfcgjepfaaGreatDoor
open Go.Sh Tryz
def F106_1 (R : Rt) (p1 p3 : Option Addr) (b4 : Bool) (ds : Ds) (w : World) : Prop :=
 Br b4 (
 ptrE p1 fun a1 =>
 ∃ s15, w.cell? a1 = some (.string s15) /\
 Calls prog 151 #[.string s15] w fun e w2 =>
 ∃ b16 : Bool, e = .returned (.bool b16) /\
 Br b16 (
 ptrE p1 fun a3 =>
 ∃ n20, w2.cell? (a3.add 2) = some (.int .i64 n20) /\
 ptrE p3 fun a4 =>
 ∃ n22, w2.cell? (a4.add 1) = some (.int .i64 n22) /\
 Br (decide (n20 ≥ n22)) (
 ptrE p1 fun a5 =>
 ∃ n27, w2.cell? (a5.add 2) = some (.int .i64 n27) /\
 ptrE p3 fun a6 =>
 ∃ n29, w2.cell? (a6.add 2) = some (.int .i64 n29) /\
 runD prog ds w2 fun w7 =>
 R (.returned (.bool (decide (n27 <= n29)))) w7) (
 runD prog ds w2 fun w8 =>
 R (.returned (.bool false)) w8)) (
 runD prog ds w2 fun w9 =>
 R (.returned (.bool false)) w9)) (
 runD prog ds w fun w10 =>
 R (.returned (.bool false)) w10)
def F106_2 (R : Rt) (s0_0 : ByteArray) (n0_1 n0_2 : Int) (b0_3 : Bool) (ds : Ds) (w : World) : Prop :=
 alE (.cells #[.string s0_0, .int .i64 n0_1, .int .i64 n0_2, .bool b0_3] 38) w fun r1 w11 =>
 dwE w11 fun w12 =>
 ∃ S1 : World -> Prop, S1 w12 /\
 ∃ n8, (∀ w', S1 w' -> w'.cell? ((⟨r1, 0, none⟩ : Addr).add 1) = some (.int .i64 n8)) /\
 (
 Calls prog 150 #[] w12 fun e w13 =>
 ∃ m6 : Option Nat, e = .returned (.map m6) /\
 ∃ S2 : World -> Prop, S2 w13 /\ (∀ u, S2 u -> S1 u) /\
 ∃ n9_0_0 : Int, ∃ n9_0_1 : Int, ∃ n9_0_2 : Int, ∃ v9_0_3 : Value, ∃ v9_0_4 : Value, ∃ b9_1 : Bool, (∀ w', S2 w' -> (Instr.lookup 186 (.map m6) (.int .i64 n8) true).run prog w' = .ok (.tuple #[.agg #[.int .u8 n9_0_0, .int .i64 n9_0_1, .int .i64 n9_0_2, v9_0_3, v9_0_4], .bool b9_1]) w') /\
 alE (.cells #[.int .u8 0, .int .i64 0, .int .i64 0, .nilFunc, .nilFunc] 184) w13 fun r3 w14 =>
 ∃ S3 : World -> Prop, S3 w14 /\ (∀ u, S3 u -> S2 u) /\
 stA prog 184 (⟨r3, 0, none⟩ : Addr) #[.int .u8 n9_0_0, .int .i64 n9_0_1, .int .i64 n9_0_2, v9_0_3, v9_0_4] w14 fun w15 =>
 F106_1 R (some (⟨r1, 0, none⟩ : Addr)) (some (⟨r3, 0, none⟩ : Addr)) b9_1 ds w15) /\ (
 alE (.cells #[.int .u8 0, .int .i64 0, .int .i64 0, .nilFunc, .nilFunc] 184) w12 fun r3 w16 =>
 ∃ S4 : World -> Prop, S4 w16 /\ (∀ u, S4 u -> S1 u) /\
 Calls prog 150 #[] w16 fun e w17 =>
 ∃ m6 : Option Nat, e = .returned (.map m6) /\
 ∃ S5 : World -> Prop, S5 w17 /\ (∀ u, S5 u -> S4 u) /\
 ∃ n9_0_0 : Int, ∃ n9_0_1 : Int, ∃ n9_0_2 : Int, ∃ v9_0_3 : Value, ∃ v9_0_4 : Value, ∃ b9_1 : Bool, (∀ w', S5 w' -> (Instr.lookup 186 (.map m6) (.int .i64 n8) true).run prog w' = .ok (.tuple #[.agg #[.int .u8 n9_0_0, .int .i64 n9_0_1, .int .i64 n9_0_2, v9_0_3, v9_0_4], .bool b9_1]) w') /\
 stA prog 184 (⟨r3, 0, none⟩ : Addr) #[.int .u8 n9_0_0, .int .i64 n9_0_1, .int .i64 n9_0_2, v9_0_3, v9_0_4] w17 fun w18 =>
 F106_1 R (some (⟨r1, 0, none⟩ : Addr)) (some (⟨r3, 0, none⟩ : Addr)) b9_1 ds w18)
theorem F106_p : Pl prog f106 [aS 0 [.str, .int .i64, .int .i64, .bool]] F106_2 := fun R =>
  pc 2 (rest [pS 1, pS 3, bS 4] (F106_1 R) lf)
theorem F106_calls (s0_0 : ByteArray) (n0_1 n0_2 : Int) (b0_3 : Bool) (w : World) (R : Rt) (h : F106_2 R s0_0 n0_1 n0_2 b0_3 [] w) : Calls prog 106 #[.agg #[.string s0_0, .int .i64 n0_1, .int .i64 n0_2, .bool b0_3]] w R :=
  plC F106_p func106 h
def F151_1 (R : Rt) (s0 : ByteArray) (ds : Ds) (w : World) : Prop :=
 Br (!(s0.toList == (⟨#[]⟩ : ByteArray).toList)) (
 Br (decide ((s0.size : Int) <= 10)) (
 Calls prog 187 #[.string s0, .string (⟨#[65, 66, 67, 68, 69, 70, 71, 72, 73, 74, 75, 76, 77, 78, 79, 80, 81, 82, 83, 84, 85, 86, 87, 88, 89, 90, 48, 49, 50, 51, 52, 53, 54, 55, 56, 57, 95]⟩ : ByteArray)] w fun e w1 =>
 ∃ s12 : ByteArray, e = .returned (.string s12) /\
 Br (s12.toList == (⟨#[]⟩ : ByteArray).toList) (
 ∃ b17 : UInt8, 0 <= (0 : Int) /\ s0[(0 : Int).toNat]? = some b17 /\
 Br (decide ((b17.toNat : Int) ≥ 65)) (
 ∃ b22 : UInt8, 0 <= (0 : Int) /\ s0[(0 : Int).toNat]? = some b22 /\
 runD prog ds w1 fun w2 =>
 R (.returned (.bool (decide ((b22.toNat : Int) <= 90)))) w2) (
 runD prog ds w1 fun w3 =>
 R (.returned (.bool false)) w3)) (
 runD prog ds w1 fun w4 =>
 R (.returned (.bool false)) w4)) (
 runD prog ds w fun w5 =>
 R (.returned (.bool false)) w5)) (
 runD prog ds w fun w6 =>
 R (.returned (.bool false)) w6)
theorem F151_p : Pl prog f151 [sS 0] F151_1 := fun R =>
  lf
theorem F151_calls (s0 : ByteArray) (w : World) (R : Rt) (h : F151_1 R s0 [] w) : Calls prog 151 #[.string s0] w R :=
  plC F151_p func151 h
def F150_1 (R : Rt) (ds : Ds) (w : World) : Prop :=
 alE (.map #[] 0) w fun r1 w1 =>
 doE prog (Instr.mapUpdate 186 (.map (some r1)) (.int .i64 1) (.agg #[.int .u8 76, .int .i64 1, .int .i64 1, .func (.func 177) #[] #[], .func (.func 178) #[] #[]])) w1 fun w2 =>
 doE prog (Instr.mapUpdate 186 (.map (some r1)) (.int .i64 2) (.agg #[.int .u8 78, .int .i64 1, .int .i64 15, .func (.func 179) #[] #[], .func (.func 180) #[] #[]])) w2 fun w3 =>
 doE prog (Instr.mapUpdate 186 (.map (some r1)) (.int .i64 3) (.agg #[.int .u8 68, .int .i64 8, .int .i64 8, .func (.func 181) #[] #[], .func (.func 182) #[] #[]])) w3 fun w4 =>
 doE prog (Instr.mapUpdate 186 (.map (some r1)) (.int .i64 4) (.agg #[.int .u8 67, .int .i64 1, .int .i64 254, .func (.func 183) #[] #[], .func (.func 184) #[] #[]])) w4 fun w5 =>
 doE prog (Instr.mapUpdate 186 (.map (some r1)) (.int .i64 5) (.agg #[.int .u8 77, .int .i64 8, .int .i64 8, .func (.func 185) #[] #[], .func (.func 186) #[] #[]])) w5 fun w6 =>
 runD prog ds w6 fun w7 =>
 R (.returned (.map (some r1))) w7
theorem F150_p : Pl prog f150 [] F150_1 := fun R =>
  lf
theorem F150_calls  (w : World) (R : Rt) (h : F150_1 R [] w) : Calls prog 150 #[] w R :=
  plC F150_p func150 h
def F92_1 (R : Rt) (n0 : Int) (ds : Ds) (w : World) : Prop :=
 Br (decide (n0 ≥ 0)) (
 runD prog ds w fun w1 =>
 R (.returned (.bool (decide (n0 <= 2)))) w1) (
 runD prog ds w fun w2 =>
 R (.returned (.bool false)) w2)
theorem F92_p : Pl prog f92 [iS 0] F92_1 := fun R =>
  lf
theorem F92_calls (n0 : Int) (w : World) (R : Rt) (h : F92_1 R n0 [] w) : Calls prog 92 #[.int .i64 n0] w R :=
  plC F92_p func92 h
def F44_1 (R : Rt) (s0_0 : ByteArray) (n0_1 n0_2 : Int) (b0_3 : Bool) (ds : Ds) (w : World) : Prop :=
 alE (.cells #[.string s0_0, .int .i64 n0_1, .int .i64 n0_2, .bool b0_3] 38) w fun r1 w1 =>
 ∃ s4, w1.cell? (⟨r1, 0, none⟩ : Addr) = some (.string s4) /\
 Calls prog 97 #[.string s4] w1 fun e w2 =>
 ∃ b5 : Bool, e = .returned (.bool b5) /\
 Br (!b5) (
 runD prog ds w2 fun w3 =>
 R (.returned (.bool false)) w3) (
 ∃ n8, w2.cell? ((⟨r1, 0, none⟩ : Addr).add 1) = some (.int .i64 n8) /\
 Br (n8 == 1) (
 ∃ n12, w2.cell? ((⟨r1, 0, none⟩ : Addr).add 2) = some (.int .i64 n12) /\
 runD prog ds w2 fun w4 =>
 R (.returned (.bool (n12 == 1))) w4) (
 Br (n8 == 2) (
 ∃ n17, w2.cell? ((⟨r1, 0, none⟩ : Addr).add 2) = some (.int .i64 n17) /\
 Br (decide (n17 ≥ 1)) (
 ∃ n21, w2.cell? ((⟨r1, 0, none⟩ : Addr).add 2) = some (.int .i64 n21) /\
 runD prog ds w2 fun w5 =>
 R (.returned (.bool (decide (n21 <= 15)))) w5) (
 runD prog ds w2 fun w6 =>
 R (.returned (.bool false)) w6)) (
 Br (n8 == 3) (
 Br (n8 == 3) (
 ∃ n28, w2.cell? ((⟨r1, 0, none⟩ : Addr).add 2) = some (.int .i64 n28) /\
 runD prog ds w2 fun w7 =>
 R (.returned (.bool (n28 == 8))) w7) (
 Br (n8 == 4) (
 ∃ n33, w2.cell? ((⟨r1, 0, none⟩ : Addr).add 2) = some (.int .i64 n33) /\
 Br (decide (n33 ≥ 1)) (
 ∃ n37, w2.cell? ((⟨r1, 0, none⟩ : Addr).add 2) = some (.int .i64 n37) /\
 runD prog ds w2 fun w8 =>
 R (.returned (.bool (decide (n37 <= 254)))) w8) (
 runD prog ds w2 fun w9 =>
 R (.returned (.bool false)) w9)) (
 runD prog ds w2 fun w10 =>
 R (.returned (.bool false)) w10))) (
 Br (n8 == 5) (
 ∃ n28, w2.cell? ((⟨r1, 0, none⟩ : Addr).add 2) = some (.int .i64 n28) /\
 runD prog ds w2 fun w11 =>
 R (.returned (.bool (n28 == 8))) w11) (
 Br (n8 == 4) (
 ∃ n33, w2.cell? ((⟨r1, 0, none⟩ : Addr).add 2) = some (.int .i64 n33) /\
 Br (decide (n33 ≥ 1)) (
 ∃ n37, w2.cell? ((⟨r1, 0, none⟩ : Addr).add 2) = some (.int .i64 n37) /\
 runD prog ds w2 fun w12 =>
 R (.returned (.bool (decide (n37 <= 254)))) w12) (
 runD prog ds w2 fun w13 =>
 R (.returned (.bool false)) w13)) (
 runD prog ds w2 fun w14 =>
 R (.returned (.bool false)) w14))))))
theorem F44_p : Pl prog f44 [aS 0 [.str, .int .i64, .int .i64, .bool]] F44_1 := fun R =>
  lf
theorem F44_calls (s0_0 : ByteArray) (n0_1 n0_2 : Int) (b0_3 : Bool) (w : World) (R : Rt) (h : F44_1 R s0_0 n0_1 n0_2 b0_3 [] w) : Calls prog 44 #[.agg #[.string s0_0, .int .i64 n0_1, .int .i64 n0_2, .bool b0_3]] w R :=
  plC F44_p func44 h
def F41_1 (R : Rt) (n0 : Int) (ds : Ds) (w : World) : Prop :=
 Br (decide (n0 ≥ 0)) (
 runD prog ds w fun w1 =>
 R (.returned (.bool (decide (n0 <= 2)))) w1) (
 runD prog ds w fun w2 =>
 R (.returned (.bool false)) w2)
theorem F41_p : Pl prog f41 [iS 0] F41_1 := fun R =>
  lf
theorem F41_calls (n0 : Int) (w : World) (R : Rt) (h : F41_1 R n0 [] w) : Calls prog 41 #[.int .i64 n0] w R :=
  plC F41_p func41 h
def F97_1 (R : Rt) (ds : Ds) (w : World) : Prop :=
 runD prog ds w fun w1 =>
 R (.returned (.bool true)) w1
def F97_2 (R : Rt) (J1 : (Int) -> World -> Prop) (s0 : ByteArray) (n3 : Int) (ds : Ds) (w : World) : Prop :=
 J1 (IntKind.i64.wrap (n3 + 1)) w
def F97_3 (R : Rt) (J1 : (Int) -> World -> Prop) (s0 : ByteArray) (n3 : Int) (ds : Ds) (w : World) : Prop :=
 ∃ b22 : UInt8, 0 <= n3 /\ s0[n3.toNat]? = some b22 /\
 Br (decide ((b22.toNat : Int) ≥ 65)) (
 Br (!(decide ((b22.toNat : Int) <= 90))) (
 Br (n3 == 0) (
 runD prog ds w fun w2 =>
 R (.returned (.bool false)) w2) (
 Br ((b22.toNat : Int) != 95) (
 Calls prog 148 #[.int .u8 (b22.toNat : Int)] w fun e w3 =>
 ∃ b39 : Bool, e = .returned (.bool b39) /\
 Br (!b39) (
 runD prog ds w3 fun w4 =>
 R (.returned (.bool false)) w4) (
 F97_2 R J1 s0 n3 ds w3)) (
 F97_2 R J1 s0 n3 ds w))) (
 F97_2 R J1 s0 n3 ds w)) (
 Br (n3 == 0) (
 runD prog ds w fun w5 =>
 R (.returned (.bool false)) w5) (
 Br ((b22.toNat : Int) != 95) (
 Calls prog 148 #[.int .u8 (b22.toNat : Int)] w fun e w6 =>
 ∃ b39 : Bool, e = .returned (.bool b39) /\
 Br (!b39) (
 runD prog ds w6 fun w7 =>
 R (.returned (.bool false)) w7) (
 F97_2 R J1 s0 n3 ds w6)) (
 F97_2 R J1 s0 n3 ds w)))
def F97_4 (R : Rt) (J1 : (Int) -> World -> Prop) (s0 : ByteArray) (n3 : Int) (ds : Ds) (w : World) : Prop :=
 Br (decide (n3 < (s0.size : Int))) (
 F97_3 R J1 s0 n3 ds w) (
 F97_1 R ds w)
def F97_5 (R : Rt) (s0 : ByteArray) (n3 : Int) (ds : Ds) (w : World) : Prop :=
 loopT (fun (J1 : (Int) -> World -> Prop) (s : Int) (w : World) => F97_4 R J1 s0 s ds w) n3 w
def F97_7 (R : Rt) (s0 : ByteArray) (ds : Ds) (w : World) : Prop :=
 Br (decide ((s0.size : Int) < 1)) (
 runD prog ds w fun w8 =>
 R (.returned (.bool false)) w8) (
 Br (decide ((s0.size : Int) > 10)) (
 runD prog ds w fun w9 =>
 R (.returned (.bool false)) w9) (
 F97_5 R s0 0 ds w))
theorem F97_p : Pl prog f97 [sS 0] F97_7 := fun R =>
  pc 4 (rest [sS 0, iS 3] (F97_5 R) (bk 0 (rest [] (F97_1 R) lf) (lp [iS 3] [sS 0, iS 3] (F97_4 R) rnil fun J1 => pc 2 (rest [sS 0, iS 3] (F97_3 R J1) (pc 1 (rest [sS 0, iS 3] (F97_2 R J1) lf))))))
theorem F97_calls (s0 : ByteArray) (w : World) (R : Rt) (h : F97_7 R s0 [] w) : Calls prog 97 #[.string s0] w R :=
  plC F97_p func97 h
def F148_1 (R : Rt) (n0 : Int) (ds : Ds) (w : World) : Prop :=
 Br (decide (n0 ≥ 48)) (
 runD prog ds w fun w1 =>
 R (.returned (.bool (decide (n0 <= 57)))) w1) (
 runD prog ds w fun w2 =>
 R (.returned (.bool false)) w2)
theorem F148_p : Pl prog f148 [kS .u8 0] F148_1 := fun R =>
  lf
theorem F148_calls (n0 : Int) (w : World) (R : Rt) (h : F148_1 R n0 [] w) : Calls prog 148 #[.int .u8 n0] w R :=
  plC F148_p func148 h
def F108_1 (R : Rt) (s0_0 : ByteArray) (n0_1 n0_2 : Int) (b0_3 : Bool) (ds : Ds) (w : World) : Prop :=
 alE (.cells #[.string s0_0, .int .i64 n0_1, .int .i64 n0_2, .bool b0_3] 38) w fun r1 w1 =>
 alE (.cells #[.int .i64 0, .int .i64 0, .string (⟨#[]⟩ : ByteArray)] 28) w1 fun r2 w2 =>
 ∃ n4, w2.cell? ((⟨r1, 0, none⟩ : Addr).add 1) = some (.int .i64 n4) /\
 Br (n4 == 5) (
 stA prog 28 (⟨r2, 0, none⟩ : Addr) #[.int .i64 2, .int .i64 0, .string (⟨#[]⟩ : ByteArray)] w2 fun w3 =>
 runD prog ds w3 fun w4 =>
 ∃ nR0_0, w4.cell? ((⟨r2, 0, none⟩ : Addr).add 0) = some (.int .i64 nR0_0) /\
 ∃ nR0_1, w4.cell? ((⟨r2, 0, none⟩ : Addr).add 1) = some (.int .i64 nR0_1) /\
 ∃ sR0_2, w4.cell? ((⟨r2, 0, none⟩ : Addr).add 2) = some (.string sR0_2) /\
 R (.returned (.agg #[.int .i64 nR0_0, .int .i64 nR0_1, .string sR0_2])) w4) (
 ∃ n8, w2.cell? ((⟨r1, 0, none⟩ : Addr).add 1) = some (.int .i64 n8) /\
 stA prog 28 (⟨r2, 0, none⟩ : Addr) #[.int .i64 n8, .int .i64 0, .string (⟨#[]⟩ : ByteArray)] w2 fun w5 =>
 runD prog ds w5 fun w6 =>
 ∃ nR0_0, w6.cell? ((⟨r2, 0, none⟩ : Addr).add 0) = some (.int .i64 nR0_0) /\
 ∃ nR0_1, w6.cell? ((⟨r2, 0, none⟩ : Addr).add 1) = some (.int .i64 nR0_1) /\
 ∃ sR0_2, w6.cell? ((⟨r2, 0, none⟩ : Addr).add 2) = some (.string sR0_2) /\
 R (.returned (.agg #[.int .i64 nR0_0, .int .i64 nR0_1, .string sR0_2])) w6)
theorem F108_p : Pl prog f108 [aS 0 [.str, .int .i64, .int .i64, .bool]] F108_1 := fun R =>
  lf
theorem F108_calls (s0_0 : ByteArray) (n0_1 n0_2 : Int) (b0_3 : Bool) (w : World) (R : Rt) (h : F108_1 R s0_0 n0_1 n0_2 b0_3 [] w) : Calls prog 108 #[.agg #[.string s0_0, .int .i64 n0_1, .int .i64 n0_2, .bool b0_3]] w R :=
  plC F108_p func108 h
end Go.Proofs.YtcihcbfcgjepfaaGreatDoor

/- Shallow texts of functions, printed by program, each checked by the kernel against the loaded code. No condition. -/
set_option maxRecDepth 100000
set_option linter.unusedVariables false
namespace Go.Proofs.YtcihcbfcgjepfaaGreatDoor
open Go.Sh Tryz
def F111_1 (R : Rt) (n1 : Int) (s6 : ByteArray) (ds : Ds) (w : World) : Prop :=
 Calls prog 160 #[.string (⟨#[32]⟩ : ByteArray), .int .i64 (IntKind.i64.wrap (n1 - (s6.size : Int)))] w fun e w1 =>
 ∃ s30 : ByteArray, e = .returned (.string s30) /\
 ((s30.size + s6.size : Nat) : Int) <= 9223372036854775807 /\
 runD prog ds w1 fun w2 =>
 R (.returned (.tuple #[.string (s30 ++ s6), .int .i64 0])) w2
def F111_2 (R : Rt) (n0 n1 : Int) (ds : Ds) (w : World) : Prop :=
 Calls prog 158 #[.int .i64 n0] w fun e w3 =>
 ∃ b8 : Bool, e = .returned (.bool b8) /\
 Br (!b8) (
 runD prog ds w3 fun w4 =>
 R (.returned (.tuple #[.string (⟨#[]⟩ : ByteArray), .int .i64 1])) w4) (
 Br (decide (n1 < 1)) (
 runD prog ds w3 fun w5 =>
 R (.returned (.tuple #[.string (⟨#[]⟩ : ByteArray), .int .i64 1])) w5) (
 Br (decide (n1 > 254)) (
 runD prog ds w3 fun w6 =>
 R (.returned (.tuple #[.string (⟨#[]⟩ : ByteArray), .int .i64 1])) w6) (
 Calls prog 159 #[.int .i64 n0] w3 fun e w7 =>
 ∃ s19 : ByteArray, e = .returned (.string s19) /\
 Br (decide ((s19.size : Int) > n1)) (
 Calls prog 160 #[.string (⟨#[42]⟩ : ByteArray), .int .i64 n1] w7 fun e w8 =>
 ∃ s25 : ByteArray, e = .returned (.string s25) /\
 runD prog ds w8 fun w9 =>
 R (.returned (.tuple #[.string s25, .int .i64 0])) w9) (
 F111_1 R n1 s19 ds w7))))
theorem F111_p : Pl prog f111 [iS 0, iS 1] F111_2 := fun R =>
  pc 6 (rest [iS 1, sS 6] (F111_1 R) lf)
theorem F111_calls (n0 n1 : Int) (w : World) (R : Rt) (h : F111_2 R n0 n1 [] w) : Calls prog 111 #[.int .i64 n0, .int .i64 n1] w R :=
  plC F111_p func111 h
def F159_1 (R : Rt) (n0 : Int) (ds : Ds) (w : World) : Prop :=
 Br (decide (n0 < 0)) (
 Calls prog 159 #[.int .i64 (IntKind.i64.wrap (0 - n0))] w fun e w1 =>
 ∃ s8 : ByteArray, e = .returned (.string s8) /\
 (((⟨#[45]⟩ : ByteArray).size + s8.size : Nat) : Int) <= 9223372036854775807 /\
 runD prog ds w1 fun w2 =>
 R (.returned (.string ((⟨#[45]⟩ : ByteArray) ++ s8))) w2) (
 Br (decide (n0 < 10)) (
 0 <= (IntKind.i64.wrap (n0 + 1)) /\ (IntKind.i64.wrap (n0 + 1)).toNat <= (⟨#[48, 49, 50, 51, 52, 53, 54, 55, 56, 57]⟩ : ByteArray).size /\ 0 <= n0 /\ n0.toNat <= (IntKind.i64.wrap (n0 + 1)).toNat /\
 runD prog ds w fun w3 =>
 R (.returned (.string ((⟨#[48, 49, 50, 51, 52, 53, 54, 55, 56, 57]⟩ : ByteArray).extract n0.toNat ((IntKind.i64.wrap (n0 + 1)).toNat)))) w3) (
 dwE w fun w4 =>
 IntKind.i64 = IntKind.i64 /\ (10 : Int) ≠ 0 /\
 IntKind.i64 = IntKind.i64 /\ (10 : Int) ≠ 0 /\
 IntKind.i64 = IntKind.i64 /\ (10 : Int) ≠ 0 /\
 0 <= (IntKind.i64.wrap ((n0.tmod 10) + 1)) /\ (IntKind.i64.wrap ((n0.tmod 10) + 1)).toNat <= (⟨#[48, 49, 50, 51, 52, 53, 54, 55, 56, 57]⟩ : ByteArray).size /\ 0 <= (n0.tmod 10) /\ (n0.tmod 10).toNat <= (IntKind.i64.wrap ((n0.tmod 10) + 1)).toNat /\
 Calls prog 159 #[.int .i64 (IntKind.i64.wrap (n0.tdiv 10))] w4 fun e w5 =>
 ∃ s19 : ByteArray, e = .returned (.string s19) /\
 ((s19.size + ((⟨#[48, 49, 50, 51, 52, 53, 54, 55, 56, 57]⟩ : ByteArray).extract ((n0.tmod 10).toNat) ((IntKind.i64.wrap ((n0.tmod 10) + 1)).toNat)).size : Nat) : Int) <= 9223372036854775807 /\
 runD prog ds w5 fun w6 =>
 R (.returned (.string (s19 ++ ((⟨#[48, 49, 50, 51, 52, 53, 54, 55, 56, 57]⟩ : ByteArray).extract ((n0.tmod 10).toNat) ((IntKind.i64.wrap ((n0.tmod 10) + 1)).toNat))))) w6))
theorem F159_p : Pl prog f159 [iS 0] F159_1 := fun R =>
  lf
theorem F159_calls (n0 : Int) (w : World) (R : Rt) (h : F159_1 R n0 [] w) : Calls prog 159 #[.int .i64 n0] w R :=
  plC F159_p func159 h
def F147_1 (R : Rt) (n0 : Int) (ds : Ds) (w : World) : Prop :=
 Br (decide (n0 < 0)) (
 Br (n0 == (-9223372036854775808)) (
 runD prog ds w fun w1 =>
 R (.returned (.string (⟨#[45, 57, 50, 50, 51, 51, 55, 50, 48, 51, 54, 56, 53, 52, 55, 55, 53, 56, 48, 56]⟩ : ByteArray))) w1) (
 Calls prog 147 #[.int .i64 (IntKind.i64.wrap (0 - n0))] w fun e w2 =>
 ∃ s9 : ByteArray, e = .returned (.string s9) /\
 (((⟨#[45]⟩ : ByteArray).size + s9.size : Nat) : Int) <= 9223372036854775807 /\
 runD prog ds w2 fun w3 =>
 R (.returned (.string ((⟨#[45]⟩ : ByteArray) ++ s9))) w3)) (
 Br (decide (n0 < 10)) (
 0 <= (IntKind.i64.wrap (n0 + 1)) /\ (IntKind.i64.wrap (n0 + 1)).toNat <= (⟨#[48, 49, 50, 51, 52, 53, 54, 55, 56, 57]⟩ : ByteArray).size /\ 0 <= n0 /\ n0.toNat <= (IntKind.i64.wrap (n0 + 1)).toNat /\
 runD prog ds w fun w4 =>
 R (.returned (.string ((⟨#[48, 49, 50, 51, 52, 53, 54, 55, 56, 57]⟩ : ByteArray).extract n0.toNat ((IntKind.i64.wrap (n0 + 1)).toNat)))) w4) (
 IntKind.i64 = IntKind.i64 /\ (10 : Int) ≠ 0 /\
 Calls prog 147 #[.int .i64 (IntKind.i64.wrap (n0.tdiv 10))] w fun e w5 =>
 ∃ s19 : ByteArray, e = .returned (.string s19) /\
 IntKind.i64 = IntKind.i64 /\ (10 : Int) ≠ 0 /\
 Calls prog 147 #[.int .i64 (n0.tmod 10)] w5 fun e w6 =>
 ∃ s22 : ByteArray, e = .returned (.string s22) /\
 ((s19.size + s22.size : Nat) : Int) <= 9223372036854775807 /\
 runD prog ds w6 fun w7 =>
 R (.returned (.string (s19 ++ s22))) w7))
theorem F147_p : Pl prog f147 [iS 0] F147_1 := fun R =>
  lf
theorem F147_calls (n0 : Int) (w : World) (R : Rt) (h : F147_1 R n0 [] w) : Calls prog 147 #[.int .i64 n0] w R :=
  plC F147_p func147 h
def F99_1 (R : Rt) (s0 : ByteArray) (n3 : Int) (ds : Ds) (w : World) : Prop :=
 0 <= n3 /\ n3.toNat <= s0.size /\ 0 <= n3.toNat /\
 runD prog ds w fun w1 =>
 R (.returned (.string (s0.extract 0 n3.toNat))) w1
def F99_2 (R : Rt) (J1 : (Int) -> World -> Prop) (s0 : ByteArray) (n3 : Int) (ds : Ds) (w : World) : Prop :=
 Br (decide (n3 > 0)) (
 ∃ b12 : UInt8, 0 <= (IntKind.i64.wrap (n3 - 1)) /\ s0[(IntKind.i64.wrap (n3 - 1)).toNat]? = some b12 /\
 Br ((b12.toNat : Int) == 32) (
 J1 (IntKind.i64.wrap (n3 - 1)) w) (
 F99_1 R s0 n3 ds w)) (
 F99_1 R s0 n3 ds w)
def F99_3 (R : Rt) (s0 : ByteArray) (n3 : Int) (ds : Ds) (w : World) : Prop :=
 loopT (fun (J1 : (Int) -> World -> Prop) (s : Int) (w : World) => F99_2 R J1 s0 s ds w) n3 w
def F99_5 (R : Rt) (s0 : ByteArray) (ds : Ds) (w : World) : Prop :=
 F99_3 R s0 (s0.size : Int) ds w
theorem F99_p : Pl prog f99 [sS 0] F99_5 := fun R =>
  pc 2 (rest [sS 0, iS 3] (F99_3 R) (bk 0 (rest [sS 0, iS 3] (F99_1 R) lf) (lp [iS 3] [sS 0, iS 3] (F99_2 R) rnil fun J1 => lf)))
theorem F99_calls (s0 : ByteArray) (w : World) (R : Rt) (h : F99_5 R s0 [] w) : Calls prog 99 #[.string s0] w R :=
  plC F99_p func99 h
def F101_1 (R : Rt) (s0 : ByteArray) (ds : Ds) (w : World) : Prop :=
 alE (.cells #[.int .i64 0, .int .i64 0, .string (⟨#[]⟩ : ByteArray)] 28) w fun r2 w1 =>
 stA prog 28 (⟨r2, 0, none⟩ : Addr) #[.int .i64 4, .int .i64 0, .string s0] w1 fun w2 =>
 runD prog ds w2 fun w3 =>
 ∃ nR0_0, w3.cell? ((⟨r2, 0, none⟩ : Addr).add 0) = some (.int .i64 nR0_0) /\
 ∃ nR0_1, w3.cell? ((⟨r2, 0, none⟩ : Addr).add 1) = some (.int .i64 nR0_1) /\
 ∃ sR0_2, w3.cell? ((⟨r2, 0, none⟩ : Addr).add 2) = some (.string sR0_2) /\
 R (.returned (.agg #[.int .i64 nR0_0, .int .i64 nR0_1, .string sR0_2])) w3
theorem F101_p : Pl prog f101 [sS 0] F101_1 := fun R =>
  lf
theorem F101_calls (s0 : ByteArray) (w : World) (R : Rt) (h : F101_1 R s0 [] w) : Calls prog 101 #[.string s0] w R :=
  plC F101_p func101 h
end Go.Proofs.YtcihcbfcgjepfaaGreatDoor

/- Shallow texts of functions, printed by program, each checked by the kernel against the loaded code. No condition. -/
set_option maxRecDepth 100000
set_option linter.unusedVariables false
namespace Go.Proofs.YtcihcbfcgjepfaaGreatDoor
open Go.Sh Tryz
def F110_1 (R : Rt) (s0 : ByteArray) (n1 : Int) (ds : Ds) (w : World) : Prop :=
 Calls prog 157 #[.string s0, .int .i64 n1] w fun e w1 =>
 ∃ b10_0 : Bool, ∃ n10_1 : Int, e = .returned (.tuple #[.bool b10_0, .int .i64 n10_1]) /\
 Br b10_0 (
 runD prog ds w1 fun w2 =>
 R (.returned (.bool (n10_1 == 0))) w2) (
 runD prog ds w1 fun w3 =>
 R (.returned (.bool false)) w3)
theorem F110_p : Pl prog f110 [sS 0, iS 1] F110_1 := fun R =>
  lf
theorem F110_calls (s0 : ByteArray) (n1 : Int) (w : World) (R : Rt) (h : F110_1 R s0 n1 [] w) : Calls prog 110 #[.string s0, .int .i64 n1] w R :=
  plC F110_p func110 h
def F157_1 (R : Rt) (ds : Ds) (w : World) : Prop :=
 runD prog ds w fun w1 =>
 R (.returned (.tuple #[.bool true, .int .i64 0])) w1
def F157_2 (R : Rt) (J1 : (Int) -> World -> Prop) (p7 : Option Addr) (l21 : SV) (n22 n23 : Int) (ds : Ds) (w : World) : Prop :=
 Br (decide (n23 < n22)) (
 ∃ a2, l21.a = some a2 /\ 0 <= n23 /\ n23 < (l21.len : Int) /\
 ∃ n26, w.cell? (a2.add (n23.toNat * 1)) = some (.int .u8 n26) /\
 ptrE p7 fun a3 =>
 0 <= n26 /\ n26 < (256 : Int) /\
 ∃ n29, w.cell? (a3.add (n26.toNat * 1)) = some (.int .i32 n29) /\
 Br (decide (n29 < 0)) (
 runD prog ds w fun w4 =>
 R (.returned (.tuple #[.bool false, .int .i64 0])) w4) (
 J1 (IntKind.i64.wrap (n23 + 1)) w)) (
 F157_1 R ds w)
def F157_3 (R : Rt) (p7 : Option Addr) (l21 : SV) (n22 n23 : Int) (ds : Ds) (w : World) : Prop :=
 loopT (fun (J1 : (Int) -> World -> Prop) (s : Int) (w : World) => F157_2 R J1 p7 l21 n22 s ds w) n23 w
def F157_5 (R : Rt) (s0 : ByteArray) (n1 : Int) (ds : Ds) (w : World) : Prop :=
 alE (.cells #[.string s0] 9) w fun r12 w5 =>
 Calls prog 192 #[.int .i64 n1, .slice (some ⟨r12, 0, none⟩) 1 1] w5 fun e w6 =>
 ∃ n13 : Int, e = .returned (.int .i64 n13) /\
 Br (n13 != 0) (
 runD prog ds w6 fun w7 =>
 R (.returned (.tuple #[.bool false, .int .i64 n13])) w7) (
 Calls prog 193 #[] w6 fun e w8 =>
 ∃ c17 : Array Value, c17.size = 768 /\ e = .returned (.agg c17) /\
 ∃ c19 : Array Value, c19.size = 256 /\ ∃ w9, (Instr.index 215 (.agg c17) (.int .i64 n1)).run prog w8 = .ok (.agg c19) w9 /\
 alE (.cells (zc prog 214) 214) w9 fun r7 w10 =>
 stA prog 214 (⟨r7, 0, none⟩ : Addr) c19 w10 fun w11 =>
 ∃ l21 : SV, ∃ w12, (convert 9 217 (.string s0)).run prog w11 = .ok (.slice l21.a l21.len l21.cap) w12 /\
 F157_3 R (some (⟨r7, 0, none⟩ : Addr)) l21 (l21.len : Int) 0 ds w12)
theorem F157_p : Pl prog f157 [sS 0, iS 1] F157_5 := fun R =>
  pc 6 (rest [pS 7, lS 21, iS 22, iS 23] (F157_3 R) (bk 0 (rest [] (F157_1 R) lf) (lp [iS 23] [pS 7, lS 21, iS 22, iS 23] (F157_2 R) rnil fun J1 => lf)))
theorem F157_calls (s0 : ByteArray) (n1 : Int) (w : World) (R : Rt) (h : F157_5 R s0 n1 [] w) : Calls prog 157 #[.string s0, .int .i64 n1] w R :=
  plC F157_p func157 h
def F192_1 (R : Rt) (n0 : Int) (ds : Ds) (w : World) : Prop :=
 Br (decide (n0 < 0)) (
 runD prog ds w fun w1 =>
 R (.returned (.int .i64 1)) w1) (
 Br (decide (n0 > 2)) (
 runD prog ds w fun w2 =>
 R (.returned (.int .i64 1)) w2) (
 runD prog ds w fun w3 =>
 R (.returned (.int .i64 0)) w3))
def F192_2 (R : Rt) (J1 : (Int) -> World -> Prop) (n0 : Int) (l7 : SV) (n8 n9 : Int) (ds : Ds) (w : World) : Prop :=
 Br (decide (n9 < n8)) (
 ∃ a4, l7.a = some a4 /\ 0 <= n9 /\ n9 < (l7.len : Int) /\
 ∃ s12, w.cell? (a4.add (n9.toNat * 1)) = some (.string s12) /\
 Br (decide ((s12.size : Int) > 2048)) (
 runD prog ds w fun w5 =>
 R (.returned (.int .i64 3)) w5) (
 J1 (IntKind.i64.wrap (n9 + 1)) w)) (
 F192_1 R n0 ds w)
def F192_3 (R : Rt) (n0 : Int) (l7 : SV) (n8 n9 : Int) (ds : Ds) (w : World) : Prop :=
 loopT (fun (J1 : (Int) -> World -> Prop) (s : Int) (w : World) => F192_2 R J1 n0 l7 n8 s ds w) n9 w
def F192_5 (R : Rt) (n0 : Int) (l1 : SV) (ds : Ds) (w : World) : Prop :=
 F192_3 R n0 l1 (l1.len : Int) 0 ds w
theorem F192_p : Pl prog f192 [iS 0, lS 1] F192_5 := fun R =>
  pc 2 (rest [iS 0, lS 7, iS 8, iS 9] (F192_3 R) (bk 0 (rest [iS 0] (F192_1 R) lf) (lp [iS 9] [iS 0, lS 7, iS 8, iS 9] (F192_2 R) rnil fun J1 => lf)))
theorem F192_calls (n0 : Int) (l1 : SV) (w : World) (R : Rt) (h : F192_5 R n0 l1 [] w) : Calls prog 192 #[.int .i64 n0, .slice l1.a l1.len l1.cap] w R :=
  plC F192_p func192 h
def F193_1 (R : Rt) (p0 p1 : Option Addr) (ds : Ds) (w : World) : Prop :=
 ptrE p1 fun a1 =>
 ∃ c48 : Array Value, c48.size = 768 /\ (∀ i, i < 768 -> w.cell? (a1.add i) = c48[i]?) /\
 ptrE p0 fun a2 =>
 stA prog 215 a2 c48 w fun w3 =>
 runD prog ds w3 fun w4 =>
 ptrE p0 fun a5 =>
 ∃ cR0 : Array Value, cR0.size = 768 /\ (∀ i, i < 768 -> w4.cell? (a5.add i) = cR0[i]?) /\
 R (.returned (.agg cR0)) w4
def F193_2 (R : Rt) (J1 : (Int) -> World -> Prop) (p0 p1 : Option Addr) (n5 : Int) (ds : Ds) (w : World) : Prop :=
 Br (decide (n5 <= 239)) (
 ptrE p1 fun a6 =>
 0 <= (2 : Int) /\ (2 : Int) < (3 : Int) /\
 0 <= n5 /\ n5 < (256 : Int) /\
 st1 ((a6.add ((2 : Int).toNat * 256)).add (n5.toNat * 1)) (.int .i32 (IntKind.i32.wrap ((1088 : Int) + (IntKind.i32.wrap (IntKind.i64.wrap (n5 - 224)))))) w fun w7 =>
 J1 (IntKind.i64.wrap (n5 + 1)) w7) (
 F193_1 R p0 p1 ds w)
def F193_3 (R : Rt) (p0 p1 : Option Addr) (n5 : Int) (ds : Ds) (w : World) : Prop :=
 loopT (fun (J1 : (Int) -> World -> Prop) (s : Int) (w : World) => F193_2 R J1 p0 p1 s ds w) n5 w
def F193_5 (R : Rt) (p0 p1 : Option Addr) (ds : Ds) (w : World) : Prop :=
 F193_3 R p0 p1 224 ds w
def F193_6 (R : Rt) (J1 : (Int) -> World -> Prop) (p0 p1 : Option Addr) (n4 : Int) (ds : Ds) (w : World) : Prop :=
 Br (decide (n4 <= 175)) (
 ptrE p1 fun a8 =>
 0 <= (2 : Int) /\ (2 : Int) < (3 : Int) /\
 0 <= n4 /\ n4 < (256 : Int) /\
 st1 ((a8.add ((2 : Int).toNat * 256)).add (n4.toNat * 1)) (.int .i32 (IntKind.i32.wrap ((1040 : Int) + (IntKind.i32.wrap (IntKind.i64.wrap (n4 - 128)))))) w fun w9 =>
 J1 (IntKind.i64.wrap (n4 + 1)) w9) (
 F193_5 R p0 p1 ds w)
def F193_7 (R : Rt) (p0 p1 : Option Addr) (n4 : Int) (ds : Ds) (w : World) : Prop :=
 loopT (fun (J1 : (Int) -> World -> Prop) (s : Int) (w : World) => F193_6 R J1 p0 p1 s ds w) n4 w
def F193_9 (R : Rt) (p0 p1 : Option Addr) (ds : Ds) (w : World) : Prop :=
 F193_7 R p0 p1 128 ds w
def F193_10 (R : Rt) (J1 : (Int) -> World -> Prop) (p0 p1 : Option Addr) (n6 : Int) (ds : Ds) (w : World) : Prop :=
 Br (decide (n6 < 256)) (
 ptrE p1 fun a10 =>
 0 <= (1 : Int) /\ (1 : Int) < (3 : Int) /\
 0 <= n6 /\ n6 < (256 : Int) /\
 st1 ((a10.add ((1 : Int).toNat * 256)).add (n6.toNat * 1)) (.int .i32 (IntKind.i32.wrap n6)) w fun w11 =>
 Br (decide (n6 ≥ 128)) (
 ptrE p1 fun a12 =>
 0 <= (0 : Int) /\ (0 : Int) < (3 : Int) /\
 0 <= n6 /\ n6 < (256 : Int) /\
 st1 ((a12.add ((0 : Int).toNat * 256)).add (n6.toNat * 1)) (.int .i32 (-1)) w11 fun w13 =>
 ptrE p1 fun a14 =>
 0 <= (2 : Int) /\ (2 : Int) < (3 : Int) /\
 0 <= n6 /\ n6 < (256 : Int) /\
 st1 ((a14.add ((2 : Int).toNat * 256)).add (n6.toNat * 1)) (.int .i32 (-1)) w13 fun w15 =>
 J1 (IntKind.i64.wrap (n6 + 1)) w15) (
 ptrE p1 fun a16 =>
 0 <= (0 : Int) /\ (0 : Int) < (3 : Int) /\
 0 <= n6 /\ n6 < (256 : Int) /\
 st1 ((a16.add ((0 : Int).toNat * 256)).add (n6.toNat * 1)) (.int .i32 (IntKind.i32.wrap n6)) w11 fun w17 =>
 ptrE p1 fun a18 =>
 0 <= (2 : Int) /\ (2 : Int) < (3 : Int) /\
 0 <= n6 /\ n6 < (256 : Int) /\
 st1 ((a18.add ((2 : Int).toNat * 256)).add (n6.toNat * 1)) (.int .i32 (IntKind.i32.wrap n6)) w17 fun w19 =>
 J1 (IntKind.i64.wrap (n6 + 1)) w19)) (
 F193_9 R p0 p1 ds w)
def F193_11 (R : Rt) (p0 p1 : Option Addr) (n6 : Int) (ds : Ds) (w : World) : Prop :=
 loopT (fun (J1 : (Int) -> World -> Prop) (s : Int) (w : World) => F193_10 R J1 p0 p1 s ds w) n6 w
def F193_13 (R : Rt) (ds : Ds) (w : World) : Prop :=
 alE (.cells (zc prog 215) 215) w fun r0 w20 =>
 alE (.cells (zc prog 215) 215) w20 fun r1 w21 =>
 F193_11 R (some (⟨r0, 0, none⟩ : Addr)) (some (⟨r1, 0, none⟩ : Addr)) 0 ds w21
theorem F193_p : Pl prog f193 [] F193_13 := fun R =>
  pc 3 (rest [pS 0, pS 1, iS 6] (F193_11 R) (bk 0 (rest [pS 0, pS 1] (F193_9 R) (pc 1 (rest [pS 0, pS 1, iS 4] (F193_7 R) (bk 2 (rest [pS 0, pS 1] (F193_5 R) (pc 1 (rest [pS 0, pS 1, iS 5] (F193_3 R) (bk 4 (rest [pS 0, pS 1] (F193_1 R) lf) (lp [iS 5] [pS 0, pS 1, iS 5] (F193_2 R) rnil fun J1 => lf))))) (lp [iS 4] [pS 0, pS 1, iS 4] (F193_6 R) rnil fun J1 => lf))))) (lp [iS 6] [pS 0, pS 1, iS 6] (F193_10 R) rnil fun J1 => lf)))
theorem F193_calls  (w : World) (R : Rt) (h : F193_13 R [] w) : Calls prog 193 #[] w R :=
  plC F193_p func193 h
def F100_1 (R : Rt) (ds : Ds) (w : World) : Prop :=
 runD prog ds w fun w1 =>
 R (.returned (.bool true)) w1
def F100_2 (R : Rt) (J1 : (Int) -> World -> Prop) (s0 : ByteArray) (n1 n5 : Int) (ds : Ds) (w : World) : Prop :=
 Br (decide (n5 < (s0.size : Int))) (
 ∃ b14 : UInt8, 0 <= n5 /\ s0[n5.toNat]? = some b14 /\
 Calls prog 149 #[.int .u8 (b14.toNat : Int), .int .i64 n1] w fun e w2 =>
 ∃ b16 : Bool, e = .returned (.bool b16) /\
 Br (!b16) (
 runD prog ds w2 fun w3 =>
 R (.returned (.bool false)) w3) (
 J1 (IntKind.i64.wrap (n5 + 1)) w2)) (
 F100_1 R ds w)
def F100_3 (R : Rt) (s0 : ByteArray) (n1 n5 : Int) (ds : Ds) (w : World) : Prop :=
 loopT (fun (J1 : (Int) -> World -> Prop) (s : Int) (w : World) => F100_2 R J1 s0 n1 s ds w) n5 w
def F100_5 (R : Rt) (s0 : ByteArray) (n1 : Int) (ds : Ds) (w : World) : Prop :=
 F100_3 R s0 n1 0 ds w
theorem F100_p : Pl prog f100 [sS 0, iS 1] F100_5 := fun R =>
  pc 2 (rest [sS 0, iS 1, iS 5] (F100_3 R) (bk 0 (rest [] (F100_1 R) lf) (lp [iS 5] [sS 0, iS 1, iS 5] (F100_2 R) rnil fun J1 => lf)))
theorem F100_calls (s0 : ByteArray) (n1 : Int) (w : World) (R : Rt) (h : F100_5 R s0 n1 [] w) : Calls prog 100 #[.string s0, .int .i64 n1] w R :=
  plC F100_p func100 h
def F149_1 (R : Rt) (n0 n1 : Int) (ds : Ds) (w : World) : Prop :=
 Br (n1 == 0) (
 runD prog ds w fun w1 =>
 R (.returned (.bool (decide (n0 < 128)))) w1) (
 Br (n1 == 1) (
 runD prog ds w fun w2 =>
 R (.returned (.bool true)) w2) (
 Br (decide (n0 < 176)) (
 runD prog ds w fun w3 =>
 R (.returned (.bool true)) w3) (
 Br (decide (n0 ≥ 224)) (
 runD prog ds w fun w4 =>
 R (.returned (.bool (decide (n0 < 240)))) w4) (
 runD prog ds w fun w5 =>
 R (.returned (.bool false)) w5))))
theorem F149_p : Pl prog f149 [kS .u8 0, iS 1] F149_1 := fun R =>
  lf
theorem F149_calls (n0 n1 : Int) (w : World) (R : Rt) (h : F149_1 R n0 n1 [] w) : Calls prog 149 #[.int .u8 n0, .int .i64 n1] w R :=
  plC F149_p func149 h
end Go.Proofs.YtcihcbfcgjepfaaGreatDoor

/- Shallow texts of functions, printed by program, each checked by the kernel against the loaded code. No condition. -/
set_option maxRecDepth 100000
set_option linter.unusedVariables false
namespace Go.Proofs.YtcihcbfcgjepfaaGreatDoor
open Go.Sh Tryz
def F52_1 (R : Rt) (n1 : Int) (p3 p5 p6 : Option Addr) (n42 : Int) (ds : Ds) (w : World) : Prop :=
 Br (n42 == 4) (
 ptrE p5 fun a1 =>
 ∃ s46, w.cell? (a1.add 2) = some (.string s46) /\
 ptrE p5 fun a2 =>
 ∃ s48, w.cell? (a2.add 2) = some (.string s48) /\
 ptrE p3 fun a3 =>
 ∃ n51, w.cell? (a3.add 2) = some (.int .i64 n51) /\
 ∃ n52 : Int, ∃ w4, (Builtin.min_ #[3, 3] 3 #[.int .i64 (s48.size : Int), .int .i64 n51]).run prog w = .ok (.int .i64 n52) w4 /\
 0 <= n52 /\ n52.toNat <= s46.size /\ 0 <= n52.toNat /\
 Calls prog 109 #[.string (s46.extract 0 n52.toNat), .string (⟨#[32]⟩ : ByteArray)] w4 fun e w5 =>
 ∃ s54 : ByteArray, e = .returned (.string s54) /\
 ptrE p5 fun a6 =>
 st1 (a6.add 2) (.string s54) w5 fun w7 =>
 ptrE p5 fun a8 =>
 ∃ s57, w7.cell? (a8.add 2) = some (.string s57) /\
 Calls prog 110 #[.string s57, .int .i64 n1] w7 fun e w9 =>
 ∃ b59 : Bool, e = .returned (.bool b59) /\
 Br (!b59) (
 ptrE p6 fun a10 =>
 stA prog 28 a10 #[.int .i64 0, .int .i64 0, .string (⟨#[]⟩ : ByteArray)] w9 fun w11 =>
 runD prog ds w11 fun w12 =>
 ptrE p6 fun a13 =>
 ∃ nR0_0, w12.cell? (a13.add 0) = some (.int .i64 nR0_0) /\
 ∃ nR0_1, w12.cell? (a13.add 1) = some (.int .i64 nR0_1) /\
 ∃ sR0_2, w12.cell? (a13.add 2) = some (.string sR0_2) /\
 R (.returned (.tuple #[.agg #[.int .i64 nR0_0, .int .i64 nR0_1, .string sR0_2], .int .i64 10])) w12) (
 ptrE p5 fun a14 =>
 ∃ n90_0, w9.cell? (a14.add 0) = some (.int .i64 n90_0) /\
 ∃ n90_1, w9.cell? (a14.add 1) = some (.int .i64 n90_1) /\
 ∃ s90_2, w9.cell? (a14.add 2) = some (.string s90_2) /\
 ptrE p6 fun a15 =>
 stA prog 28 a15 #[.int .i64 n90_0, .int .i64 n90_1, .string s90_2] w9 fun w16 =>
 runD prog ds w16 fun w17 =>
 ptrE p6 fun a18 =>
 ∃ nR0_0, w17.cell? (a18.add 0) = some (.int .i64 nR0_0) /\
 ∃ nR0_1, w17.cell? (a18.add 1) = some (.int .i64 nR0_1) /\
 ∃ sR0_2, w17.cell? (a18.add 2) = some (.string sR0_2) /\
 R (.returned (.tuple #[.agg #[.int .i64 nR0_0, .int .i64 nR0_1, .string sR0_2], .int .i64 0])) w17)) (
 Br (n42 == 2) (
 ptrE p5 fun a19 =>
 ∃ n66, w.cell? (a19.add 1) = some (.int .i64 n66) /\
 ptrE p3 fun a20 =>
 ∃ n68, w.cell? (a20.add 2) = some (.int .i64 n68) /\
 Calls prog 111 #[.int .i64 n66, .int .i64 n68] w fun e w21 =>
 ∃ s69_0 : ByteArray, ∃ n69_1 : Int, e = .returned (.tuple #[.string s69_0, .int .i64 n69_1]) /\
 Br (n69_1 != 0) (
 ptrE p6 fun a22 =>
 stA prog 28 a22 #[.int .i64 0, .int .i64 0, .string (⟨#[]⟩ : ByteArray)] w21 fun w23 =>
 runD prog ds w23 fun w24 =>
 ptrE p6 fun a25 =>
 ∃ nR0_0, w24.cell? (a25.add 0) = some (.int .i64 nR0_0) /\
 ∃ nR0_1, w24.cell? (a25.add 1) = some (.int .i64 nR0_1) /\
 ∃ sR0_2, w24.cell? (a25.add 2) = some (.string sR0_2) /\
 R (.returned (.tuple #[.agg #[.int .i64 nR0_0, .int .i64 nR0_1, .string sR0_2], .int .i64 10])) w24) (
 Calls prog 112 #[.string s69_0, .string (⟨#[42]⟩ : ByteArray)] w21 fun e w26 =>
 ∃ b76 : Bool, e = .returned (.bool b76) /\
 Br b76 (
 ptrE p6 fun a27 =>
 stA prog 28 a27 #[.int .i64 0, .int .i64 0, .string (⟨#[]⟩ : ByteArray)] w26 fun w28 =>
 runD prog ds w28 fun w29 =>
 ptrE p6 fun a30 =>
 ∃ nR0_0, w29.cell? (a30.add 0) = some (.int .i64 nR0_0) /\
 ∃ nR0_1, w29.cell? (a30.add 1) = some (.int .i64 nR0_1) /\
 ∃ sR0_2, w29.cell? (a30.add 2) = some (.string sR0_2) /\
 R (.returned (.tuple #[.agg #[.int .i64 nR0_0, .int .i64 nR0_1, .string sR0_2], .int .i64 10])) w29) (
 ptrE p5 fun a31 =>
 ∃ n90_0, w26.cell? (a31.add 0) = some (.int .i64 n90_0) /\
 ∃ n90_1, w26.cell? (a31.add 1) = some (.int .i64 n90_1) /\
 ∃ s90_2, w26.cell? (a31.add 2) = some (.string s90_2) /\
 ptrE p6 fun a32 =>
 stA prog 28 a32 #[.int .i64 n90_0, .int .i64 n90_1, .string s90_2] w26 fun w33 =>
 runD prog ds w33 fun w34 =>
 ptrE p6 fun a35 =>
 ∃ nR0_0, w34.cell? (a35.add 0) = some (.int .i64 nR0_0) /\
 ∃ nR0_1, w34.cell? (a35.add 1) = some (.int .i64 nR0_1) /\
 ∃ sR0_2, w34.cell? (a35.add 2) = some (.string sR0_2) /\
 R (.returned (.tuple #[.agg #[.int .i64 nR0_0, .int .i64 nR0_1, .string sR0_2], .int .i64 0])) w34))) (
 Br (n42 == 5) (
 ptrE p5 fun a36 =>
 ∃ n82, w.cell? (a36.add 1) = some (.int .i64 n82) /\
 Br (decide (n82 < 0)) (
 ptrE p6 fun a37 =>
 stA prog 28 a37 #[.int .i64 0, .int .i64 0, .string (⟨#[]⟩ : ByteArray)] w fun w38 =>
 runD prog ds w38 fun w39 =>
 ptrE p6 fun a40 =>
 ∃ nR0_0, w39.cell? (a40.add 0) = some (.int .i64 nR0_0) /\
 ∃ nR0_1, w39.cell? (a40.add 1) = some (.int .i64 nR0_1) /\
 ∃ sR0_2, w39.cell? (a40.add 2) = some (.string sR0_2) /\
 R (.returned (.tuple #[.agg #[.int .i64 nR0_0, .int .i64 nR0_1, .string sR0_2], .int .i64 10])) w39) (
 ptrE p5 fun a41 =>
 ∃ n86, w.cell? (a41.add 1) = some (.int .i64 n86) /\
 Br (decide (n86 > 99999999)) (
 ptrE p6 fun a42 =>
 stA prog 28 a42 #[.int .i64 0, .int .i64 0, .string (⟨#[]⟩ : ByteArray)] w fun w43 =>
 runD prog ds w43 fun w44 =>
 ptrE p6 fun a45 =>
 ∃ nR0_0, w44.cell? (a45.add 0) = some (.int .i64 nR0_0) /\
 ∃ nR0_1, w44.cell? (a45.add 1) = some (.int .i64 nR0_1) /\
 ∃ sR0_2, w44.cell? (a45.add 2) = some (.string sR0_2) /\
 R (.returned (.tuple #[.agg #[.int .i64 nR0_0, .int .i64 nR0_1, .string sR0_2], .int .i64 10])) w44) (
 ptrE p5 fun a46 =>
 ∃ n90_0, w.cell? (a46.add 0) = some (.int .i64 n90_0) /\
 ∃ n90_1, w.cell? (a46.add 1) = some (.int .i64 n90_1) /\
 ∃ s90_2, w.cell? (a46.add 2) = some (.string s90_2) /\
 ptrE p6 fun a47 =>
 stA prog 28 a47 #[.int .i64 n90_0, .int .i64 n90_1, .string s90_2] w fun w48 =>
 runD prog ds w48 fun w49 =>
 ptrE p6 fun a50 =>
 ∃ nR0_0, w49.cell? (a50.add 0) = some (.int .i64 nR0_0) /\
 ∃ nR0_1, w49.cell? (a50.add 1) = some (.int .i64 nR0_1) /\
 ∃ sR0_2, w49.cell? (a50.add 2) = some (.string sR0_2) /\
 R (.returned (.tuple #[.agg #[.int .i64 nR0_0, .int .i64 nR0_1, .string sR0_2], .int .i64 0])) w49))) (
 ptrE p5 fun a51 =>
 ∃ n90_0, w.cell? (a51.add 0) = some (.int .i64 n90_0) /\
 ∃ n90_1, w.cell? (a51.add 1) = some (.int .i64 n90_1) /\
 ∃ s90_2, w.cell? (a51.add 2) = some (.string s90_2) /\
 ptrE p6 fun a52 =>
 stA prog 28 a52 #[.int .i64 n90_0, .int .i64 n90_1, .string s90_2] w fun w53 =>
 runD prog ds w53 fun w54 =>
 ptrE p6 fun a55 =>
 ∃ nR0_0, w54.cell? (a55.add 0) = some (.int .i64 nR0_0) /\
 ∃ nR0_1, w54.cell? (a55.add 1) = some (.int .i64 nR0_1) /\
 ∃ sR0_2, w54.cell? (a55.add 2) = some (.string sR0_2) /\
 R (.returned (.tuple #[.agg #[.int .i64 nR0_0, .int .i64 nR0_1, .string sR0_2], .int .i64 0])) w54)))
def F52_2 (R : Rt) (s0_0 : ByteArray) (n0_1 n0_2 : Int) (b0_3 : Bool) (n1 n2_0 n2_1 : Int) (s2_2 : ByteArray) (ds : Ds) (w : World) : Prop :=
 alE (.cells #[.string s0_0, .int .i64 n0_1, .int .i64 n0_2, .bool b0_3] 38) w fun r3 w56 =>
 alE (.cells #[.int .i64 n2_0, .int .i64 n2_1, .string s2_2] 28) w56 fun r5 w57 =>
 alE (.cells #[.int .i64 0, .int .i64 0, .string (⟨#[]⟩ : ByteArray)] 28) w57 fun r6 w58 =>
 ∃ s11_0, w58.cell? ((⟨r3, 0, none⟩ : Addr).add 0) = some (.string s11_0) /\
 ∃ n11_1, w58.cell? ((⟨r3, 0, none⟩ : Addr).add 1) = some (.int .i64 n11_1) /\
 ∃ n11_2, w58.cell? ((⟨r3, 0, none⟩ : Addr).add 2) = some (.int .i64 n11_2) /\
 ∃ b11_3, w58.cell? ((⟨r3, 0, none⟩ : Addr).add 3) = some (.bool b11_3) /\
 Calls prog 106 #[.agg #[.string s11_0, .int .i64 n11_1, .int .i64 n11_2, .bool b11_3]] w58 fun e w59 =>
 ∃ b12 : Bool, e = .returned (.bool b12) /\
 Br (!b12) (
 stA prog 28 (⟨r6, 0, none⟩ : Addr) #[.int .i64 0, .int .i64 0, .string (⟨#[]⟩ : ByteArray)] w59 fun w60 =>
 runD prog ds w60 fun w61 =>
 ∃ nR0_0, w61.cell? ((⟨r6, 0, none⟩ : Addr).add 0) = some (.int .i64 nR0_0) /\
 ∃ nR0_1, w61.cell? ((⟨r6, 0, none⟩ : Addr).add 1) = some (.int .i64 nR0_1) /\
 ∃ sR0_2, w61.cell? ((⟨r6, 0, none⟩ : Addr).add 2) = some (.string sR0_2) /\
 R (.returned (.tuple #[.agg #[.int .i64 nR0_0, .int .i64 nR0_1, .string sR0_2], .int .i64 1])) w61) (
 Calls prog 92 #[.int .i64 n1] w59 fun e w62 =>
 ∃ b16 : Bool, e = .returned (.bool b16) /\
 Br (!b16) (
 stA prog 28 (⟨r6, 0, none⟩ : Addr) #[.int .i64 0, .int .i64 0, .string (⟨#[]⟩ : ByteArray)] w62 fun w63 =>
 runD prog ds w63 fun w64 =>
 ∃ nR0_0, w64.cell? ((⟨r6, 0, none⟩ : Addr).add 0) = some (.int .i64 nR0_0) /\
 ∃ nR0_1, w64.cell? ((⟨r6, 0, none⟩ : Addr).add 1) = some (.int .i64 nR0_1) /\
 ∃ sR0_2, w64.cell? ((⟨r6, 0, none⟩ : Addr).add 2) = some (.string sR0_2) /\
 R (.returned (.tuple #[.agg #[.int .i64 nR0_0, .int .i64 nR0_1, .string sR0_2], .int .i64 1])) w64) (
 ∃ n20_0, w62.cell? ((⟨r5, 0, none⟩ : Addr).add 0) = some (.int .i64 n20_0) /\
 ∃ n20_1, w62.cell? ((⟨r5, 0, none⟩ : Addr).add 1) = some (.int .i64 n20_1) /\
 ∃ s20_2, w62.cell? ((⟨r5, 0, none⟩ : Addr).add 2) = some (.string s20_2) /\
 Calls prog 107 #[.agg #[.int .i64 n20_0, .int .i64 n20_1, .string s20_2]] w62 fun e w65 =>
 ∃ n21 : Int, e = .returned (.int .i64 n21) /\
 Br (n21 != 0) (
 stA prog 28 (⟨r6, 0, none⟩ : Addr) #[.int .i64 0, .int .i64 0, .string (⟨#[]⟩ : ByteArray)] w65 fun w66 =>
 runD prog ds w66 fun w67 =>
 ∃ nR0_0, w67.cell? ((⟨r6, 0, none⟩ : Addr).add 0) = some (.int .i64 nR0_0) /\
 ∃ nR0_1, w67.cell? ((⟨r6, 0, none⟩ : Addr).add 1) = some (.int .i64 nR0_1) /\
 ∃ sR0_2, w67.cell? ((⟨r6, 0, none⟩ : Addr).add 2) = some (.string sR0_2) /\
 R (.returned (.tuple #[.agg #[.int .i64 nR0_0, .int .i64 nR0_1, .string sR0_2], .int .i64 n21])) w67) (
 ∃ n27, w65.cell? (⟨r5, 0, none⟩ : Addr) = some (.int .i64 n27) /\
 Br (n27 == 0) (
 ∃ b30, w65.cell? ((⟨r3, 0, none⟩ : Addr).add 3) = some (.bool b30) /\
 Br (!b30) (
 stA prog 28 (⟨r6, 0, none⟩ : Addr) #[.int .i64 0, .int .i64 0, .string (⟨#[]⟩ : ByteArray)] w65 fun w68 =>
 runD prog ds w68 fun w69 =>
 ∃ nR0_0, w69.cell? ((⟨r6, 0, none⟩ : Addr).add 0) = some (.int .i64 nR0_0) /\
 ∃ nR0_1, w69.cell? ((⟨r6, 0, none⟩ : Addr).add 1) = some (.int .i64 nR0_1) /\
 ∃ sR0_2, w69.cell? ((⟨r6, 0, none⟩ : Addr).add 2) = some (.string sR0_2) /\
 R (.returned (.tuple #[.agg #[.int .i64 nR0_0, .int .i64 nR0_1, .string sR0_2], .int .i64 7])) w69) (
 ∃ n33_0, w65.cell? ((⟨r5, 0, none⟩ : Addr).add 0) = some (.int .i64 n33_0) /\
 ∃ n33_1, w65.cell? ((⟨r5, 0, none⟩ : Addr).add 1) = some (.int .i64 n33_1) /\
 ∃ s33_2, w65.cell? ((⟨r5, 0, none⟩ : Addr).add 2) = some (.string s33_2) /\
 stA prog 28 (⟨r6, 0, none⟩ : Addr) #[.int .i64 n33_0, .int .i64 n33_1, .string s33_2] w65 fun w70 =>
 runD prog ds w70 fun w71 =>
 ∃ nR0_0, w71.cell? ((⟨r6, 0, none⟩ : Addr).add 0) = some (.int .i64 nR0_0) /\
 ∃ nR0_1, w71.cell? ((⟨r6, 0, none⟩ : Addr).add 1) = some (.int .i64 nR0_1) /\
 ∃ sR0_2, w71.cell? ((⟨r6, 0, none⟩ : Addr).add 2) = some (.string sR0_2) /\
 R (.returned (.tuple #[.agg #[.int .i64 nR0_0, .int .i64 nR0_1, .string sR0_2], .int .i64 0])) w71)) (
 dwE w65 fun w72 =>
 ∃ S1 : World -> Prop, S1 w72 /\
 ∃ n35, (∀ w', S1 w' -> w'.cell? (⟨r5, 0, none⟩ : Addr) = some (.int .i64 n35)) /\
 ∃ s36_0, (∀ w', S1 w' -> w'.cell? ((⟨r3, 0, none⟩ : Addr).add 0) = some (.string s36_0)) /\
 ∃ n36_1, (∀ w', S1 w' -> w'.cell? ((⟨r3, 0, none⟩ : Addr).add 1) = some (.int .i64 n36_1)) /\
 ∃ n36_2, (∀ w', S1 w' -> w'.cell? ((⟨r3, 0, none⟩ : Addr).add 2) = some (.int .i64 n36_2)) /\
 ∃ b36_3, (∀ w', S1 w' -> w'.cell? ((⟨r3, 0, none⟩ : Addr).add 3) = some (.bool b36_3)) /\
 Calls prog 108 #[.agg #[.string s36_0, .int .i64 n36_1, .int .i64 n36_2, .bool b36_3]] w72 fun e w73 =>
 ∃ n37_0 : Int, ∃ n37_1 : Int, ∃ s37_2 : ByteArray, e = .returned (.agg #[.int .i64 n37_0, .int .i64 n37_1, .string s37_2]) /\
 S1 w73 /\
 Br (n35 != n37_0) (
 stA prog 28 (⟨r6, 0, none⟩ : Addr) #[.int .i64 0, .int .i64 0, .string (⟨#[]⟩ : ByteArray)] w73 fun w74 =>
 runD prog ds w74 fun w75 =>
 ∃ nR0_0, w75.cell? ((⟨r6, 0, none⟩ : Addr).add 0) = some (.int .i64 nR0_0) /\
 ∃ nR0_1, w75.cell? ((⟨r6, 0, none⟩ : Addr).add 1) = some (.int .i64 nR0_1) /\
 ∃ sR0_2, w75.cell? ((⟨r6, 0, none⟩ : Addr).add 2) = some (.string sR0_2) /\
 R (.returned (.tuple #[.agg #[.int .i64 nR0_0, .int .i64 nR0_1, .string sR0_2], .int .i64 6])) w75) (
 ∃ n42, w73.cell? ((⟨r3, 0, none⟩ : Addr).add 1) = some (.int .i64 n42) /\
 F52_1 R n1 (some (⟨r3, 0, none⟩ : Addr)) (some (⟨r5, 0, none⟩ : Addr)) (some (⟨r6, 0, none⟩ : Addr)) n42 ds w73)))))
theorem F52_p : Pl prog f52 [aS 0 [.str, .int .i64, .int .i64, .bool], iS 1, aS 2 [.int .i64, .int .i64, .str]] F52_2 := fun R =>
  pc 11 (rest [iS 1, pS 3, pS 5, pS 6, iS 42] (F52_1 R) lf)
theorem F52_calls (s0_0 : ByteArray) (n0_1 n0_2 : Int) (b0_3 : Bool) (n1 n2_0 n2_1 : Int) (s2_2 : ByteArray) (w : World) (R : Rt) (h : F52_2 R s0_0 n0_1 n0_2 b0_3 n1 n2_0 n2_1 s2_2 [] w) : Calls prog 52 #[.agg #[.string s0_0, .int .i64 n0_1, .int .i64 n0_2, .bool b0_3], .int .i64 n1, .agg #[.int .i64 n2_0, .int .i64 n2_1, .string s2_2]] w R :=
  plC F52_p func52 h
def F13_1 (R : Rt) (s0_0 : ByteArray) (n0_1 n0_2 : Int) (b0_3 : Bool) (n1 n2_0 n2_1 : Int) (s2_2 : ByteArray) (ds : Ds) (w : World) : Prop :=
 alE (.cells #[.string s0_0, .int .i64 n0_1, .int .i64 n0_2, .bool b0_3] 38) w fun r3 w1 =>
 alE (.cells #[.int .i64 n2_0, .int .i64 n2_1, .string s2_2] 28) w1 fun r5 w2 =>
 alE (.cells #[.int .i64 0, .int .i64 0, .string (⟨#[]⟩ : ByteArray)] 28) w2 fun r6 w3 =>
 ∃ s9_0, w3.cell? ((⟨r3, 0, none⟩ : Addr).add 0) = some (.string s9_0) /\
 ∃ n9_1, w3.cell? ((⟨r3, 0, none⟩ : Addr).add 1) = some (.int .i64 n9_1) /\
 ∃ n9_2, w3.cell? ((⟨r3, 0, none⟩ : Addr).add 2) = some (.int .i64 n9_2) /\
 ∃ b9_3, w3.cell? ((⟨r3, 0, none⟩ : Addr).add 3) = some (.bool b9_3) /\
 Calls prog 44 #[.agg #[.string s9_0, .int .i64 n9_1, .int .i64 n9_2, .bool b9_3]] w3 fun e w4 =>
 ∃ b10 : Bool, e = .returned (.bool b10) /\
 Br (!b10) (
 stA prog 28 (⟨r6, 0, none⟩ : Addr) #[.int .i64 0, .int .i64 0, .string (⟨#[]⟩ : ByteArray)] w4 fun w5 =>
 runD prog ds w5 fun w6 =>
 ∃ nR0_0, w6.cell? ((⟨r6, 0, none⟩ : Addr).add 0) = some (.int .i64 nR0_0) /\
 ∃ nR0_1, w6.cell? ((⟨r6, 0, none⟩ : Addr).add 1) = some (.int .i64 nR0_1) /\
 ∃ sR0_2, w6.cell? ((⟨r6, 0, none⟩ : Addr).add 2) = some (.string sR0_2) /\
 R (.returned (.tuple #[.agg #[.int .i64 nR0_0, .int .i64 nR0_1, .string sR0_2], .int .i64 1])) w6) (
 Calls prog 41 #[.int .i64 n1] w4 fun e w7 =>
 ∃ b14 : Bool, e = .returned (.bool b14) /\
 Br (!b14) (
 stA prog 28 (⟨r6, 0, none⟩ : Addr) #[.int .i64 0, .int .i64 0, .string (⟨#[]⟩ : ByteArray)] w7 fun w8 =>
 runD prog ds w8 fun w9 =>
 ∃ nR0_0, w9.cell? ((⟨r6, 0, none⟩ : Addr).add 0) = some (.int .i64 nR0_0) /\
 ∃ nR0_1, w9.cell? ((⟨r6, 0, none⟩ : Addr).add 1) = some (.int .i64 nR0_1) /\
 ∃ sR0_2, w9.cell? ((⟨r6, 0, none⟩ : Addr).add 2) = some (.string sR0_2) /\
 R (.returned (.tuple #[.agg #[.int .i64 nR0_0, .int .i64 nR0_1, .string sR0_2], .int .i64 1])) w9) (
 ∃ n18_0, w7.cell? ((⟨r5, 0, none⟩ : Addr).add 0) = some (.int .i64 n18_0) /\
 ∃ n18_1, w7.cell? ((⟨r5, 0, none⟩ : Addr).add 1) = some (.int .i64 n18_1) /\
 ∃ s18_2, w7.cell? ((⟨r5, 0, none⟩ : Addr).add 2) = some (.string s18_2) /\
 Calls prog 45 #[.agg #[.int .i64 n18_0, .int .i64 n18_1, .string s18_2]] w7 fun e w10 =>
 ∃ n19 : Int, e = .returned (.int .i64 n19) /\
 Br (n19 != 0) (
 stA prog 28 (⟨r6, 0, none⟩ : Addr) #[.int .i64 0, .int .i64 0, .string (⟨#[]⟩ : ByteArray)] w10 fun w11 =>
 runD prog ds w11 fun w12 =>
 ∃ nR0_0, w12.cell? ((⟨r6, 0, none⟩ : Addr).add 0) = some (.int .i64 nR0_0) /\
 ∃ nR0_1, w12.cell? ((⟨r6, 0, none⟩ : Addr).add 1) = some (.int .i64 nR0_1) /\
 ∃ sR0_2, w12.cell? ((⟨r6, 0, none⟩ : Addr).add 2) = some (.string sR0_2) /\
 R (.returned (.tuple #[.agg #[.int .i64 nR0_0, .int .i64 nR0_1, .string sR0_2], .int .i64 n19])) w12) (
 ∃ s24_0, w10.cell? ((⟨r3, 0, none⟩ : Addr).add 0) = some (.string s24_0) /\
 ∃ n24_1, w10.cell? ((⟨r3, 0, none⟩ : Addr).add 1) = some (.int .i64 n24_1) /\
 ∃ n24_2, w10.cell? ((⟨r3, 0, none⟩ : Addr).add 2) = some (.int .i64 n24_2) /\
 ∃ b24_3, w10.cell? ((⟨r3, 0, none⟩ : Addr).add 3) = some (.bool b24_3) /\
 ∃ n26_0, w10.cell? ((⟨r5, 0, none⟩ : Addr).add 0) = some (.int .i64 n26_0) /\
 ∃ n26_1, w10.cell? ((⟨r5, 0, none⟩ : Addr).add 1) = some (.int .i64 n26_1) /\
 ∃ s26_2, w10.cell? ((⟨r5, 0, none⟩ : Addr).add 2) = some (.string s26_2) /\
 Calls prog 46 #[.agg #[.string s24_0, .int .i64 n24_1, .int .i64 n24_2, .bool b24_3], .int .i64 n1, .agg #[.int .i64 n26_0, .int .i64 n26_1, .string s26_2]] w10 fun e w13 =>
 ∃ n27_0_0 : Int, ∃ n27_0_1 : Int, ∃ s27_0_2 : ByteArray, ∃ n27_1 : Int, e = .returned (.tuple #[.agg #[.int .i64 n27_0_0, .int .i64 n27_0_1, .string s27_0_2], .int .i64 n27_1]) /\
 stA prog 28 (⟨r6, 0, none⟩ : Addr) #[.int .i64 n27_0_0, .int .i64 n27_0_1, .string s27_0_2] w13 fun w14 =>
 runD prog ds w14 fun w15 =>
 ∃ nR0_0, w15.cell? ((⟨r6, 0, none⟩ : Addr).add 0) = some (.int .i64 nR0_0) /\
 ∃ nR0_1, w15.cell? ((⟨r6, 0, none⟩ : Addr).add 1) = some (.int .i64 nR0_1) /\
 ∃ sR0_2, w15.cell? ((⟨r6, 0, none⟩ : Addr).add 2) = some (.string sR0_2) /\
 R (.returned (.tuple #[.agg #[.int .i64 nR0_0, .int .i64 nR0_1, .string sR0_2], .int .i64 n27_1])) w15)))
theorem F13_p : Pl prog f13 [aS 0 [.str, .int .i64, .int .i64, .bool], iS 1, aS 2 [.int .i64, .int .i64, .str]] F13_1 := fun R =>
  lf
theorem F13_calls (s0_0 : ByteArray) (n0_1 n0_2 : Int) (b0_3 : Bool) (n1 n2_0 n2_1 : Int) (s2_2 : ByteArray) (w : World) (R : Rt) (h : F13_1 R s0_0 n0_1 n0_2 b0_3 n1 n2_0 n2_1 s2_2 [] w) : Calls prog 13 #[.agg #[.string s0_0, .int .i64 n0_1, .int .i64 n0_2, .bool b0_3], .int .i64 n1, .agg #[.int .i64 n2_0, .int .i64 n2_1, .string s2_2]] w R :=
  plC F13_p func13 h
def F46_1 (R : Rt) (s0_0 : ByteArray) (n0_1 n0_2 : Int) (b0_3 : Bool) (n1 n2_0 n2_1 : Int) (s2_2 : ByteArray) (ds : Ds) (w : World) : Prop :=
 alE (.cells #[.string s0_0, .int .i64 n0_1, .int .i64 n0_2, .bool b0_3] 38) w fun r3 w1 =>
 alE (.cells #[.int .i64 n2_0, .int .i64 n2_1, .string s2_2] 28) w1 fun r5 w2 =>
 alE (.cells #[.int .i64 0, .int .i64 0, .string (⟨#[]⟩ : ByteArray)] 28) w2 fun r6 w3 =>
 ∃ n11, w3.cell? (⟨r5, 0, none⟩ : Addr) = some (.int .i64 n11) /\
 Br (n11 == 0) (
 ∃ b14, w3.cell? ((⟨r3, 0, none⟩ : Addr).add 3) = some (.bool b14) /\
 Br (!b14) (
 stA prog 28 (⟨r6, 0, none⟩ : Addr) #[.int .i64 0, .int .i64 0, .string (⟨#[]⟩ : ByteArray)] w3 fun w4 =>
 runD prog ds w4 fun w5 =>
 ∃ nR0_0, w5.cell? ((⟨r6, 0, none⟩ : Addr).add 0) = some (.int .i64 nR0_0) /\
 ∃ nR0_1, w5.cell? ((⟨r6, 0, none⟩ : Addr).add 1) = some (.int .i64 nR0_1) /\
 ∃ sR0_2, w5.cell? ((⟨r6, 0, none⟩ : Addr).add 2) = some (.string sR0_2) /\
 R (.returned (.tuple #[.agg #[.int .i64 nR0_0, .int .i64 nR0_1, .string sR0_2], .int .i64 7])) w5) (
 ∃ n17_0, w3.cell? ((⟨r5, 0, none⟩ : Addr).add 0) = some (.int .i64 n17_0) /\
 ∃ n17_1, w3.cell? ((⟨r5, 0, none⟩ : Addr).add 1) = some (.int .i64 n17_1) /\
 ∃ s17_2, w3.cell? ((⟨r5, 0, none⟩ : Addr).add 2) = some (.string s17_2) /\
 stA prog 28 (⟨r6, 0, none⟩ : Addr) #[.int .i64 n17_0, .int .i64 n17_1, .string s17_2] w3 fun w6 =>
 runD prog ds w6 fun w7 =>
 ∃ nR0_0, w7.cell? ((⟨r6, 0, none⟩ : Addr).add 0) = some (.int .i64 nR0_0) /\
 ∃ nR0_1, w7.cell? ((⟨r6, 0, none⟩ : Addr).add 1) = some (.int .i64 nR0_1) /\
 ∃ sR0_2, w7.cell? ((⟨r6, 0, none⟩ : Addr).add 2) = some (.string sR0_2) /\
 R (.returned (.tuple #[.agg #[.int .i64 nR0_0, .int .i64 nR0_1, .string sR0_2], .int .i64 0])) w7)) (
 ∃ n19, w3.cell? ((⟨r3, 0, none⟩ : Addr).add 1) = some (.int .i64 n19) /\
 Br (n19 == 5) (
 ∃ n23, w3.cell? (⟨r5, 0, none⟩ : Addr) = some (.int .i64 n23) /\
 Br (n23 != 2) (
 stA prog 28 (⟨r6, 0, none⟩ : Addr) #[.int .i64 0, .int .i64 0, .string (⟨#[]⟩ : ByteArray)] w3 fun w8 =>
 runD prog ds w8 fun w9 =>
 ∃ nR0_0, w9.cell? ((⟨r6, 0, none⟩ : Addr).add 0) = some (.int .i64 nR0_0) /\
 ∃ nR0_1, w9.cell? ((⟨r6, 0, none⟩ : Addr).add 1) = some (.int .i64 nR0_1) /\
 ∃ sR0_2, w9.cell? ((⟨r6, 0, none⟩ : Addr).add 2) = some (.string sR0_2) /\
 R (.returned (.tuple #[.agg #[.int .i64 nR0_0, .int .i64 nR0_1, .string sR0_2], .int .i64 6])) w9) (
 ∃ n28, w3.cell? ((⟨r3, 0, none⟩ : Addr).add 1) = some (.int .i64 n28) /\
 Br (n28 == 4) (
 ∃ s31, w3.cell? ((⟨r5, 0, none⟩ : Addr).add 2) = some (.string s31) /\
 ∃ s33, w3.cell? ((⟨r5, 0, none⟩ : Addr).add 2) = some (.string s33) /\
 ∃ n36, w3.cell? ((⟨r3, 0, none⟩ : Addr).add 2) = some (.int .i64 n36) /\
 ∃ n37 : Int, ∃ w10, (Builtin.min_ #[3, 3] 3 #[.int .i64 (s33.size : Int), .int .i64 n36]).run prog w3 = .ok (.int .i64 n37) w10 /\
 0 <= n37 /\ n37.toNat <= s31.size /\ 0 <= n37.toNat /\
 Calls prog 99 #[.string (s31.extract 0 n37.toNat)] w10 fun e w11 =>
 ∃ s39 : ByteArray, e = .returned (.string s39) /\
 Calls prog 100 #[.string s39, .int .i64 n1] w11 fun e w12 =>
 ∃ b42 : Bool, e = .returned (.bool b42) /\
 Br (!b42) (
 stA prog 28 (⟨r6, 0, none⟩ : Addr) #[.int .i64 0, .int .i64 0, .string (⟨#[]⟩ : ByteArray)] w12 fun w13 =>
 runD prog ds w13 fun w14 =>
 ∃ nR0_0, w14.cell? ((⟨r6, 0, none⟩ : Addr).add 0) = some (.int .i64 nR0_0) /\
 ∃ nR0_1, w14.cell? ((⟨r6, 0, none⟩ : Addr).add 1) = some (.int .i64 nR0_1) /\
 ∃ sR0_2, w14.cell? ((⟨r6, 0, none⟩ : Addr).add 2) = some (.string sR0_2) /\
 R (.returned (.tuple #[.agg #[.int .i64 nR0_0, .int .i64 nR0_1, .string sR0_2], .int .i64 10])) w14) (
 Calls prog 101 #[.string s39] w12 fun e w15 =>
 ∃ n46_0 : Int, ∃ n46_1 : Int, ∃ s46_2 : ByteArray, e = .returned (.agg #[.int .i64 n46_0, .int .i64 n46_1, .string s46_2]) /\
 stA prog 28 (⟨r6, 0, none⟩ : Addr) #[.int .i64 n46_0, .int .i64 n46_1, .string s46_2] w15 fun w16 =>
 runD prog ds w16 fun w17 =>
 ∃ nR0_0, w17.cell? ((⟨r6, 0, none⟩ : Addr).add 0) = some (.int .i64 nR0_0) /\
 ∃ nR0_1, w17.cell? ((⟨r6, 0, none⟩ : Addr).add 1) = some (.int .i64 nR0_1) /\
 ∃ sR0_2, w17.cell? ((⟨r6, 0, none⟩ : Addr).add 2) = some (.string sR0_2) /\
 R (.returned (.tuple #[.agg #[.int .i64 nR0_0, .int .i64 nR0_1, .string sR0_2], .int .i64 0])) w17)) (
 ∃ s47_0, w3.cell? ((⟨r3, 0, none⟩ : Addr).add 0) = some (.string s47_0) /\
 ∃ n47_1, w3.cell? ((⟨r3, 0, none⟩ : Addr).add 1) = some (.int .i64 n47_1) /\
 ∃ n47_2, w3.cell? ((⟨r3, 0, none⟩ : Addr).add 2) = some (.int .i64 n47_2) /\
 ∃ b47_3, w3.cell? ((⟨r3, 0, none⟩ : Addr).add 3) = some (.bool b47_3) /\
 ∃ n49_0, w3.cell? ((⟨r5, 0, none⟩ : Addr).add 0) = some (.int .i64 n49_0) /\
 ∃ n49_1, w3.cell? ((⟨r5, 0, none⟩ : Addr).add 1) = some (.int .i64 n49_1) /\
 ∃ s49_2, w3.cell? ((⟨r5, 0, none⟩ : Addr).add 2) = some (.string s49_2) /\
 Calls prog 96 #[.agg #[.string s47_0, .int .i64 n47_1, .int .i64 n47_2, .bool b47_3], .int .i64 n1, .agg #[.int .i64 n49_0, .int .i64 n49_1, .string s49_2]] w3 fun e w18 =>
 ∃ b50 : Bool, e = .returned (.bool b50) /\
 Br (!b50) (
 stA prog 28 (⟨r6, 0, none⟩ : Addr) #[.int .i64 0, .int .i64 0, .string (⟨#[]⟩ : ByteArray)] w18 fun w19 =>
 runD prog ds w19 fun w20 =>
 ∃ nR0_0, w20.cell? ((⟨r6, 0, none⟩ : Addr).add 0) = some (.int .i64 nR0_0) /\
 ∃ nR0_1, w20.cell? ((⟨r6, 0, none⟩ : Addr).add 1) = some (.int .i64 nR0_1) /\
 ∃ sR0_2, w20.cell? ((⟨r6, 0, none⟩ : Addr).add 2) = some (.string sR0_2) /\
 R (.returned (.tuple #[.agg #[.int .i64 nR0_0, .int .i64 nR0_1, .string sR0_2], .int .i64 10])) w20) (
 ∃ n53_0, w18.cell? ((⟨r5, 0, none⟩ : Addr).add 0) = some (.int .i64 n53_0) /\
 ∃ n53_1, w18.cell? ((⟨r5, 0, none⟩ : Addr).add 1) = some (.int .i64 n53_1) /\
 ∃ s53_2, w18.cell? ((⟨r5, 0, none⟩ : Addr).add 2) = some (.string s53_2) /\
 stA prog 28 (⟨r6, 0, none⟩ : Addr) #[.int .i64 n53_0, .int .i64 n53_1, .string s53_2] w18 fun w21 =>
 runD prog ds w21 fun w22 =>
 ∃ nR0_0, w22.cell? ((⟨r6, 0, none⟩ : Addr).add 0) = some (.int .i64 nR0_0) /\
 ∃ nR0_1, w22.cell? ((⟨r6, 0, none⟩ : Addr).add 1) = some (.int .i64 nR0_1) /\
 ∃ sR0_2, w22.cell? ((⟨r6, 0, none⟩ : Addr).add 2) = some (.string sR0_2) /\
 R (.returned (.tuple #[.agg #[.int .i64 nR0_0, .int .i64 nR0_1, .string sR0_2], .int .i64 0])) w22)))) (
 ∃ n23, w3.cell? (⟨r5, 0, none⟩ : Addr) = some (.int .i64 n23) /\
 Br (n23 != n19) (
 stA prog 28 (⟨r6, 0, none⟩ : Addr) #[.int .i64 0, .int .i64 0, .string (⟨#[]⟩ : ByteArray)] w3 fun w23 =>
 runD prog ds w23 fun w24 =>
 ∃ nR0_0, w24.cell? ((⟨r6, 0, none⟩ : Addr).add 0) = some (.int .i64 nR0_0) /\
 ∃ nR0_1, w24.cell? ((⟨r6, 0, none⟩ : Addr).add 1) = some (.int .i64 nR0_1) /\
 ∃ sR0_2, w24.cell? ((⟨r6, 0, none⟩ : Addr).add 2) = some (.string sR0_2) /\
 R (.returned (.tuple #[.agg #[.int .i64 nR0_0, .int .i64 nR0_1, .string sR0_2], .int .i64 6])) w24) (
 ∃ n28, w3.cell? ((⟨r3, 0, none⟩ : Addr).add 1) = some (.int .i64 n28) /\
 Br (n28 == 4) (
 ∃ s31, w3.cell? ((⟨r5, 0, none⟩ : Addr).add 2) = some (.string s31) /\
 ∃ s33, w3.cell? ((⟨r5, 0, none⟩ : Addr).add 2) = some (.string s33) /\
 ∃ n36, w3.cell? ((⟨r3, 0, none⟩ : Addr).add 2) = some (.int .i64 n36) /\
 ∃ n37 : Int, ∃ w25, (Builtin.min_ #[3, 3] 3 #[.int .i64 (s33.size : Int), .int .i64 n36]).run prog w3 = .ok (.int .i64 n37) w25 /\
 0 <= n37 /\ n37.toNat <= s31.size /\ 0 <= n37.toNat /\
 Calls prog 99 #[.string (s31.extract 0 n37.toNat)] w25 fun e w26 =>
 ∃ s39 : ByteArray, e = .returned (.string s39) /\
 Calls prog 100 #[.string s39, .int .i64 n1] w26 fun e w27 =>
 ∃ b42 : Bool, e = .returned (.bool b42) /\
 Br (!b42) (
 stA prog 28 (⟨r6, 0, none⟩ : Addr) #[.int .i64 0, .int .i64 0, .string (⟨#[]⟩ : ByteArray)] w27 fun w28 =>
 runD prog ds w28 fun w29 =>
 ∃ nR0_0, w29.cell? ((⟨r6, 0, none⟩ : Addr).add 0) = some (.int .i64 nR0_0) /\
 ∃ nR0_1, w29.cell? ((⟨r6, 0, none⟩ : Addr).add 1) = some (.int .i64 nR0_1) /\
 ∃ sR0_2, w29.cell? ((⟨r6, 0, none⟩ : Addr).add 2) = some (.string sR0_2) /\
 R (.returned (.tuple #[.agg #[.int .i64 nR0_0, .int .i64 nR0_1, .string sR0_2], .int .i64 10])) w29) (
 Calls prog 101 #[.string s39] w27 fun e w30 =>
 ∃ n46_0 : Int, ∃ n46_1 : Int, ∃ s46_2 : ByteArray, e = .returned (.agg #[.int .i64 n46_0, .int .i64 n46_1, .string s46_2]) /\
 stA prog 28 (⟨r6, 0, none⟩ : Addr) #[.int .i64 n46_0, .int .i64 n46_1, .string s46_2] w30 fun w31 =>
 runD prog ds w31 fun w32 =>
 ∃ nR0_0, w32.cell? ((⟨r6, 0, none⟩ : Addr).add 0) = some (.int .i64 nR0_0) /\
 ∃ nR0_1, w32.cell? ((⟨r6, 0, none⟩ : Addr).add 1) = some (.int .i64 nR0_1) /\
 ∃ sR0_2, w32.cell? ((⟨r6, 0, none⟩ : Addr).add 2) = some (.string sR0_2) /\
 R (.returned (.tuple #[.agg #[.int .i64 nR0_0, .int .i64 nR0_1, .string sR0_2], .int .i64 0])) w32)) (
 ∃ s47_0, w3.cell? ((⟨r3, 0, none⟩ : Addr).add 0) = some (.string s47_0) /\
 ∃ n47_1, w3.cell? ((⟨r3, 0, none⟩ : Addr).add 1) = some (.int .i64 n47_1) /\
 ∃ n47_2, w3.cell? ((⟨r3, 0, none⟩ : Addr).add 2) = some (.int .i64 n47_2) /\
 ∃ b47_3, w3.cell? ((⟨r3, 0, none⟩ : Addr).add 3) = some (.bool b47_3) /\
 ∃ n49_0, w3.cell? ((⟨r5, 0, none⟩ : Addr).add 0) = some (.int .i64 n49_0) /\
 ∃ n49_1, w3.cell? ((⟨r5, 0, none⟩ : Addr).add 1) = some (.int .i64 n49_1) /\
 ∃ s49_2, w3.cell? ((⟨r5, 0, none⟩ : Addr).add 2) = some (.string s49_2) /\
 Calls prog 96 #[.agg #[.string s47_0, .int .i64 n47_1, .int .i64 n47_2, .bool b47_3], .int .i64 n1, .agg #[.int .i64 n49_0, .int .i64 n49_1, .string s49_2]] w3 fun e w33 =>
 ∃ b50 : Bool, e = .returned (.bool b50) /\
 Br (!b50) (
 stA prog 28 (⟨r6, 0, none⟩ : Addr) #[.int .i64 0, .int .i64 0, .string (⟨#[]⟩ : ByteArray)] w33 fun w34 =>
 runD prog ds w34 fun w35 =>
 ∃ nR0_0, w35.cell? ((⟨r6, 0, none⟩ : Addr).add 0) = some (.int .i64 nR0_0) /\
 ∃ nR0_1, w35.cell? ((⟨r6, 0, none⟩ : Addr).add 1) = some (.int .i64 nR0_1) /\
 ∃ sR0_2, w35.cell? ((⟨r6, 0, none⟩ : Addr).add 2) = some (.string sR0_2) /\
 R (.returned (.tuple #[.agg #[.int .i64 nR0_0, .int .i64 nR0_1, .string sR0_2], .int .i64 10])) w35) (
 ∃ n53_0, w33.cell? ((⟨r5, 0, none⟩ : Addr).add 0) = some (.int .i64 n53_0) /\
 ∃ n53_1, w33.cell? ((⟨r5, 0, none⟩ : Addr).add 1) = some (.int .i64 n53_1) /\
 ∃ s53_2, w33.cell? ((⟨r5, 0, none⟩ : Addr).add 2) = some (.string s53_2) /\
 stA prog 28 (⟨r6, 0, none⟩ : Addr) #[.int .i64 n53_0, .int .i64 n53_1, .string s53_2] w33 fun w36 =>
 runD prog ds w36 fun w37 =>
 ∃ nR0_0, w37.cell? ((⟨r6, 0, none⟩ : Addr).add 0) = some (.int .i64 nR0_0) /\
 ∃ nR0_1, w37.cell? ((⟨r6, 0, none⟩ : Addr).add 1) = some (.int .i64 nR0_1) /\
 ∃ sR0_2, w37.cell? ((⟨r6, 0, none⟩ : Addr).add 2) = some (.string sR0_2) /\
 R (.returned (.tuple #[.agg #[.int .i64 nR0_0, .int .i64 nR0_1, .string sR0_2], .int .i64 0])) w37)))))
theorem F46_p : Pl prog f46 [aS 0 [.str, .int .i64, .int .i64, .bool], iS 1, aS 2 [.int .i64, .int .i64, .str]] F46_1 := fun R =>
  lf
theorem F46_calls (s0_0 : ByteArray) (n0_1 n0_2 : Int) (b0_3 : Bool) (n1 n2_0 n2_1 : Int) (s2_2 : ByteArray) (w : World) (R : Rt) (h : F46_1 R s0_0 n0_1 n0_2 b0_3 n1 n2_0 n2_1 s2_2 [] w) : Calls prog 46 #[.agg #[.string s0_0, .int .i64 n0_1, .int .i64 n0_2, .bool b0_3], .int .i64 n1, .agg #[.int .i64 n2_0, .int .i64 n2_1, .string s2_2]] w R :=
  plC F46_p func46 h
def F96_1 (R : Rt) (s0_0 : ByteArray) (n0_1 n0_2 : Int) (b0_3 : Bool) (n1 n2_0 n2_1 : Int) (s2_2 : ByteArray) (ds : Ds) (w : World) : Prop :=
 alE (.cells #[.string s0_0, .int .i64 n0_1, .int .i64 n0_2, .bool b0_3] 38) w fun r3 w1 =>
 alE (.cells #[.int .i64 n2_0, .int .i64 n2_1, .string s2_2] 28) w1 fun r5 w2 =>
 ∃ n7_0, w2.cell? ((⟨r5, 0, none⟩ : Addr).add 0) = some (.int .i64 n7_0) /\
 ∃ n7_1, w2.cell? ((⟨r5, 0, none⟩ : Addr).add 1) = some (.int .i64 n7_1) /\
 ∃ s7_2, w2.cell? ((⟨r5, 0, none⟩ : Addr).add 2) = some (.string s7_2) /\
 Calls prog 45 #[.agg #[.int .i64 n7_0, .int .i64 n7_1, .string s7_2]] w2 fun e w3 =>
 ∃ n8 : Int, e = .returned (.int .i64 n8) /\
 Br (n8 != 0) (
 runD prog ds w3 fun w4 =>
 R (.returned (.bool false)) w4) (
 ∃ n12, w3.cell? (⟨r5, 0, none⟩ : Addr) = some (.int .i64 n12) /\
 Br (n12 == 0) (
 ∃ b15, w3.cell? ((⟨r3, 0, none⟩ : Addr).add 3) = some (.bool b15) /\
 runD prog ds w3 fun w5 =>
 R (.returned (.bool b15)) w5) (
 ∃ n18, w3.cell? ((⟨r3, 0, none⟩ : Addr).add 1) = some (.int .i64 n18) /\
 Br (n18 == 5) (
 ∃ n21, w3.cell? (⟨r5, 0, none⟩ : Addr) = some (.int .i64 n21) /\
 Br (n21 == 2) (
 ∃ n25, w3.cell? ((⟨r5, 0, none⟩ : Addr).add 1) = some (.int .i64 n25) /\
 Calls prog 146 #[.int .i64 n25] w3 fun e w6 =>
 ∃ b26 : Bool, e = .returned (.bool b26) /\
 runD prog ds w6 fun w7 =>
 R (.returned (.bool b26)) w7) (
 runD prog ds w3 fun w8 =>
 R (.returned (.bool false)) w8)) (
 ∃ n30, w3.cell? (⟨r5, 0, none⟩ : Addr) = some (.int .i64 n30) /\
 ∃ n32, w3.cell? ((⟨r3, 0, none⟩ : Addr).add 1) = some (.int .i64 n32) /\
 Br (n30 != n32) (
 runD prog ds w3 fun w9 =>
 R (.returned (.bool false)) w9) (
 ∃ n36, w3.cell? ((⟨r3, 0, none⟩ : Addr).add 1) = some (.int .i64 n36) /\
 Br (n36 == 2) (
 dwE w3 fun w10 =>
 ∃ S1 : World -> Prop, S1 w10 /\
 ∃ n39, (∀ w', S1 w' -> w'.cell? ((⟨r5, 0, none⟩ : Addr).add 1) = some (.int .i64 n39)) /\
 ∃ n43, (∀ w', S1 w' -> w'.cell? ((⟨r3, 0, none⟩ : Addr).add 2) = some (.int .i64 n43)) /\
 Calls prog 147 #[.int .i64 n39] w10 fun e w11 =>
 ∃ s40 : ByteArray, e = .returned (.string s40) /\
 S1 w11 /\
 runD prog ds w11 fun w12 =>
 R (.returned (.bool (decide ((s40.size : Int) <= n43)))) w12) (
 ∃ n47, w3.cell? ((⟨r3, 0, none⟩ : Addr).add 1) = some (.int .i64 n47) /\
 Br (n47 == 4) (
 dwE w3 fun w13 =>
 ∃ S2 : World -> Prop, S2 w13 /\
 ∃ s50, (∀ w', S2 w' -> w'.cell? ((⟨r5, 0, none⟩ : Addr).add 2) = some (.string s50)) /\
 ∃ n53, (∀ w', S2 w' -> w'.cell? ((⟨r3, 0, none⟩ : Addr).add 2) = some (.int .i64 n53)) /\
 Br (decide ((s50.size : Int) <= n53)) (
 ∃ s57, (∀ w', S2 w' -> w'.cell? ((⟨r5, 0, none⟩ : Addr).add 2) = some (.string s57)) /\
 ∃ s60, (∀ w', S2 w' -> w'.cell? ((⟨r5, 0, none⟩ : Addr).add 2) = some (.string s60)) /\
 Calls prog 99 #[.string s57] w13 fun e w14 =>
 ∃ s58 : ByteArray, e = .returned (.string s58) /\
 S2 w14 /\
 Br (s58.toList == s60.toList) (
 ∃ s65, (∀ w', S2 w' -> w'.cell? ((⟨r5, 0, none⟩ : Addr).add 2) = some (.string s65)) /\
 Calls prog 100 #[.string s65, .int .i64 n1] w14 fun e w15 =>
 ∃ b67 : Bool, e = .returned (.bool b67) /\
 runD prog ds w15 fun w16 =>
 R (.returned (.bool b67)) w16) (
 runD prog ds w14 fun w17 =>
 R (.returned (.bool false)) w17)) (
 runD prog ds w13 fun w18 =>
 R (.returned (.bool false)) w18)) (
 runD prog ds w3 fun w19 =>
 R (.returned (.bool true)) w19))))))
theorem F96_p : Pl prog f96 [aS 0 [.str, .int .i64, .int .i64, .bool], iS 1, aS 2 [.int .i64, .int .i64, .str]] F96_1 := fun R =>
  lf
theorem F96_calls (s0_0 : ByteArray) (n0_1 n0_2 : Int) (b0_3 : Bool) (n1 n2_0 n2_1 : Int) (s2_2 : ByteArray) (w : World) (R : Rt) (h : F96_1 R s0_0 n0_1 n0_2 b0_3 n1 n2_0 n2_1 s2_2 [] w) : Calls prog 96 #[.agg #[.string s0_0, .int .i64 n0_1, .int .i64 n0_2, .bool b0_3], .int .i64 n1, .agg #[.int .i64 n2_0, .int .i64 n2_1, .string s2_2]] w R :=
  plC F96_p func96 h
def F146_1 (R : Rt) (n0 : Int) (ds : Ds) (w : World) : Prop :=
 Br (decide (n0 ≥ 0)) (
 runD prog ds w fun w1 =>
 R (.returned (.bool (decide (n0 <= 99999999)))) w1) (
 runD prog ds w fun w2 =>
 R (.returned (.bool false)) w2)
theorem F146_p : Pl prog f146 [iS 0] F146_1 := fun R =>
  lf
theorem F146_calls (n0 : Int) (w : World) (R : Rt) (h : F146_1 R n0 [] w) : Calls prog 146 #[.int .i64 n0] w R :=
  plC F146_p func146 h
end Go.Proofs.YtcihcbfcgjepfaaGreatDoor

/- Shallow texts of functions, printed by program, each checked by the kernel against the loaded code. No condition. -/
set_option maxRecDepth 100000
set_option linter.unusedVariables false
namespace Go.Proofs.YtcihcbfcgjepfaaGreatDoor
open Go.Sh Tryz
def F93_1 (R : Rt) (l0 : SV) (ds : Ds) (w : World) : Prop :=
 Br (decide ((l0.len : Int) > 16)) (
 runD prog ds w fun w1 =>
 R (.returned (.int .i64 3)) w1) (
 Calls prog 144 #[.slice l0.a l0.len l0.cap] w fun e w2 =>
 ∃ n33 : Int, e = .returned (.int .i64 n33) /\
 Br (decide (n33 > 2000)) (
 runD prog ds w2 fun w3 =>
 R (.returned (.int .i64 3)) w3) (
 runD prog ds w2 fun w4 =>
 R (.returned (.int .i64 0)) w4))
def F93_2 (R : Rt) (J1 : (Int) -> World -> Prop) (l0 : SV) (m3 : Option Nat) (l14 : SV) (n15 n16 : Int) (ds : Ds) (w : World) : Prop :=
 Br (decide (n16 < n15)) (
 ∃ a5, l14.a = some a5 /\ 0 <= n16 /\ n16 < (l14.len : Int) /\
 ∃ s19_0, w.cell? ((a5.add (n16.toNat * 4)).add 0) = some (.string s19_0) /\
 ∃ n19_1, w.cell? ((a5.add (n16.toNat * 4)).add 1) = some (.int .i64 n19_1) /\
 ∃ n19_2, w.cell? ((a5.add (n16.toNat * 4)).add 2) = some (.int .i64 n19_2) /\
 ∃ b19_3, w.cell? ((a5.add (n16.toNat * 4)).add 3) = some (.bool b19_3) /\
 alE (.cells #[.string (⟨#[]⟩ : ByteArray), .int .i64 0, .int .i64 0, .bool false] 38) w fun r5 w6 =>
 stA prog 38 (⟨r5, 0, none⟩ : Addr) #[.string s19_0, .int .i64 n19_1, .int .i64 n19_2, .bool b19_3] w6 fun w7 =>
 ∃ s22, w7.cell? (⟨r5, 0, none⟩ : Addr) = some (.string s22) /\
 ∃ b23 : Bool, ∃ w8, (Instr.lookup 177 (.map m3) (.string s22) false).run prog w7 = .ok (.bool b23) w8 /\
 Br b23 (
 runD prog ds w8 fun w9 =>
 R (.returned (.int .i64 5)) w9) (
 ∃ s26, w8.cell? (⟨r5, 0, none⟩ : Addr) = some (.string s26) /\
 doE prog (Instr.mapUpdate 177 (.map m3) (.string s26) (.bool true)) w8 fun w10 =>
 J1 (IntKind.i64.wrap (n16 + 1)) w10)) (
 F93_1 R l0 ds w)
def F93_3 (R : Rt) (l0 : SV) (m3 : Option Nat) (l14 : SV) (n15 n16 : Int) (ds : Ds) (w : World) : Prop :=
 loopT (fun (J1 : (Int) -> World -> Prop) (s : Int) (w : World) => F93_2 R J1 l0 m3 l14 n15 s ds w) n16 w
def F93_5 (R : Rt) (l0 : SV) (ds : Ds) (w : World) : Prop :=
 Br ((l0.len : Int) == 0) (
 runD prog ds w fun w11 =>
 R (.returned (.int .i64 1)) w11) (
 Calls prog 142 #[.slice l0.a l0.len l0.cap, .func (.func 143) #[] #[]] w fun e w12 =>
 ∃ b11 : Bool, e = .returned (.bool b11) /\
 Br b11 (
 runD prog ds w12 fun w13 =>
 R (.returned (.int .i64 1)) w13) (
 alE (.map #[] 0) w12 fun r13 w14 =>
 F93_3 R l0 (some r13) l0 (l0.len : Int) 0 ds w14))
theorem F93_p : Pl prog f93 [lS 0] F93_5 := fun R =>
  pc 5 (rest [lS 0, mS 3, lS 14, iS 15, iS 16] (F93_3 R) (bk 0 (rest [lS 0] (F93_1 R) lf) (lp [iS 16] [lS 0, mS 3, lS 14, iS 15, iS 16] (F93_2 R) rnil fun J1 => lf)))
theorem F93_calls (l0 : SV) (w : World) (R : Rt) (h : F93_5 R l0 [] w) : Calls prog 93 #[.slice l0.a l0.len l0.cap] w R :=
  plC F93_p func93 h
def F142_1 (R : Rt) (l0 : SV) (v1 : Value) (ds : Ds) (w : World) : Prop :=
 Calls prog 104 #[.slice l0.a l0.len l0.cap, v1] w fun e w1 =>
 ∃ n7 : Int, e = .returned (.int .i64 n7) /\
 runD prog ds w1 fun w2 =>
 R (.returned (.bool (decide (n7 ≥ 0)))) w2
theorem F142_p : Pl prog f142 [lS 0, vS 1] F142_1 := fun R =>
  lf
theorem F142_calls (l0 : SV) (v1 : Value) (w : World) (R : Rt) (h : F142_1 R l0 v1 [] w) : Calls prog 142 #[.slice l0.a l0.len l0.cap, v1] w R :=
  plC F142_p func142 h
def F143_1 (R : Rt) (s0_0 : ByteArray) (n0_1 n0_2 : Int) (b0_3 : Bool) (ds : Ds) (w : World) : Prop :=
 alE (.cells #[.string s0_0, .int .i64 n0_1, .int .i64 n0_2, .bool b0_3] 38) w fun r1 w1 =>
 ∃ s3_0, w1.cell? ((⟨r1, 0, none⟩ : Addr).add 0) = some (.string s3_0) /\
 ∃ n3_1, w1.cell? ((⟨r1, 0, none⟩ : Addr).add 1) = some (.int .i64 n3_1) /\
 ∃ n3_2, w1.cell? ((⟨r1, 0, none⟩ : Addr).add 2) = some (.int .i64 n3_2) /\
 ∃ b3_3, w1.cell? ((⟨r1, 0, none⟩ : Addr).add 3) = some (.bool b3_3) /\
 Calls prog 106 #[.agg #[.string s3_0, .int .i64 n3_1, .int .i64 n3_2, .bool b3_3]] w1 fun e w2 =>
 ∃ b4 : Bool, e = .returned (.bool b4) /\
 runD prog ds w2 fun w3 =>
 R (.returned (.bool (!b4))) w3
theorem F143_p : Pl prog f143 [aS 0 [.str, .int .i64, .int .i64, .bool]] F143_1 := fun R =>
  lf
theorem F143_calls (s0_0 : ByteArray) (n0_1 n0_2 : Int) (b0_3 : Bool) (w : World) (R : Rt) (h : F143_1 R s0_0 n0_1 n0_2 b0_3 [] w) : Calls prog 143 #[.agg #[.string s0_0, .int .i64 n0_1, .int .i64 n0_2, .bool b0_3]] w R :=
  plC F143_p func143 h
def F144_1 (R : Rt) (n3 : Int) (ds : Ds) (w : World) : Prop :=
 runD prog ds w fun w1 =>
 R (.returned (.int .i64 n3)) w1
def F144_2 (R : Rt) (J1 : (Int × Int) -> World -> Prop) (n3 : Int) (l9 : SV) (n10 n11 : Int) (ds : Ds) (w : World) : Prop :=
 Br (decide (n11 < n10)) (
 ∃ a2, l9.a = some a2 /\ 0 <= n11 /\ n11 < (l9.len : Int) /\
 ∃ s14_0, w.cell? ((a2.add (n11.toNat * 4)).add 0) = some (.string s14_0) /\
 ∃ n14_1, w.cell? ((a2.add (n11.toNat * 4)).add 1) = some (.int .i64 n14_1) /\
 ∃ n14_2, w.cell? ((a2.add (n11.toNat * 4)).add 2) = some (.int .i64 n14_2) /\
 ∃ b14_3, w.cell? ((a2.add (n11.toNat * 4)).add 3) = some (.bool b14_3) /\
 alE (.cells #[.string (⟨#[]⟩ : ByteArray), .int .i64 0, .int .i64 0, .bool false] 38) w fun r5 w3 =>
 stA prog 38 (⟨r5, 0, none⟩ : Addr) #[.string s14_0, .int .i64 n14_1, .int .i64 n14_2, .bool b14_3] w3 fun w4 =>
 ∃ n17, w4.cell? ((⟨r5, 0, none⟩ : Addr).add 2) = some (.int .i64 n17) /\
 J1 ((IntKind.i64.wrap (n3 + n17)), (IntKind.i64.wrap (n11 + 1))) w4) (
 F144_1 R n3 ds w)
def F144_3 (R : Rt) (n3 : Int) (l9 : SV) (n10 n11 : Int) (ds : Ds) (w : World) : Prop :=
 loopT (fun (J1 : (Int × Int) -> World -> Prop) (s : Int × Int) (w : World) => F144_2 R J1 s.1 l9 n10 s.2 ds w) (n3, n11) w
def F144_5 (R : Rt) (l0 : SV) (ds : Ds) (w : World) : Prop :=
 Calls prog 176 #[.slice l0.a l0.len l0.cap] w fun e w5 =>
 ∃ n7 : Int, e = .returned (.int .i64 n7) /\
 F144_3 R (IntKind.i64.wrap ((1 : Int) + n7)) l0 (l0.len : Int) 0 ds w5
theorem F144_p : Pl prog f144 [lS 0] F144_5 := fun R =>
  pc 3 (rest [iS 3, lS 9, iS 10, iS 11] (F144_3 R) (bk 0 (rest [iS 3] (F144_1 R) lf) (lp [iS 3, iS 11] [iS 3, lS 9, iS 10, iS 11] (F144_2 R) rnil fun J1 => lf)))
theorem F144_calls (l0 : SV) (w : World) (R : Rt) (h : F144_5 R l0 [] w) : Calls prog 144 #[.slice l0.a l0.len l0.cap] w R :=
  plC F144_p func144 h
def F176_1 (R : Rt) (n3 : Int) (ds : Ds) (w : World) : Prop :=
 IntKind.i64 = IntKind.i64 /\ (8 : Int) ≠ 0 /\
 runD prog ds w fun w1 =>
 R (.returned (.int .i64 (IntKind.i64.wrap ((IntKind.i64.wrap (n3 + 7)).tdiv 8)))) w1
def F176_2 (R : Rt) (J1 : (Int × Int) -> World -> Prop) (n3 : Int) (l6 : SV) (n7 n8 : Int) (ds : Ds) (w : World) : Prop :=
 Br (decide (n8 < n7)) (
 ∃ a2, l6.a = some a2 /\ 0 <= n8 /\ n8 < (l6.len : Int) /\
 ∃ s11_0, w.cell? ((a2.add (n8.toNat * 4)).add 0) = some (.string s11_0) /\
 ∃ n11_1, w.cell? ((a2.add (n8.toNat * 4)).add 1) = some (.int .i64 n11_1) /\
 ∃ n11_2, w.cell? ((a2.add (n8.toNat * 4)).add 2) = some (.int .i64 n11_2) /\
 ∃ b11_3, w.cell? ((a2.add (n8.toNat * 4)).add 3) = some (.bool b11_3) /\
 alE (.cells #[.string (⟨#[]⟩ : ByteArray), .int .i64 0, .int .i64 0, .bool false] 38) w fun r5 w3 =>
 stA prog 38 (⟨r5, 0, none⟩ : Addr) #[.string s11_0, .int .i64 n11_1, .int .i64 n11_2, .bool b11_3] w3 fun w4 =>
 ∃ b13, w4.cell? ((⟨r5, 0, none⟩ : Addr).add 3) = some (.bool b13) /\
 Br b13 (
 J1 ((IntKind.i64.wrap (n3 + 1)), (IntKind.i64.wrap (n8 + 1))) w4) (
 J1 (n3, (IntKind.i64.wrap (n8 + 1))) w4)) (
 F176_1 R n3 ds w)
def F176_3 (R : Rt) (n3 : Int) (l6 : SV) (n7 n8 : Int) (ds : Ds) (w : World) : Prop :=
 loopT (fun (J1 : (Int × Int) -> World -> Prop) (s : Int × Int) (w : World) => F176_2 R J1 s.1 l6 n7 s.2 ds w) (n3, n8) w
def F176_5 (R : Rt) (l0 : SV) (ds : Ds) (w : World) : Prop :=
 F176_3 R 0 l0 (l0.len : Int) 0 ds w
theorem F176_p : Pl prog f176 [lS 0] F176_5 := fun R =>
  pc 3 (rest [iS 3, lS 6, iS 7, iS 8] (F176_3 R) (bk 0 (rest [iS 3] (F176_1 R) lf) (lp [iS 3, iS 8] [iS 3, lS 6, iS 7, iS 8] (F176_2 R) rnil fun J1 => lf)))
theorem F176_calls (l0 : SV) (w : World) (R : Rt) (h : F176_5 R l0 [] w) : Calls prog 176 #[.slice l0.a l0.len l0.cap] w R :=
  plC F176_p func176 h
def F42_1 (R : Rt) (l0 : SV) (ds : Ds) (w : World) : Prop :=
 Br (decide ((l0.len : Int) > 16)) (
 runD prog ds w fun w1 =>
 R (.returned (.int .i64 3)) w1) (
 Calls prog 95 #[.slice l0.a l0.len l0.cap] w fun e w2 =>
 ∃ n48 : Int, e = .returned (.int .i64 n48) /\
 Br (decide (n48 > 2000)) (
 runD prog ds w2 fun w3 =>
 R (.returned (.int .i64 3)) w3) (
 runD prog ds w2 fun w4 =>
 R (.returned (.int .i64 0)) w4))
def F42_2 (R : Rt) (J1 : (Int) -> World -> Prop) (l0 : SV) (n4 : Int) (ds : Ds) (w : World) : Prop :=
 J1 (IntKind.i64.wrap (n4 + 1)) w
def F42_3 (R : Rt) (J1 : (Int) -> World -> Prop) (J2 : (Int) -> World -> Prop) (l0 : SV) (n4 n5 : Int) (ds : Ds) (w : World) : Prop :=
 Br (decide (n5 < n4)) (
 dwE w fun w5 =>
 ∃ a6, l0.a = some a6 /\ 0 <= n4 /\ n4 < (l0.len : Int) /\
 ∃ s36, w5.cell? (a6.add (n4.toNat * 4)) = some (.string s36) /\
 ∃ a7, l0.a = some a7 /\ 0 <= n5 /\ n5 < (l0.len : Int) /\
 ∃ s41, w5.cell? (a7.add (n5.toNat * 4)) = some (.string s41) /\
 Br (s36.toList == s41.toList) (
 runD prog ds w5 fun w8 =>
 R (.returned (.int .i64 5)) w8) (
 J2 (IntKind.i64.wrap (n5 + 1)) w5)) (
 F42_2 R J1 l0 n4 ds w)
def F42_4 (R : Rt) (J1 : (Int) -> World -> Prop) (l0 : SV) (n4 n5 : Int) (ds : Ds) (w : World) : Prop :=
 loopT (fun (J2 : (Int) -> World -> Prop) (s : Int) (w : World) => F42_3 R J1 J2 l0 n4 s ds w) n5 w
def F42_6 (R : Rt) (J1 : (Int) -> World -> Prop) (l0 : SV) (n4 : Int) (ds : Ds) (w : World) : Prop :=
 F42_4 R J1 l0 n4 0 ds w
def F42_8 (R : Rt) (J1 : (Int) -> World -> Prop) (l0 : SV) (n4 : Int) (ds : Ds) (w : World) : Prop :=
 Br (decide (n4 < (l0.len : Int))) (
 F42_6 R J1 l0 n4 ds w) (
 F42_1 R l0 ds w)
def F42_9 (R : Rt) (l0 : SV) (n4 : Int) (ds : Ds) (w : World) : Prop :=
 loopT (fun (J1 : (Int) -> World -> Prop) (s : Int) (w : World) => F42_8 R J1 l0 s ds w) n4 w
def F42_11 (R : Rt) (l0 : SV) (ds : Ds) (w : World) : Prop :=
 F42_9 R l0 0 ds w
def F42_12 (R : Rt) (J1 : (Int) -> World -> Prop) (l0 : SV) (n3 : Int) (ds : Ds) (w : World) : Prop :=
 Br (decide (n3 < (l0.len : Int))) (
 ∃ a9, l0.a = some a9 /\ 0 <= n3 /\ n3 < (l0.len : Int) /\
 ∃ s18_0, w.cell? ((a9.add (n3.toNat * 4)).add 0) = some (.string s18_0) /\
 ∃ n18_1, w.cell? ((a9.add (n3.toNat * 4)).add 1) = some (.int .i64 n18_1) /\
 ∃ n18_2, w.cell? ((a9.add (n3.toNat * 4)).add 2) = some (.int .i64 n18_2) /\
 ∃ b18_3, w.cell? ((a9.add (n3.toNat * 4)).add 3) = some (.bool b18_3) /\
 Calls prog 44 #[.agg #[.string s18_0, .int .i64 n18_1, .int .i64 n18_2, .bool b18_3]] w fun e w10 =>
 ∃ b19 : Bool, e = .returned (.bool b19) /\
 Br (!b19) (
 runD prog ds w10 fun w11 =>
 R (.returned (.int .i64 1)) w11) (
 J1 (IntKind.i64.wrap (n3 + 1)) w10)) (
 F42_11 R l0 ds w)
def F42_13 (R : Rt) (l0 : SV) (n3 : Int) (ds : Ds) (w : World) : Prop :=
 loopT (fun (J1 : (Int) -> World -> Prop) (s : Int) (w : World) => F42_12 R J1 l0 s ds w) n3 w
def F42_15 (R : Rt) (l0 : SV) (ds : Ds) (w : World) : Prop :=
 Br ((l0.len : Int) == 0) (
 runD prog ds w fun w12 =>
 R (.returned (.int .i64 1)) w12) (
 F42_13 R l0 0 ds w)
theorem F42_p : Pl prog f42 [lS 0] F42_15 := fun R =>
  pc 4 (rest [lS 0, iS 3] (F42_13 R) (bk 0 (rest [lS 0] (F42_11 R) (pc 1 (rest [lS 0, iS 4] (F42_9 R) (bk 2 (rest [lS 0] (F42_1 R) lf) (lp [iS 4] [lS 0, iS 4] (F42_8 R) rnil fun J1 => pc 2 (rest [lS 0, iS 4] (F42_6 R J1) (bk 3 (rest [lS 0, iS 4] (F42_2 R J1) lf) (pc 1 (rest [lS 0, iS 4, iS 5] (F42_4 R J1) (bk 4 rnil (lp [iS 5] [lS 0, iS 4, iS 5] (F42_3 R J1) rnil fun J2 => lf))))))))))) (lp [iS 3] [lS 0, iS 3] (F42_12 R) rnil fun J1 => lf)))
theorem F42_calls (l0 : SV) (w : World) (R : Rt) (h : F42_15 R l0 [] w) : Calls prog 42 #[.slice l0.a l0.len l0.cap] w R :=
  plC F42_p func42 h
def F95_1 (R : Rt) (n3 : Int) (ds : Ds) (w : World) : Prop :=
 runD prog ds w fun w1 =>
 R (.returned (.int .i64 n3)) w1
def F95_2 (R : Rt) (J1 : (Int × Int) -> World -> Prop) (l0 : SV) (n3 n4 : Int) (ds : Ds) (w : World) : Prop :=
 Br (decide (n4 < (l0.len : Int))) (
 ∃ a2, l0.a = some a2 /\ 0 <= n4 /\ n4 < (l0.len : Int) /\
 ∃ n19, w.cell? ((a2.add (n4.toNat * 4)).add 2) = some (.int .i64 n19) /\
 J1 ((IntKind.i64.wrap (n3 + n19)), (IntKind.i64.wrap (n4 + 1))) w) (
 F95_1 R n3 ds w)
def F95_3 (R : Rt) (l0 : SV) (n3 n4 : Int) (ds : Ds) (w : World) : Prop :=
 loopT (fun (J1 : (Int × Int) -> World -> Prop) (s : Int × Int) (w : World) => F95_2 R J1 l0 s.1 s.2 ds w) (n3, n4) w
def F95_5 (R : Rt) (l0 : SV) (ds : Ds) (w : World) : Prop :=
 Calls prog 145 #[.slice l0.a l0.len l0.cap] w fun e w3 =>
 ∃ n6 : Int, e = .returned (.int .i64 n6) /\
 F95_3 R l0 (IntKind.i64.wrap ((1 : Int) + n6)) 0 ds w3
theorem F95_p : Pl prog f95 [lS 0] F95_5 := fun R =>
  pc 3 (rest [lS 0, iS 3, iS 4] (F95_3 R) (bk 0 (rest [iS 3] (F95_1 R) lf) (lp [iS 3, iS 4] [lS 0, iS 3, iS 4] (F95_2 R) rnil fun J1 => lf)))
theorem F95_calls (l0 : SV) (w : World) (R : Rt) (h : F95_5 R l0 [] w) : Calls prog 95 #[.slice l0.a l0.len l0.cap] w R :=
  plC F95_p func95 h
def F145_1 (R : Rt) (n3 : Int) (ds : Ds) (w : World) : Prop :=
 IntKind.i64 = IntKind.i64 /\ (8 : Int) ≠ 0 /\
 runD prog ds w fun w1 =>
 R (.returned (.int .i64 (IntKind.i64.wrap ((IntKind.i64.wrap (n3 + 7)).tdiv 8)))) w1
def F145_2 (R : Rt) (J1 : (Int × Int) -> World -> Prop) (l0 : SV) (n3 n4 : Int) (ds : Ds) (w : World) : Prop :=
 Br (decide (n4 < (l0.len : Int))) (
 ∃ a2, l0.a = some a2 /\ 0 <= n4 /\ n4 < (l0.len : Int) /\
 ∃ b15, w.cell? ((a2.add (n4.toNat * 4)).add 3) = some (.bool b15) /\
 Br b15 (
 J1 ((IntKind.i64.wrap (n3 + 1)), (IntKind.i64.wrap (n4 + 1))) w) (
 J1 (n3, (IntKind.i64.wrap (n4 + 1))) w)) (
 F145_1 R n3 ds w)
def F145_3 (R : Rt) (l0 : SV) (n3 n4 : Int) (ds : Ds) (w : World) : Prop :=
 loopT (fun (J1 : (Int × Int) -> World -> Prop) (s : Int × Int) (w : World) => F145_2 R J1 l0 s.1 s.2 ds w) (n3, n4) w
def F145_5 (R : Rt) (l0 : SV) (ds : Ds) (w : World) : Prop :=
 F145_3 R l0 0 0 ds w
theorem F145_p : Pl prog f145 [lS 0] F145_5 := fun R =>
  pc 3 (rest [lS 0, iS 3, iS 4] (F145_3 R) (bk 0 (rest [iS 3] (F145_1 R) lf) (lp [iS 3, iS 4] [lS 0, iS 3, iS 4] (F145_2 R) rnil fun J1 => lf)))
theorem F145_calls (l0 : SV) (w : World) (R : Rt) (h : F145_5 R l0 [] w) : Calls prog 145 #[.slice l0.a l0.len l0.cap] w R :=
  plC F145_p func145 h
end Go.Proofs.YtcihcbfcgjepfaaGreatDoor

/- Shallow texts of functions, printed by program, each checked by the kernel against the loaded code. No condition. -/
set_option maxRecDepth 100000
set_option linter.unusedVariables false
namespace Go.Proofs.YtcihcbfcgjepfaaGreatDoor
open Go.Sh Tryz
def F104_1 (R : Rt) (ds : Ds) (w : World) : Prop :=
 runD prog ds w fun w1 =>
 R (.returned (.int .i64 (-1))) w1
def F104_2 (R : Rt) (J1 : (Int) -> World -> Prop) (l0 : SV) (v1 : Value) (n7 n8 : Int) (ds : Ds) (w : World) : Prop :=
 Br (decide (n8 < n7)) (
 ∃ a2, l0.a = some a2 /\ 0 <= n8 /\ n8 < (l0.len : Int) /\
 ∃ s15_0, w.cell? ((a2.add (n8.toNat * 4)).add 0) = some (.string s15_0) /\
 ∃ n15_1, w.cell? ((a2.add (n8.toNat * 4)).add 1) = some (.int .i64 n15_1) /\
 ∃ n15_2, w.cell? ((a2.add (n8.toNat * 4)).add 2) = some (.int .i64 n15_2) /\
 ∃ b15_3, w.cell? ((a2.add (n8.toNat * 4)).add 3) = some (.bool b15_3) /\
 fnE v1 fun f16 first16 cap16 =>
 hasBody prog f16 = true /\ Calls prog f16 (first16.toList ++ (([.agg #[.string s15_0, .int .i64 n15_1, .int .i64 n15_2, .bool b15_3]] : List Value) ++ cap16.toList)).toArray w fun e w3 =>
 ∃ b16 : Bool, e = .returned (.bool b16) /\
 Br b16 (
 runD prog ds w3 fun w4 =>
 R (.returned (.int .i64 n8)) w4) (
 J1 (IntKind.i64.wrap (n8 + 1)) w3)) (
 F104_1 R ds w)
def F104_3 (R : Rt) (l0 : SV) (v1 : Value) (n7 n8 : Int) (ds : Ds) (w : World) : Prop :=
 loopT (fun (J1 : (Int) -> World -> Prop) (s : Int) (w : World) => F104_2 R J1 l0 v1 n7 s ds w) n8 w
def F104_5 (R : Rt) (l0 : SV) (v1 : Value) (ds : Ds) (w : World) : Prop :=
 F104_3 R l0 (v1) (l0.len : Int) 0 ds w
theorem F104_p : Pl prog f104 [lS 0, vS 1] F104_5 := fun R =>
  pc 2 (rest [lS 0, vS 1, iS 7, iS 8] (F104_3 R) (bk 0 (rest [] (F104_1 R) lf) (lp [iS 8] [lS 0, vS 1, iS 7, iS 8] (F104_2 R) rnil fun J1 => lf)))
theorem F104_calls (l0 : SV) (v1 : Value) (w : World) (R : Rt) (h : F104_5 R l0 v1 [] w) : Calls prog 104 #[.slice l0.a l0.len l0.cap, v1] w R :=
  plC F104_p func104 h
def F105_1 (R : Rt) (s0_0 : ByteArray) (n0_1 n0_2 : Int) (b0_3 : Bool) (v1 : Value) (ds : Ds) (w : World) : Prop :=
 alE (.cells #[.string s0_0, .int .i64 n0_1, .int .i64 n0_2, .bool b0_3] 38) w fun r2 w1 =>
 ∃ s5, w1.cell? (⟨r2, 0, none⟩ : Addr) = some (.string s5) /\
 addrE v1 fun a2 =>
 ∃ s6, w1.cell? a2 = some (.string s6) /\
 runD prog ds w1 fun w3 =>
 R (.returned (.bool (s5.toList == s6.toList))) w3
theorem F105_p : Pl prog f105 [aS 0 [.str, .int .i64, .int .i64, .bool], vS 1] F105_1 := fun R =>
  lf
theorem F105_calls (s0_0 : ByteArray) (n0_1 n0_2 : Int) (b0_3 : Bool) (v1 : Value) (w : World) (R : Rt) (h : F105_1 R s0_0 n0_1 n0_2 b0_3 v1 [] w) : Calls prog 105 #[.agg #[.string s0_0, .int .i64 n0_1, .int .i64 n0_2, .bool b0_3], v1] w R :=
  plC F105_p func105 h
def F51_1 (R : Rt) (l0 : SV) (s1 : ByteArray) (ds : Ds) (w : World) : Prop :=
 alE (.cells #[.string s1] 9) w fun r3 w1 =>
 Calls prog 104 #[.slice l0.a l0.len l0.cap, .func (.func 105) #[] #[.pointer (some (⟨r3, 0, none⟩ : Addr))]] w1 fun e w2 =>
 ∃ n9 : Int, e = .returned (.int .i64 n9) /\
 ∃ n11 : Int, ∃ w3, (Builtin.max_ #[3, 3] 3 #[.int .i64 n9, .int .i64 0]).run prog w2 = .ok (.int .i64 n11) w3 /\
 runD prog ds w3 fun w4 =>
 R (.returned (.tuple #[.int .i64 n11, .bool (decide (n9 ≥ 0))])) w4
theorem F51_p : Pl prog f51 [lS 0, sS 1] F51_1 := fun R =>
  lf
theorem F51_calls (l0 : SV) (s1 : ByteArray) (w : World) (R : Rt) (h : F51_1 R l0 s1 [] w) : Calls prog 51 #[.slice l0.a l0.len l0.cap, .string s1] w R :=
  plC F51_p func51 h
end Go.Proofs.YtcihcbfcgjepfaaGreatDoor

/- Shallow texts of functions, printed by program, each checked by the kernel against the loaded code. No condition. -/
set_option maxRecDepth 100000
set_option linter.unusedVariables false
namespace Go.Proofs.YtcihcbfcgjepfaaGreatDoor
open Go.Sh Tryz
def F38_1 (R : Rt) (ds : Ds) (w : World) : Prop :=
 runD prog ds w fun w1 =>
 R (.returned (.int .i64 0)) w1
def F38_2 (R : Rt) (J1 : (Int) -> World -> Prop) (p1 : Option Addr) (l23 : SV) (n24 n25 : Int) (ds : Ds) (w : World) : Prop :=
 J1 (IntKind.i64.wrap (n25 + 1)) w
def F38_3 (R : Rt) (J1 : (Int) -> World -> Prop) (J2 : (Int) -> World -> Prop) (p1 p5 : Option Addr) (l23 : SV) (n24 n25 : Int) (l37 : SV) (n38 n39 : Int) (ds : Ds) (w : World) : Prop :=
 Br (decide (n39 < n38)) (
 ∃ a2, l37.a = some a2 /\ 0 <= n39 /\ n39 < (l37.len : Int) /\
 ∃ s43_0, w.cell? ((a2.add (n39.toNat * 4)).add 0) = some (.string s43_0) /\
 ∃ n43_1, w.cell? ((a2.add (n39.toNat * 4)).add 1) = some (.int .i64 n43_1) /\
 ∃ n43_2, w.cell? ((a2.add (n39.toNat * 4)).add 2) = some (.int .i64 n43_2) /\
 ∃ b43_3, w.cell? ((a2.add (n39.toNat * 4)).add 3) = some (.bool b43_3) /\
 alE (.cells #[.string (⟨#[]⟩ : ByteArray), .int .i64 0, .int .i64 0, .bool false] 38) w fun r7 w3 =>
 stA prog 38 (⟨r7, 0, none⟩ : Addr) #[.string s43_0, .int .i64 n43_1, .int .i64 n43_2, .bool b43_3] w3 fun w4 =>
 dwE w4 fun w5 =>
 ∃ s44_0, w5.cell? ((⟨r7, 0, none⟩ : Addr).add 0) = some (.string s44_0) /\
 ∃ n44_1, w5.cell? ((⟨r7, 0, none⟩ : Addr).add 1) = some (.int .i64 n44_1) /\
 ∃ n44_2, w5.cell? ((⟨r7, 0, none⟩ : Addr).add 2) = some (.int .i64 n44_2) /\
 ∃ b44_3, w5.cell? ((⟨r7, 0, none⟩ : Addr).add 3) = some (.bool b44_3) /\
 ptrE p1 fun a6 =>
 ∃ n46, w5.cell? a6 = some (.int .i64 n46) /\
 ptrE p5 fun a7 =>
 ∃ l48 : SV, w5.cell? (a7.add 1) = some (.slice l48.a l48.len l48.cap) /\
 ∃ a8, l48.a = some a8 /\ 0 <= n39 /\ n39 < (l48.len : Int) /\
 ∃ n51_0, w5.cell? ((a8.add (n39.toNat * 3)).add 0) = some (.int .i64 n51_0) /\
 ∃ n51_1, w5.cell? ((a8.add (n39.toNat * 3)).add 1) = some (.int .i64 n51_1) /\
 ∃ s51_2, w5.cell? ((a8.add (n39.toNat * 3)).add 2) = some (.string s51_2) /\
 Calls prog 94 #[.agg #[.string s44_0, .int .i64 n44_1, .int .i64 n44_2, .bool b44_3], .int .i64 n46, .agg #[.int .i64 n51_0, .int .i64 n51_1, .string s51_2]] w5 fun e w9 =>
 ∃ b52 : Bool, e = .returned (.bool b52) /\
 Br (!b52) (
 runD prog ds w9 fun w10 =>
 R (.returned (.int .i64 1)) w10) (
 J2 (IntKind.i64.wrap (n39 + 1)) w9)) (
 F38_2 R J1 p1 l23 n24 n25 ds w)
def F38_4 (R : Rt) (J1 : (Int) -> World -> Prop) (p1 p5 : Option Addr) (l23 : SV) (n24 n25 : Int) (l37 : SV) (n38 n39 : Int) (ds : Ds) (w : World) : Prop :=
 loopT (fun (J2 : (Int) -> World -> Prop) (s : Int) (w : World) => F38_3 R J1 J2 p1 p5 l23 n24 n25 l37 n38 s ds w) n39 w
def F38_6 (R : Rt) (J1 : (Int) -> World -> Prop) (p1 : Option Addr) (l23 : SV) (n24 n25 : Int) (ds : Ds) (w : World) : Prop :=
 ∃ a11, l23.a = some a11 /\ 0 <= n25 /\ n25 < (l23.len : Int) /\
 ∃ b28_0, w.cell? ((a11.add (n25.toNat * 2)).add 0) = some (.bool b28_0) /\
 ∃ l28_1 : SV, w.cell? ((a11.add (n25.toNat * 2)).add 1) = some (.slice l28_1.a l28_1.len l28_1.cap) /\
 alE (.cells #[.bool false, .slice none 0 0] 77) w fun r5 w12 =>
 stA prog 77 (⟨r5, 0, none⟩ : Addr) #[.bool b28_0, .slice l28_1.a l28_1.len l28_1.cap] w12 fun w13 =>
 ∃ l30 : SV, w13.cell? ((⟨r5, 0, none⟩ : Addr).add 1) = some (.slice l30.a l30.len l30.cap) /\
 ptrE p1 fun a14 =>
 ∃ l33 : SV, w13.cell? (a14.add 1) = some (.slice l33.a l33.len l33.cap) /\
 Br ((l30.len : Int) != (l33.len : Int)) (
 runD prog ds w13 fun w15 =>
 R (.returned (.int .i64 10)) w15) (
 ptrE p1 fun a16 =>
 ∃ l37 : SV, w13.cell? (a16.add 1) = some (.slice l37.a l37.len l37.cap) /\
 F38_4 R J1 p1 (some (⟨r5, 0, none⟩ : Addr)) l23 n24 n25 l37 (l37.len : Int) 0 ds w13)
def F38_8 (R : Rt) (J1 : (Int) -> World -> Prop) (p1 : Option Addr) (l23 : SV) (n24 n25 : Int) (ds : Ds) (w : World) : Prop :=
 Br (decide (n25 < n24)) (
 F38_6 R J1 p1 l23 n24 n25 ds w) (
 F38_1 R ds w)
def F38_9 (R : Rt) (p1 : Option Addr) (l23 : SV) (n24 n25 : Int) (ds : Ds) (w : World) : Prop :=
 loopT (fun (J1 : (Int) -> World -> Prop) (s : Int) (w : World) => F38_8 R J1 p1 l23 n24 s ds w) n25 w
def F38_11 (R : Rt) (n0_0 : Int) (l0_1 l0_2 : SV) (ds : Ds) (w : World) : Prop :=
 alE (.cells #[.int .i64 n0_0, .slice l0_1.a l0_1.len l0_1.cap, .slice l0_2.a l0_2.len l0_2.cap] 25) w fun r1 w17 =>
 ∃ n9, w17.cell? (⟨r1, 0, none⟩ : Addr) = some (.int .i64 n9) /\
 Calls prog 92 #[.int .i64 n9] w17 fun e w18 =>
 ∃ b10 : Bool, e = .returned (.bool b10) /\
 Br (!b10) (
 runD prog ds w18 fun w19 =>
 R (.returned (.int .i64 1)) w19) (
 ∃ l13 : SV, w18.cell? ((⟨r1, 0, none⟩ : Addr).add 1) = some (.slice l13.a l13.len l13.cap) /\
 Calls prog 93 #[.slice l13.a l13.len l13.cap] w18 fun e w20 =>
 ∃ n14 : Int, e = .returned (.int .i64 n14) /\
 Br (n14 != 0) (
 runD prog ds w20 fun w21 =>
 R (.returned (.int .i64 n14)) w21) (
 ∃ l19 : SV, w20.cell? ((⟨r1, 0, none⟩ : Addr).add 2) = some (.slice l19.a l19.len l19.cap) /\
 Br (decide ((l19.len : Int) > 300)) (
 runD prog ds w20 fun w22 =>
 R (.returned (.int .i64 3)) w22) (
 ∃ l23 : SV, w20.cell? ((⟨r1, 0, none⟩ : Addr).add 2) = some (.slice l23.a l23.len l23.cap) /\
 F38_9 R (some (⟨r1, 0, none⟩ : Addr)) l23 (l23.len : Int) 0 ds w20)))
theorem F38_p : Pl prog f38 [aS 0 [.int .i64, .slice, .slice]] F38_11 := fun R =>
  pc 9 (rest [pS 1, lS 23, iS 24, iS 25] (F38_9 R) (bk 0 (rest [] (F38_1 R) lf) (lp [iS 25] [pS 1, lS 23, iS 24, iS 25] (F38_8 R) rnil fun J1 => pc 2 (rest [pS 1, lS 23, iS 24, iS 25] (F38_6 R J1) (bk 1 (rest [pS 1, lS 23, iS 24, iS 25] (F38_2 R J1) lf) (pc 4 (rest [pS 1, pS 5, lS 23, iS 24, iS 25, lS 37, iS 38, iS 39] (F38_4 R J1) (bk 2 rnil (lp [iS 39] [pS 1, pS 5, lS 23, iS 24, iS 25, lS 37, iS 38, iS 39] (F38_3 R J1) rnil fun J2 => lf)))))))))
theorem F38_calls (n0_0 : Int) (l0_1 l0_2 : SV) (w : World) (R : Rt) (h : F38_11 R n0_0 l0_1 l0_2 [] w) : Calls prog 38 #[.agg #[.int .i64 n0_0, .slice l0_1.a l0_1.len l0_1.cap, .slice l0_2.a l0_2.len l0_2.cap]] w R :=
  plC F38_p func38 h
def F94_1 (R : Rt) (s0_0 : ByteArray) (n0_1 n0_2 : Int) (b0_3 : Bool) (n1 n2_0 n2_1 : Int) (s2_2 : ByteArray) (ds : Ds) (w : World) : Prop :=
 alE (.cells #[.string s0_0, .int .i64 n0_1, .int .i64 n0_2, .bool b0_3] 38) w fun r3 w1 =>
 alE (.cells #[.int .i64 n2_0, .int .i64 n2_1, .string s2_2] 28) w1 fun r5 w2 =>
 ∃ n10, w2.cell? (⟨r5, 0, none⟩ : Addr) = some (.int .i64 n10) /\
 Br (n10 == 0) (
 ∃ b13, w2.cell? ((⟨r3, 0, none⟩ : Addr).add 3) = some (.bool b13) /\
 Br b13 (
 ∃ n15_0, w2.cell? ((⟨r5, 0, none⟩ : Addr).add 0) = some (.int .i64 n15_0) /\
 ∃ n15_1, w2.cell? ((⟨r5, 0, none⟩ : Addr).add 1) = some (.int .i64 n15_1) /\
 ∃ s15_2, w2.cell? ((⟨r5, 0, none⟩ : Addr).add 2) = some (.string s15_2) /\
 ∃ b17 : Bool, ∃ w3, (eqS .eql 28 (.tmp 15) (.tmp 16) (.agg #[.int .i64 n15_0, .int .i64 n15_1, .string s15_2]) (.agg #[.int .i64 0, .int .i64 0, .string (⟨#[]⟩ : ByteArray)])).run prog w2 = .ok (.bool b17) w3 /\
 runD prog ds w3 fun w4 =>
 R (.returned (.bool b17)) w4) (
 runD prog ds w2 fun w5 =>
 R (.returned (.bool false)) w5)) (
 ∃ n19_0, w2.cell? ((⟨r5, 0, none⟩ : Addr).add 0) = some (.int .i64 n19_0) /\
 ∃ n19_1, w2.cell? ((⟨r5, 0, none⟩ : Addr).add 1) = some (.int .i64 n19_1) /\
 ∃ s19_2, w2.cell? ((⟨r5, 0, none⟩ : Addr).add 2) = some (.string s19_2) /\
 Calls prog 107 #[.agg #[.int .i64 n19_0, .int .i64 n19_1, .string s19_2]] w2 fun e w6 =>
 ∃ n20 : Int, e = .returned (.int .i64 n20) /\
 Br (n20 != 0) (
 runD prog ds w6 fun w7 =>
 R (.returned (.bool false)) w7) (
 ∃ s23_0, w6.cell? ((⟨r3, 0, none⟩ : Addr).add 0) = some (.string s23_0) /\
 ∃ n23_1, w6.cell? ((⟨r3, 0, none⟩ : Addr).add 1) = some (.int .i64 n23_1) /\
 ∃ n23_2, w6.cell? ((⟨r3, 0, none⟩ : Addr).add 2) = some (.int .i64 n23_2) /\
 ∃ b23_3, w6.cell? ((⟨r3, 0, none⟩ : Addr).add 3) = some (.bool b23_3) /\
 ∃ n25_0, w6.cell? ((⟨r5, 0, none⟩ : Addr).add 0) = some (.int .i64 n25_0) /\
 ∃ n25_1, w6.cell? ((⟨r5, 0, none⟩ : Addr).add 1) = some (.int .i64 n25_1) /\
 ∃ s25_2, w6.cell? ((⟨r5, 0, none⟩ : Addr).add 2) = some (.string s25_2) /\
 Calls prog 52 #[.agg #[.string s23_0, .int .i64 n23_1, .int .i64 n23_2, .bool b23_3], .int .i64 n1, .agg #[.int .i64 n25_0, .int .i64 n25_1, .string s25_2]] w6 fun e w8 =>
 ∃ n26_0_0 : Int, ∃ n26_0_1 : Int, ∃ s26_0_2 : ByteArray, ∃ n26_1 : Int, e = .returned (.tuple #[.agg #[.int .i64 n26_0_0, .int .i64 n26_0_1, .string s26_0_2], .int .i64 n26_1]) /\
 alE (.cells #[.int .i64 0, .int .i64 0, .string (⟨#[]⟩ : ByteArray)] 28) w8 fun r7 w9 =>
 stA prog 28 (⟨r7, 0, none⟩ : Addr) #[.int .i64 n26_0_0, .int .i64 n26_0_1, .string s26_0_2] w9 fun w10 =>
 Br (n26_1 == 0) (
 ∃ n32_0, w10.cell? ((⟨r7, 0, none⟩ : Addr).add 0) = some (.int .i64 n32_0) /\
 ∃ n32_1, w10.cell? ((⟨r7, 0, none⟩ : Addr).add 1) = some (.int .i64 n32_1) /\
 ∃ s32_2, w10.cell? ((⟨r7, 0, none⟩ : Addr).add 2) = some (.string s32_2) /\
 ∃ n33_0, w10.cell? ((⟨r5, 0, none⟩ : Addr).add 0) = some (.int .i64 n33_0) /\
 ∃ n33_1, w10.cell? ((⟨r5, 0, none⟩ : Addr).add 1) = some (.int .i64 n33_1) /\
 ∃ s33_2, w10.cell? ((⟨r5, 0, none⟩ : Addr).add 2) = some (.string s33_2) /\
 ∃ b34 : Bool, ∃ w11, (eqS .eql 28 (.tmp 32) (.tmp 33) (.agg #[.int .i64 n32_0, .int .i64 n32_1, .string s32_2]) (.agg #[.int .i64 n33_0, .int .i64 n33_1, .string s33_2])).run prog w10 = .ok (.bool b34) w11 /\
 runD prog ds w11 fun w12 =>
 R (.returned (.bool b34)) w12) (
 runD prog ds w10 fun w13 =>
 R (.returned (.bool false)) w13)))
theorem F94_p : Pl prog f94 [aS 0 [.str, .int .i64, .int .i64, .bool], iS 1, aS 2 [.int .i64, .int .i64, .str]] F94_1 := fun R =>
  lf
theorem F94_calls (s0_0 : ByteArray) (n0_1 n0_2 : Int) (b0_3 : Bool) (n1 n2_0 n2_1 : Int) (s2_2 : ByteArray) (w : World) (R : Rt) (h : F94_1 R s0_0 n0_1 n0_2 b0_3 n1 n2_0 n2_1 s2_2 [] w) : Calls prog 94 #[.agg #[.string s0_0, .int .i64 n0_1, .int .i64 n0_2, .bool b0_3], .int .i64 n1, .agg #[.int .i64 n2_0, .int .i64 n2_1, .string s2_2]] w R :=
  plC F94_p func94 h
def F12_1 (R : Rt) (ds : Ds) (w : World) : Prop :=
 runD prog ds w fun w1 =>
 R (.returned (.int .i64 0)) w1
def F12_2 (R : Rt) (J1 : (Int) -> World -> Prop) (p1 : Option Addr) (n4 : Int) (ds : Ds) (w : World) : Prop :=
 ptrE p1 fun a2 =>
 ∃ l22 : SV, w.cell? (a2.add 2) = some (.slice l22.a l22.len l22.cap) /\
 Br (decide (n4 < (l22.len : Int))) (
 dwE w fun w3 =>
 ptrE p1 fun a4 =>
 ∃ l28 : SV, w3.cell? (a4.add 1) = some (.slice l28.a l28.len l28.cap) /\
 ptrE p1 fun a5 =>
 ∃ n30, w3.cell? a5 = some (.int .i64 n30) /\
 ptrE p1 fun a6 =>
 ∃ l32 : SV, w3.cell? (a6.add 2) = some (.slice l32.a l32.len l32.cap) /\
 ∃ a7, l32.a = some a7 /\ 0 <= n4 /\ n4 < (l32.len : Int) /\
 ∃ b35_0, w3.cell? ((a7.add (n4.toNat * 2)).add 0) = some (.bool b35_0) /\
 ∃ l35_1 : SV, w3.cell? ((a7.add (n4.toNat * 2)).add 1) = some (.slice l35_1.a l35_1.len l35_1.cap) /\
 Calls prog 43 #[.slice l28.a l28.len l28.cap, .int .i64 n30, .agg #[.bool b35_0, .slice l35_1.a l35_1.len l35_1.cap]] w3 fun e w8 =>
 ∃ n36 : Int, e = .returned (.int .i64 n36) /\
 Br (n36 != 0) (
 runD prog ds w8 fun w9 =>
 R (.returned (.int .i64 n36)) w9) (
 J1 (IntKind.i64.wrap (n4 + 1)) w8)) (
 F12_1 R ds w)
def F12_3 (R : Rt) (p1 : Option Addr) (n4 : Int) (ds : Ds) (w : World) : Prop :=
 loopT (fun (J1 : (Int) -> World -> Prop) (s : Int) (w : World) => F12_2 R J1 p1 s ds w) n4 w
def F12_5 (R : Rt) (n0_0 : Int) (l0_1 l0_2 : SV) (ds : Ds) (w : World) : Prop :=
 alE (.cells #[.int .i64 n0_0, .slice l0_1.a l0_1.len l0_1.cap, .slice l0_2.a l0_2.len l0_2.cap] 25) w fun r1 w10 =>
 ∃ n7, w10.cell? (⟨r1, 0, none⟩ : Addr) = some (.int .i64 n7) /\
 Calls prog 41 #[.int .i64 n7] w10 fun e w11 =>
 ∃ b8 : Bool, e = .returned (.bool b8) /\
 Br (!b8) (
 runD prog ds w11 fun w12 =>
 R (.returned (.int .i64 1)) w12) (
 ∃ l11 : SV, w11.cell? ((⟨r1, 0, none⟩ : Addr).add 1) = some (.slice l11.a l11.len l11.cap) /\
 Calls prog 42 #[.slice l11.a l11.len l11.cap] w11 fun e w13 =>
 ∃ n12 : Int, e = .returned (.int .i64 n12) /\
 Br (n12 != 0) (
 runD prog ds w13 fun w14 =>
 R (.returned (.int .i64 n12)) w14) (
 ∃ l17 : SV, w13.cell? ((⟨r1, 0, none⟩ : Addr).add 2) = some (.slice l17.a l17.len l17.cap) /\
 Br (decide ((l17.len : Int) > 300)) (
 runD prog ds w13 fun w15 =>
 R (.returned (.int .i64 3)) w15) (
 F12_3 R (some (⟨r1, 0, none⟩ : Addr)) 0 ds w13)))
theorem F12_p : Pl prog f12 [aS 0 [.int .i64, .slice, .slice]] F12_5 := fun R =>
  pc 9 (rest [pS 1, iS 4] (F12_3 R) (bk 0 (rest [] (F12_1 R) lf) (lp [iS 4] [pS 1, iS 4] (F12_2 R) rnil fun J1 => lf)))
theorem F12_calls (n0_0 : Int) (l0_1 l0_2 : SV) (w : World) (R : Rt) (h : F12_5 R n0_0 l0_1 l0_2 [] w) : Calls prog 12 #[.agg #[.int .i64 n0_0, .slice l0_1.a l0_1.len l0_1.cap, .slice l0_2.a l0_2.len l0_2.cap]] w R :=
  plC F12_p func12 h
def F43_1 (R : Rt) (ds : Ds) (w : World) : Prop :=
 runD prog ds w fun w1 =>
 R (.returned (.int .i64 0)) w1
def F43_2 (R : Rt) (J1 : (Int) -> World -> Prop) (l0 : SV) (n1 : Int) (p5 : Option Addr) (n7 : Int) (ds : Ds) (w : World) : Prop :=
 Br (decide (n7 < (l0.len : Int))) (
 dwE w fun w2 =>
 ∃ a3, l0.a = some a3 /\ 0 <= n7 /\ n7 < (l0.len : Int) /\
 ∃ s23_0, w2.cell? ((a3.add (n7.toNat * 4)).add 0) = some (.string s23_0) /\
 ∃ n23_1, w2.cell? ((a3.add (n7.toNat * 4)).add 1) = some (.int .i64 n23_1) /\
 ∃ n23_2, w2.cell? ((a3.add (n7.toNat * 4)).add 2) = some (.int .i64 n23_2) /\
 ∃ b23_3, w2.cell? ((a3.add (n7.toNat * 4)).add 3) = some (.bool b23_3) /\
 ptrE p5 fun a4 =>
 ∃ l26 : SV, w2.cell? (a4.add 1) = some (.slice l26.a l26.len l26.cap) /\
 ∃ a5, l26.a = some a5 /\ 0 <= n7 /\ n7 < (l26.len : Int) /\
 ∃ n29_0, w2.cell? ((a5.add (n7.toNat * 3)).add 0) = some (.int .i64 n29_0) /\
 ∃ n29_1, w2.cell? ((a5.add (n7.toNat * 3)).add 1) = some (.int .i64 n29_1) /\
 ∃ s29_2, w2.cell? ((a5.add (n7.toNat * 3)).add 2) = some (.string s29_2) /\
 Calls prog 96 #[.agg #[.string s23_0, .int .i64 n23_1, .int .i64 n23_2, .bool b23_3], .int .i64 n1, .agg #[.int .i64 n29_0, .int .i64 n29_1, .string s29_2]] w2 fun e w6 =>
 ∃ b30 : Bool, e = .returned (.bool b30) /\
 Br (!b30) (
 runD prog ds w6 fun w7 =>
 R (.returned (.int .i64 1)) w7) (
 J1 (IntKind.i64.wrap (n7 + 1)) w6)) (
 F43_1 R ds w)
def F43_3 (R : Rt) (l0 : SV) (n1 : Int) (p5 : Option Addr) (n7 : Int) (ds : Ds) (w : World) : Prop :=
 loopT (fun (J1 : (Int) -> World -> Prop) (s : Int) (w : World) => F43_2 R J1 l0 n1 p5 s ds w) n7 w
def F43_5 (R : Rt) (l0 : SV) (n1 : Int) (b2_0 : Bool) (l2_1 : SV) (ds : Ds) (w : World) : Prop :=
 alE (.cells #[.bool b2_0, .slice l2_1.a l2_1.len l2_1.cap] 77) w fun r5 w8 =>
 ∃ l9 : SV, w8.cell? ((⟨r5, 0, none⟩ : Addr).add 1) = some (.slice l9.a l9.len l9.cap) /\
 Br ((l9.len : Int) != (l0.len : Int)) (
 runD prog ds w8 fun w9 =>
 R (.returned (.int .i64 10)) w9) (
 F43_3 R l0 n1 (some (⟨r5, 0, none⟩ : Addr)) 0 ds w8)
theorem F43_p : Pl prog f43 [lS 0, iS 1, aS 2 [.bool, .slice]] F43_5 := fun R =>
  pc 4 (rest [lS 0, iS 1, pS 5, iS 7] (F43_3 R) (bk 0 (rest [] (F43_1 R) lf) (lp [iS 7] [lS 0, iS 1, pS 5, iS 7] (F43_2 R) rnil fun J1 => lf)))
theorem F43_calls (l0 : SV) (n1 : Int) (b2_0 : Bool) (l2_1 : SV) (w : World) (R : Rt) (h : F43_5 R l0 n1 b2_0 l2_1 [] w) : Calls prog 43 #[.slice l0.a l0.len l0.cap, .int .i64 n1, .agg #[.bool b2_0, .slice l2_1.a l2_1.len l2_1.cap]] w R :=
  plC F43_p func43 h
end Go.Proofs.YtcihcbfcgjepfaaGreatDoor

/- Shallow texts of functions, printed by program, each checked by the kernel against the loaded code. No condition. -/
set_option maxRecDepth 100000
set_option linter.unusedVariables false
namespace Go.Proofs.YtcihcbfcgjepfaaGreatDoor
open Go.Sh Tryz
end Go.Proofs.YtcihcbfcgjepfaaGreatDoor

/- Shallow texts of functions, printed by program, each checked by the kernel against the loaded code. No condition. -/
set_option maxRecDepth 100000
set_option linter.unusedVariables false
namespace Go.Proofs.YtcihcbfcgjepfaaGreatDoor
open Go.Sh Tryz
def F36_1 (R : Rt) (n3 : Int) (ds : Ds) (w : World) : Prop :=
 runD prog ds w fun w1 =>
 R (.returned (.int .i64 n3)) w1
def F36_2 (R : Rt) (J1 : (Int × Int) -> World -> Prop) (p1 : Option Addr) (n3 n5 : Int) (ds : Ds) (w : World) : Prop :=
 ptrE p1 fun a2 =>
 ∃ l28 : SV, w.cell? (a2.add 2) = some (.slice l28.a l28.len l28.cap) /\
 Br (decide (n5 < (l28.len : Int))) (
 ptrE p1 fun a3 =>
 ∃ l35 : SV, w.cell? (a3.add 2) = some (.slice l35.a l35.len l35.cap) /\
 ∃ a4, l35.a = some a4 /\ 0 <= n5 /\ n5 < (l35.len : Int) /\
 ∃ l39 : SV, w.cell? ((a4.add (n5.toNat * 2)).add 1) = some (.slice l39.a l39.len l39.cap) /\
 Calls prog 91 #[.slice l39.a l39.len l39.cap] w fun e w5 =>
 ∃ n40 : Int, e = .returned (.int .i64 n40) /\
 J1 ((IntKind.i64.wrap (n3 + (IntKind.i64.wrap ((8 : Int) + n40)))), (IntKind.i64.wrap (n5 + 1))) w5) (
 F36_1 R n3 ds w)
def F36_3 (R : Rt) (p1 : Option Addr) (n3 n5 : Int) (ds : Ds) (w : World) : Prop :=
 loopT (fun (J1 : (Int × Int) -> World -> Prop) (s : Int × Int) (w : World) => F36_2 R J1 p1 s.1 s.2 ds w) (n3, n5) w
def F36_5 (R : Rt) (p1 : Option Addr) (n3 : Int) (ds : Ds) (w : World) : Prop :=
 F36_3 R p1 n3 0 ds w
def F36_6 (R : Rt) (J1 : (Int × Int) -> World -> Prop) (p1 : Option Addr) (n3 n4 : Int) (ds : Ds) (w : World) : Prop :=
 ptrE p1 fun a6 =>
 ∃ l12 : SV, w.cell? (a6.add 1) = some (.slice l12.a l12.len l12.cap) /\
 Br (decide (n4 < (l12.len : Int))) (
 ptrE p1 fun a7 =>
 ∃ l19 : SV, w.cell? (a7.add 1) = some (.slice l19.a l19.len l19.cap) /\
 ∃ a8, l19.a = some a8 /\ 0 <= n4 /\ n4 < (l19.len : Int) /\
 ∃ s23, w.cell? (a8.add (n4.toNat * 4)) = some (.string s23) /\
 J1 ((IntKind.i64.wrap (n3 + (s23.size : Int))), (IntKind.i64.wrap (n4 + 1))) w) (
 F36_5 R p1 n3 ds w)
def F36_7 (R : Rt) (p1 : Option Addr) (n3 n4 : Int) (ds : Ds) (w : World) : Prop :=
 loopT (fun (J1 : (Int × Int) -> World -> Prop) (s : Int × Int) (w : World) => F36_6 R J1 p1 s.1 s.2 ds w) (n3, n4) w
def F36_9 (R : Rt) (n0_0 : Int) (l0_1 l0_2 : SV) (ds : Ds) (w : World) : Prop :=
 alE (.cells #[.int .i64 n0_0, .slice l0_1.a l0_1.len l0_1.cap, .slice l0_2.a l0_2.len l0_2.cap] 25) w fun r1 w9 =>
 ∃ l7 : SV, w9.cell? ((⟨r1, 0, none⟩ : Addr).add 1) = some (.slice l7.a l7.len l7.cap) /\
 F36_7 R (some (⟨r1, 0, none⟩ : Addr)) (IntKind.i64.wrap ((16 : Int) * (l7.len : Int))) 0 ds w9
theorem F36_p : Pl prog f36 [aS 0 [.int .i64, .slice, .slice]] F36_9 := fun R =>
  pc 3 (rest [pS 1, iS 3, iS 4] (F36_7 R) (bk 0 (rest [pS 1, iS 3] (F36_5 R) (pc 1 (rest [pS 1, iS 3, iS 5] (F36_3 R) (bk 2 (rest [iS 3] (F36_1 R) lf) (lp [iS 3, iS 5] [pS 1, iS 3, iS 5] (F36_2 R) rnil fun J1 => lf))))) (lp [iS 3, iS 4] [pS 1, iS 3, iS 4] (F36_6 R) rnil fun J1 => lf)))
theorem F36_calls (n0_0 : Int) (l0_1 l0_2 : SV) (w : World) (R : Rt) (h : F36_9 R n0_0 l0_1 l0_2 [] w) : Calls prog 36 #[.agg #[.int .i64 n0_0, .slice l0_1.a l0_1.len l0_1.cap, .slice l0_2.a l0_2.len l0_2.cap]] w R :=
  plC F36_p func36 h
def F91_1 (R : Rt) (n3 : Int) (ds : Ds) (w : World) : Prop :=
 runD prog ds w fun w1 =>
 R (.returned (.int .i64 n3)) w1
def F91_2 (R : Rt) (J1 : (Int × Int) -> World -> Prop) (l0 : SV) (n3 n4 : Int) (ds : Ds) (w : World) : Prop :=
 Br (decide (n4 < (l0.len : Int))) (
 ∃ a2, l0.a = some a2 /\ 0 <= n4 /\ n4 < (l0.len : Int) /\
 ∃ s19, w.cell? ((a2.add (n4.toNat * 3)).add 2) = some (.string s19) /\
 J1 ((IntKind.i64.wrap (n3 + (s19.size : Int))), (IntKind.i64.wrap (n4 + 1))) w) (
 F91_1 R n3 ds w)
def F91_3 (R : Rt) (l0 : SV) (n3 n4 : Int) (ds : Ds) (w : World) : Prop :=
 loopT (fun (J1 : (Int × Int) -> World -> Prop) (s : Int × Int) (w : World) => F91_2 R J1 l0 s.1 s.2 ds w) (n3, n4) w
def F91_5 (R : Rt) (l0 : SV) (ds : Ds) (w : World) : Prop :=
 F91_3 R l0 (IntKind.i64.wrap ((8 : Int) * (l0.len : Int))) 0 ds w
theorem F91_p : Pl prog f91 [lS 0] F91_5 := fun R =>
  pc 3 (rest [lS 0, iS 3, iS 4] (F91_3 R) (bk 0 (rest [iS 3] (F91_1 R) lf) (lp [iS 3, iS 4] [lS 0, iS 3, iS 4] (F91_2 R) rnil fun J1 => lf)))
theorem F91_calls (l0 : SV) (w : World) (R : Rt) (h : F91_5 R l0 [] w) : Calls prog 91 #[.slice l0.a l0.len l0.cap] w R :=
  plC F91_p func91 h
end Go.Proofs.YtcihcbfcgjepfaaGreatDoor

/- Shallow texts of functions, printed by program, each checked by the kernel against the loaded code. No condition. -/
set_option maxRecDepth 100000
set_option linter.unusedVariables false
namespace Go.Proofs.YtcihcbfcgjepfaaGreatDoor
open Go.Sh Tryz
def F19_1 (R : Rt) (n0_0 n0_1 : Int) (s0_2 : ByteArray) (n1_0 n1_1 : Int) (s1_2 : ByteArray) (ds : Ds) (w : World) : Prop :=
 alE (.cells #[.int .i64 n0_0, .int .i64 n0_1, .string s0_2] 28) w fun r2 w1 =>
 alE (.cells #[.int .i64 n1_0, .int .i64 n1_1, .string s1_2] 28) w1 fun r3 w2 =>
 ∃ n6, w2.cell? (⟨r2, 0, none⟩ : Addr) = some (.int .i64 n6) /\
 ∃ n8, w2.cell? (⟨r3, 0, none⟩ : Addr) = some (.int .i64 n8) /\
 Br (n6 == n8) (
 ∃ n12, w2.cell? ((⟨r2, 0, none⟩ : Addr).add 1) = some (.int .i64 n12) /\
 ∃ n14, w2.cell? ((⟨r3, 0, none⟩ : Addr).add 1) = some (.int .i64 n14) /\
 Br (n12 == n14) (
 ∃ s19, w2.cell? ((⟨r2, 0, none⟩ : Addr).add 2) = some (.string s19) /\
 ∃ s21, w2.cell? ((⟨r3, 0, none⟩ : Addr).add 2) = some (.string s21) /\
 runD prog ds w2 fun w3 =>
 R (.returned (.bool (s19.toList == s21.toList))) w3) (
 runD prog ds w2 fun w4 =>
 R (.returned (.bool false)) w4)) (
 runD prog ds w2 fun w5 =>
 R (.returned (.bool false)) w5)
theorem F19_p : Pl prog f19 [aS 0 [.int .i64, .int .i64, .str], aS 1 [.int .i64, .int .i64, .str]] F19_1 := fun R =>
  lf
theorem F19_calls (n0_0 n0_1 : Int) (s0_2 : ByteArray) (n1_0 n1_1 : Int) (s1_2 : ByteArray) (w : World) (R : Rt) (h : F19_1 R n0_0 n0_1 s0_2 n1_0 n1_1 s1_2 [] w) : Calls prog 19 #[.agg #[.int .i64 n0_0, .int .i64 n0_1, .string s0_2], .agg #[.int .i64 n1_0, .int .i64 n1_1, .string s1_2]] w R :=
  plC F19_p func19 h
end Go.Proofs.YtcihcbfcgjepfaaGreatDoor

/- Shallow texts of functions, printed by program, each checked by the kernel against the loaded code. No condition. -/
set_option maxRecDepth 100000
set_option linter.unusedVariables false
namespace Go.Proofs.YtcihcbfcgjepfaaGreatDoor
open Go.Sh Tryz
end Go.Proofs.YtcihcbfcgjepfaaGreatDoor

/- Shallow texts of functions, printed by program, each checked by the kernel against the loaded code. No condition. -/
set_option maxRecDepth 100000
set_option linter.unusedVariables false
namespace Go.Proofs.YtcihcbfcgjepfaaGreatDoor
open Go.Sh Tryz
def F37_1 (R : Rt) (n0 : Int) (ds : Ds) (w : World) : Prop :=
 alE (.cells #[.int .i64 0, .int .i64 0, .string (⟨#[]⟩ : ByteArray)] 28) w fun r2 w1 =>
 stA prog 28 (⟨r2, 0, none⟩ : Addr) #[.int .i64 2, .int .i64 n0, .string (⟨#[]⟩ : ByteArray)] w1 fun w2 =>
 runD prog ds w2 fun w3 =>
 ∃ nR0_0, w3.cell? ((⟨r2, 0, none⟩ : Addr).add 0) = some (.int .i64 nR0_0) /\
 ∃ nR0_1, w3.cell? ((⟨r2, 0, none⟩ : Addr).add 1) = some (.int .i64 nR0_1) /\
 ∃ sR0_2, w3.cell? ((⟨r2, 0, none⟩ : Addr).add 2) = some (.string sR0_2) /\
 R (.returned (.agg #[.int .i64 nR0_0, .int .i64 nR0_1, .string sR0_2])) w3
theorem F37_p : Pl prog f37 [iS 0] F37_1 := fun R =>
  lf
theorem F37_calls (n0 : Int) (w : World) (R : Rt) (h : F37_1 R n0 [] w) : Calls prog 37 #[.int .i64 n0] w R :=
  plC F37_p func37 h
end Go.Proofs.YtcihcbfcgjepfaaGreatDoor

/- Shallow texts of functions, printed by program, each checked by the kernel against the loaded code. No condition. -/
set_option maxRecDepth 100000
set_option linter.unusedVariables false
namespace Go.Proofs.YtcihcbfcgjepfaaGreatDoor
open Go.Sh Tryz
def F128_1 (R : Rt) (v0 : Value) (ds : Ds) (w : World) : Prop :=
 Calls prog 165 #[v0] w fun e w1 =>
 ∃ l5 : SV, e = .returned (.slice l5.a l5.len l5.cap) /\
 Calls prog 166 #[.slice l5.a l5.len l5.cap] w1 fun e w2 =>
 e = .returned (.tuple #[]) /\
 runD prog ds w2 fun w3 =>
 R (.returned (.slice l5.a l5.len l5.cap)) w3
theorem F128_p : Pl prog f128 [vS 0] F128_1 := fun R =>
  lf
theorem F128_calls (v0 : Value) (w : World) (R : Rt) (h : F128_1 R v0 [] w) : Calls prog 128 #[v0] w R :=
  plC F128_p func128 h
def F129_1 (R : Rt) (m0 : Option Nat) (ds : Ds) (w : World) : Prop :=
 alE (.cells #[.map m0] 88) w fun r1 w1 =>
 runD prog ds w1 fun w2 =>
 R (.returned (.func (.func 167) #[] #[.pointer (some (⟨r1, 0, none⟩ : Addr))])) w2
theorem F129_p : Pl prog f129 [mS 0] F129_1 := fun R =>
  lf
theorem F129_calls (m0 : Option Nat) (w : World) (R : Rt) (h : F129_1 R m0 [] w) : Calls prog 129 #[.map m0] w R :=
  plC F129_p func129 h
def F165_1 (R : Rt) (v0 : Value) (ds : Ds) (w : World) : Prop :=
 Calls prog 201 #[.slice none 0 0, v0] w fun e w1 =>
 ∃ l4 : SV, e = .returned (.slice l4.a l4.len l4.cap) /\
 runD prog ds w1 fun w2 =>
 R (.returned (.slice l4.a l4.len l4.cap)) w2
theorem F165_p : Pl prog f165 [vS 0] F165_1 := fun R =>
  lf
theorem F165_calls (v0 : Value) (w : World) (R : Rt) (h : F165_1 R v0 [] w) : Calls prog 165 #[v0] w R :=
  plC F165_p func165 h
end Go.Proofs.YtcihcbfcgjepfaaGreatDoor

/- Shallow texts of functions, printed by program, each checked by the kernel against the loaded code. No condition. -/
set_option maxRecDepth 100000
set_option linter.unusedVariables false
namespace Go.Proofs.YtcihcbfcgjepfaaGreatDoor
open Go.Sh Tryz
def F85_1 (R : Rt) (p0 : Option Addr) (ds : Ds) (w : World) : Prop :=
 ptrE p0 fun a1 =>
 Calls prog 138 #[.pointer (some a1)] w fun e w2 =>
 e = .returned (.tuple #[]) /\
 runD prog ds w2 fun w3 =>
 R (.returned (.tuple #[])) w3
theorem F85_p : Pl prog f85 [pS 0] F85_1 := fun R =>
  lf
theorem F85_calls (p0 : Option Addr) (w : World) (R : Rt) (h : F85_1 R p0 [] w) : Calls prog 85 #[.pointer p0] w R :=
  plC F85_p func85 h
def F86_1 (R : Rt) (p0 : Option Addr) (ds : Ds) (w : World) : Prop :=
 ptrE p0 fun a1 =>
 Calls prog 139 #[.pointer (some a1)] w fun e w2 =>
 e = .returned (.tuple #[]) /\
 runD prog ds w2 fun w3 =>
 R (.returned (.tuple #[])) w3
theorem F86_p : Pl prog f86 [pS 0] F86_1 := fun R =>
  lf
theorem F86_callsD (p0 : Option Addr) (w : World) (R : Rt) (u : FrameMode) (h : F86_1 R p0 [] w) : CallsD prog 86 #[.pointer p0] u w fun e u' w' => u' = u /\ R e w' :=
  plD F86_p func86 u h
def F138_1 (R : Rt) (p0 : Option Addr) (ds : Ds) (w : World) : Prop :=
 ∃ w1, (callFunc 168 #[]).run prog w = .ok (.value (.tuple #[])) w1 /\
 ptrE p0 fun a2 =>
 ∃ b6 : Bool, ∃ w3, (callFunc 169 #[.pointer (some a2), .int .i32 0, .int .i32 1]).run prog w1 = .ok (.value (.bool b6)) w3 /\
 Br b6 (
 ∃ w4, (callFunc 170 #[]).run prog w3 = .ok (.value (.tuple #[])) w4 /\
 ∃ v9 : Value, ∃ w5, (convert 202 206 (.pointer p0)).run prog w4 = .ok (v9) w5 /\
 ∃ w6, (callFunc 171 #[v9]).run prog w5 = .ok (.value (.tuple #[])) w6 /\
 runD prog ds w6 fun w7 =>
 R (.returned (.tuple #[])) w7) (
 Calls prog 172 #[.pointer p0] w3 fun e w8 =>
 e = .returned (.tuple #[]) /\
 runD prog ds w8 fun w9 =>
 R (.returned (.tuple #[])) w9)
theorem F138_p : Pl prog f138 [pS 0] F138_1 := fun R =>
  lf
theorem F138_calls (p0 : Option Addr) (w : World) (R : Rt) (h : F138_1 R p0 [] w) : Calls prog 138 #[.pointer p0] w R :=
  plC F138_p func138 h
def F139_1 (R : Rt) (p0 : Option Addr) (ds : Ds) (w : World) : Prop :=
 ptrE p0 fun a1 =>
 ∃ n6, w.cell? a1 = some (.int .i32 n6) /\
 ∃ v8 : Value, ∃ w2, (convert 202 206 (.pointer p0)).run prog w = .ok (v8) w2 /\
 ∃ w3, (callFunc 173 #[v8]).run prog w2 = .ok (.value (.tuple #[])) w3 /\
 ∃ w4, (callFunc 168 #[]).run prog w3 = .ok (.value (.tuple #[])) w4 /\
 ptrE p0 fun a5 =>
 ∃ n14 : Int, ∃ w6, (callFunc 174 #[.pointer (some a5), .int .i32 (-1)]).run prog w4 = .ok (.value (.int .i32 n14)) w6 /\
 Br (n14 != 0) (
 Calls prog 175 #[.pointer p0, .int .i32 n14] w6 fun e w7 =>
 e = .returned (.tuple #[]) /\
 ∃ w8, (callFunc 170 #[]).run prog w7 = .ok (.value (.tuple #[])) w8 /\
 runD prog ds w8 fun w9 =>
 R (.returned (.tuple #[])) w9) (
 ∃ w10, (callFunc 170 #[]).run prog w6 = .ok (.value (.tuple #[])) w10 /\
 runD prog ds w10 fun w11 =>
 R (.returned (.tuple #[])) w11)
theorem F139_p : Pl prog f139 [pS 0] F139_1 := fun R =>
  lf
theorem F139_calls (p0 : Option Addr) (w : World) (R : Rt) (h : F139_1 R p0 [] w) : Calls prog 139 #[.pointer p0] w R :=
  plC F139_p func139 h
def F47_1 (R : Rt) (p0 : Option Addr) (n1 : Int) (ds : Ds) (w : World) : Prop :=
 ∃ b8 : Bool, ∃ w1, (eqS .eql 32 (.tmp 7) (.const (.pointer none)) (.pointer p0) (.pointer none)).run prog w = .ok (.bool b8) w1 /\
 Br b8 (
 runD prog ds w1 fun w2 =>
 R (.returned (.tuple #[.pointer none, .func (.func 102) #[] #[], .int .i64 9])) w2) (
 ptrE p0 fun a3 =>
 Calls prog 85 #[.pointer (some a3)] w1 fun e w4 =>
 e = .returned (.tuple #[]) /\
 Br (decide (n1 < 0)) (
 dwE w4 fun w5 =>
 ptrE p0 fun a6 =>
 runD prog ds w5 fun w7 =>
 R (.returned (.tuple #[.pointer none, .func (.func 86) #[.pointer (some a6)] #[], .int .i64 1])) w7) (
 Br (decide (n1 ≥ 4)) (
 dwE w4 fun w8 =>
 ptrE p0 fun a9 =>
 runD prog ds w8 fun w10 =>
 R (.returned (.tuple #[.pointer none, .func (.func 86) #[.pointer (some a9)] #[], .int .i64 1])) w10) (
 dwE w4 fun w11 =>
 ptrE p0 fun a12 =>
 0 <= n1 /\ n1 < (4 : Int) /\
 ptrE p0 fun a13 =>
 runD prog ds w11 fun w14 =>
 R (.returned (.tuple #[.pointer (some ((a12.add 5).add (n1.toNat * 4))), .func (.func 86) #[.pointer (some a13)] #[], .int .i64 0])) w14)))
theorem F47_p : Pl prog f47 [pS 0, iS 1] F47_1 := fun R =>
  lf
theorem F47_calls (p0 : Option Addr) (n1 : Int) (w : World) (R : Rt) (h : F47_1 R p0 n1 [] w) : Calls prog 47 #[.pointer p0, .int .i64 n1] w R :=
  plC F47_p func47 h
end Go.Proofs.YtcihcbfcgjepfaaGreatDoor

/- Shallow texts of functions, printed by program, each checked by the kernel against the loaded code. No condition. -/
set_option maxRecDepth 100000
set_option linter.unusedVariables false
namespace Go.Proofs.YtcihcbfcgjepfaaGreatDoor
open Go.Sh Tryz
def F11_1 (R : Rt) (p5 : Option Addr) (ds : Ds) (w : World) : Prop :=
 runD prog ds w fun w1 =>
 R (.returned (.tuple #[.pointer p5, .int .i64 0])) w1
def F11_2 (R : Rt) (J1 : (Int) -> World -> Prop) (p5 : Option Addr) (n24 : Int) (ds : Ds) (w : World) : Prop :=
 Br (decide (n24 < 4)) (
 alE (.map #[] 0) w fun r29 w2 =>
 ptrE p5 fun a3 =>
 0 <= n24 /\ n24 < (4 : Int) /\
 st1 (((a3.add 5).add (n24.toNat * 4)).add 2) (.map (some r29)) w2 fun w4 =>
 J1 (IntKind.i64.wrap (n24 + 1)) w4) (
 F11_1 R p5 ds w)
def F11_3 (R : Rt) (p5 : Option Addr) (n24 : Int) (ds : Ds) (w : World) : Prop :=
 loopT (fun (J1 : (Int) -> World -> Prop) (s : Int) (w : World) => F11_2 R J1 p5 s ds w) n24 w
def F11_5 (R : Rt) (n0_0 : Int) (l0_1 l0_2 : SV) (ds : Ds) (w : World) : Prop :=
 alE (.cells #[.int .i64 n0_0, .slice l0_1.a l0_1.len l0_1.cap, .slice l0_2.a l0_2.len l0_2.cap] 25) w fun r1 w5 =>
 ∃ n7_0, w5.cell? ((⟨r1, 0, none⟩ : Addr).add 0) = some (.int .i64 n7_0) /\
 ∃ l7_1 : SV, w5.cell? ((⟨r1, 0, none⟩ : Addr).add 1) = some (.slice l7_1.a l7_1.len l7_1.cap) /\
 ∃ l7_2 : SV, w5.cell? ((⟨r1, 0, none⟩ : Addr).add 2) = some (.slice l7_2.a l7_2.len l7_2.cap) /\
 Calls prog 38 #[.agg #[.int .i64 n7_0, .slice l7_1.a l7_1.len l7_1.cap, .slice l7_2.a l7_2.len l7_2.cap]] w5 fun e w6 =>
 ∃ n8 : Int, e = .returned (.int .i64 n8) /\
 Br (n8 != 0) (
 runD prog ds w6 fun w7 =>
 R (.returned (.tuple #[.pointer none, .int .i64 n8])) w7) (
 dwE w6 fun w8 =>
 ∃ S1 : World -> Prop, S1 w8 /\
 ∃ l13 : SV, (∀ w', S1 w' -> w'.cell? ((⟨r1, 0, none⟩ : Addr).add 1) = some (.slice l13.a l13.len l13.cap)) /\
 ∃ l16 : SV, (∀ w', S1 w' -> w'.cell? ((⟨r1, 0, none⟩ : Addr).add 2) = some (.slice l16.a l16.len l16.cap)) /\
 Calls prog 39 #[.slice l13.a l13.len l13.cap] w8 fun e w9 =>
 ∃ l14 : SV, e = .returned (.slice l14.a l14.len l14.cap) /\
 S1 w9 /\
 Calls prog 40 #[.slice l16.a l16.len l16.cap] w9 fun e w10 =>
 ∃ l17 : SV, e = .returned (.slice l17.a l17.len l17.cap) /\
 st1 ((⟨r1, 0, none⟩ : Addr).add 1) (.slice l14.a l14.len l14.cap) w10 fun w11 =>
 st1 ((⟨r1, 0, none⟩ : Addr).add 2) (.slice l17.a l17.len l17.cap) w11 fun w12 =>
 ∃ n20_0, w12.cell? ((⟨r1, 0, none⟩ : Addr).add 0) = some (.int .i64 n20_0) /\
 ∃ l20_1 : SV, w12.cell? ((⟨r1, 0, none⟩ : Addr).add 1) = some (.slice l20_1.a l20_1.len l20_1.cap) /\
 ∃ l20_2 : SV, w12.cell? ((⟨r1, 0, none⟩ : Addr).add 2) = some (.slice l20_2.a l20_2.len l20_2.cap) /\
 alE (.map #[] 0) w12 fun r21 w13 =>
 alE (.cells #[.int .i32 0, .int .u32 0, .int .i64 n20_0, .slice l20_1.a l20_1.len l20_1.cap, .slice l20_2.a l20_2.len l20_2.cap, .int .i64 0, .int .i64 0, .map none, .slice none 0 0, .int .i64 0, .int .i64 0, .map none, .slice none 0 0, .int .i64 0, .int .i64 0, .map none, .slice none 0 0, .int .i64 0, .int .i64 0, .map none, .slice none 0 0, .map (some r21)] 93) w13 fun r23 w14 =>
 F11_3 R (some (⟨r23, 0, none⟩ : Addr)) 0 ds w14)
theorem F11_p : Pl prog f11 [aS 0 [.int .i64, .slice, .slice]] F11_5 := fun R =>
  pc 7 (rest [pS 5, iS 24] (F11_3 R) (bk 0 (rest [pS 5] (F11_1 R) lf) (lp [iS 24] [pS 5, iS 24] (F11_2 R) rnil fun J1 => lf)))
theorem F11_calls (n0_0 : Int) (l0_1 l0_2 : SV) (w : World) (R : Rt) (h : F11_5 R n0_0 l0_1 l0_2 [] w) : Calls prog 11 #[.agg #[.int .i64 n0_0, .slice l0_1.a l0_1.len l0_1.cap, .slice l0_2.a l0_2.len l0_2.cap]] w R :=
  plC F11_p func11 h
def F40_1 (R : Rt) (l3 : SV) (ds : Ds) (w : World) : Prop :=
 runD prog ds w fun w1 =>
 R (.returned (.slice l3.a l3.len l3.cap)) w1
def F40_2 (R : Rt) (J1 : (SV × Int) -> World -> Prop) (l3 l6 : SV) (n7 n8 : Int) (ds : Ds) (w : World) : Prop :=
 Br (decide (n8 < n7)) (
 ∃ a2, l6.a = some a2 /\ 0 <= n8 /\ n8 < (l6.len : Int) /\
 ∃ b11_0, w.cell? ((a2.add (n8.toNat * 2)).add 0) = some (.bool b11_0) /\
 ∃ l11_1 : SV, w.cell? ((a2.add (n8.toNat * 2)).add 1) = some (.slice l11_1.a l11_1.len l11_1.cap) /\
 alE (.cells #[.bool false, .slice none 0 0] 77) w fun r5 w3 =>
 stA prog 77 (⟨r5, 0, none⟩ : Addr) #[.bool b11_0, .slice l11_1.a l11_1.len l11_1.cap] w3 fun w4 =>
 ∃ b13_0, w4.cell? ((⟨r5, 0, none⟩ : Addr).add 0) = some (.bool b13_0) /\
 ∃ l13_1 : SV, w4.cell? ((⟨r5, 0, none⟩ : Addr).add 1) = some (.slice l13_1.a l13_1.len l13_1.cap) /\
 Calls prog 88 #[.agg #[.bool b13_0, .slice l13_1.a l13_1.len l13_1.cap]] w4 fun e w5 =>
 ∃ b14_0 : Bool, ∃ l14_1 : SV, e = .returned (.agg #[.bool b14_0, .slice l14_1.a l14_1.len l14_1.cap]) /\
 alE (.cells #[.bool b14_0, .slice l14_1.a l14_1.len l14_1.cap] 77) w5 fun r15 w6 =>
 ∃ l16 : SV, ∃ w7, (Builtin.append_ #[23, 23] 23 #[.slice l3.a l3.len l3.cap, .slice (some ⟨r15, 0, none⟩) 1 1]).run prog w6 = .ok (.slice l16.a l16.len l16.cap) w7 /\
 J1 (l16, (IntKind.i64.wrap (n8 + 1))) w7) (
 F40_1 R l3 ds w)
def F40_3 (R : Rt) (l3 l6 : SV) (n7 n8 : Int) (ds : Ds) (w : World) : Prop :=
 loopT (fun (J1 : (SV × Int) -> World -> Prop) (s : SV × Int) (w : World) => F40_2 R J1 s.1 l6 n7 s.2 ds w) (l3, n8) w
def F40_5 (R : Rt) (l0 : SV) (ds : Ds) (w : World) : Prop :=
 F40_3 R ⟨none, 0, 0⟩ l0 (l0.len : Int) 0 ds w
theorem F40_p : Pl prog f40 [lS 0] F40_5 := fun R =>
  pc 3 (rest [lS 3, lS 6, iS 7, iS 8] (F40_3 R) (bk 0 (rest [lS 3] (F40_1 R) lf) (lp [lS 3, iS 8] [lS 3, lS 6, iS 7, iS 8] (F40_2 R) rnil fun J1 => lf)))
theorem F40_calls (l0 : SV) (w : World) (R : Rt) (h : F40_5 R l0 [] w) : Calls prog 40 #[.slice l0.a l0.len l0.cap] w R :=
  plC F40_p func40 h
def F88_1 (R : Rt) (b0_0 : Bool) (l0_1 : SV) (ds : Ds) (w : World) : Prop :=
 alE (.cells #[.bool b0_0, .slice l0_1.a l0_1.len l0_1.cap] 77) w fun r1 w1 =>
 alE (.cells #[.bool false, .slice none 0 0] 77) w1 fun r2 w2 =>
 dwE w2 fun w3 =>
 ∃ S1 : World -> Prop, S1 w3 /\
 ∃ b4, (∀ w', S1 w' -> w'.cell? (⟨r1, 0, none⟩ : Addr) = some (.bool b4)) /\
 ∃ l6 : SV, (∀ w', S1 w' -> w'.cell? ((⟨r1, 0, none⟩ : Addr).add 1) = some (.slice l6.a l6.len l6.cap)) /\
 Calls prog 141 #[.slice l6.a l6.len l6.cap] w3 fun e w4 =>
 ∃ l7 : SV, e = .returned (.slice l7.a l7.len l7.cap) /\
 S1 w4 /\
 stA prog 77 (⟨r2, 0, none⟩ : Addr) #[.bool b4, .slice l7.a l7.len l7.cap] w4 fun w5 =>
 runD prog ds w5 fun w6 =>
 ∃ bR0_0, w6.cell? ((⟨r2, 0, none⟩ : Addr).add 0) = some (.bool bR0_0) /\
 ∃ lR0_1 : SV, w6.cell? ((⟨r2, 0, none⟩ : Addr).add 1) = some (.slice lR0_1.a lR0_1.len lR0_1.cap) /\
 R (.returned (.agg #[.bool bR0_0, .slice lR0_1.a lR0_1.len lR0_1.cap])) w6
theorem F88_p : Pl prog f88 [aS 0 [.bool, .slice]] F88_1 := fun R =>
  lf
theorem F88_calls (b0_0 : Bool) (l0_1 : SV) (w : World) (R : Rt) (h : F88_1 R b0_0 l0_1 [] w) : Calls prog 88 #[.agg #[.bool b0_0, .slice l0_1.a l0_1.len l0_1.cap]] w R :=
  plC F88_p func88 h
def F39_1 (R : Rt) (l0 : SV) (ds : Ds) (w : World) : Prop :=
 ∃ b4 : Bool, ∃ w1, (eqS .eql 22 (.tmp 3) (.const (.slice none 0 0)) (.slice l0.a l0.len l0.cap) (.slice none 0 0)).run prog w = .ok (.bool b4) w1 /\
 Br b4 (
 runD prog ds w1 fun w2 =>
 R (.returned (.slice none 0 0)) w2) (
 alE (.cells #[] 38) w1 fun r5 w3 =>
 ∃ l7 : SV, ∃ w4, (Builtin.append_ #[22, 22] 22 #[.slice (some ⟨r5, 0, none⟩) 0 0, .slice l0.a l0.len l0.cap]).run prog w3 = .ok (.slice l7.a l7.len l7.cap) w4 /\
 runD prog ds w4 fun w5 =>
 R (.returned (.slice l7.a l7.len l7.cap)) w5)
theorem F39_p : Pl prog f39 [lS 0] F39_1 := fun R =>
  lf
theorem F39_calls (l0 : SV) (w : World) (R : Rt) (h : F39_1 R l0 [] w) : Calls prog 39 #[.slice l0.a l0.len l0.cap] w R :=
  plC F39_p func39 h
def F141_1 (R : Rt) (l0 : SV) (ds : Ds) (w : World) : Prop :=
 ∃ b4 : Bool, ∃ w1, (eqS .eql 75 (.tmp 3) (.const (.slice none 0 0)) (.slice l0.a l0.len l0.cap) (.slice none 0 0)).run prog w = .ok (.bool b4) w1 /\
 Br b4 (
 runD prog ds w1 fun w2 =>
 R (.returned (.slice none 0 0)) w2) (
 alE (.cells #[] 28) w1 fun r5 w3 =>
 ∃ l7 : SV, ∃ w4, (Builtin.append_ #[75, 75] 75 #[.slice (some ⟨r5, 0, none⟩) 0 0, .slice l0.a l0.len l0.cap]).run prog w3 = .ok (.slice l7.a l7.len l7.cap) w4 /\
 runD prog ds w4 fun w5 =>
 R (.returned (.slice l7.a l7.len l7.cap)) w5)
theorem F141_p : Pl prog f141 [lS 0] F141_1 := fun R =>
  lf
theorem F141_calls (l0 : SV) (w : World) (R : Rt) (h : F141_1 R l0 [] w) : Calls prog 141 #[.slice l0.a l0.len l0.cap] w R :=
  plC F141_p func141 h
def F14_1 (R : Rt) (p0 : Option Addr) (n1 n2 : Int) (ds : Ds) (w : World) : Prop :=
 Calls prog 47 #[.pointer p0, .int .i64 n1] w fun e w1 =>
 ∃ p13_0 : Option Addr, ∃ v13_1 : Value, ∃ n13_2 : Int, e = .returned (.tuple #[.pointer p13_0, v13_1, .int .i64 n13_2]) /\
 fnE v13_1 fun fx firstx capx =>
 Br (n13_2 != 0) (
 runD prog ({ target := .fn (.func fx) capx, args := (firstx.toList ++ ([] : List Value)).toArray } :: ds) w1 fun w2 =>
 R (.returned (.int .i64 n13_2)) w2) (
 Br (decide (n2 < 0)) (
 runD prog ({ target := .fn (.func fx) capx, args := (firstx.toList ++ ([] : List Value)).toArray } :: ds) w1 fun w3 =>
 R (.returned (.int .i64 1)) w3) (
 Br (decide (n2 > 4)) (
 runD prog ({ target := .fn (.func fx) capx, args := (firstx.toList ++ ([] : List Value)).toArray } :: ds) w1 fun w4 =>
 R (.returned (.int .i64 1)) w4) (
 Calls prog 48 #[.pointer p13_0] w1 fun e w5 =>
 ∃ b31 : Bool, e = .returned (.bool b31) /\
 Br (!b31) (
 runD prog ({ target := .fn (.func fx) capx, args := (firstx.toList ++ ([] : List Value)).toArray } :: ds) w5 fun w6 =>
 R (.returned (.int .i64 9)) w6) (
 ptrE p13_0 fun a7 =>
 st1 a7 (.int .i64 n2) w5 fun w8 =>
 runD prog ({ target := .fn (.func fx) capx, args := (firstx.toList ++ ([] : List Value)).toArray } :: ds) w8 fun w9 =>
 R (.returned (.int .i64 0)) w9))))
theorem F14_p : Pl prog f14 [pS 0, iS 1, iS 2] F14_1 := fun R =>
  lf
theorem F14_calls (p0 : Option Addr) (n1 n2 : Int) (w : World) (R : Rt) (h : F14_1 R p0 n1 n2 [] w) : Calls prog 14 #[.pointer p0, .int .i64 n1, .int .i64 n2] w R :=
  plC F14_p func14 h
def F48_1 (R : Rt) (p0 : Option Addr) (ds : Ds) (w : World) : Prop :=
 ptrE p0 fun a1 =>
 ∃ m6, w.cell? (a1.add 2) = some (.map m6) /\
 ∃ n7 : Int, ∃ w2, (Builtin.len_ #[88] 3 #[.map m6]).run prog w = .ok (.int .i64 n7) w2 /\
 Br (n7 == 0) (
 ptrE p0 fun a3 =>
 ∃ l13 : SV, w2.cell? (a3.add 3) = some (.slice l13.a l13.len l13.cap) /\
 runD prog ds w2 fun w4 =>
 R (.returned (.bool ((l13.len : Int) == 0))) w4) (
 runD prog ds w2 fun w5 =>
 R (.returned (.bool false)) w5)
theorem F48_p : Pl prog f48 [pS 0] F48_1 := fun R =>
  lf
theorem F48_calls (p0 : Option Addr) (w : World) (R : Rt) (h : F48_1 R p0 [] w) : Calls prog 48 #[.pointer p0] w R :=
  plC F48_p func48 h
def F103_1 (R : Rt) (p0 : Option Addr) (ds : Ds) (w : World) : Prop :=
 ptrE p0 fun a1 =>
 ∃ n6, w.cell? a1 = some (.int .i64 n6) /\
 Br (n6 == 1) (
 runD prog ds w fun w2 =>
 R (.returned (.bool true)) w2) (
 ptrE p0 fun a3 =>
 ∃ n12, w.cell? a3 = some (.int .i64 n12) /\
 runD prog ds w fun w4 =>
 R (.returned (.bool (n12 == 2))) w4)
theorem F103_p : Pl prog f103 [pS 0] F103_1 := fun R =>
  lf
theorem F103_calls (p0 : Option Addr) (w : World) (R : Rt) (h : F103_1 R p0 [] w) : Calls prog 103 #[.pointer p0] w R :=
  plC F103_p func103 h
def F49_1 (R : Rt) (p0 : Option Addr) (n2 : Int) (p6 p8 : Option Addr) (b9 : Bool) (ds : Ds) (w : World) : Prop :=
 Br b9 (
 ptrE p8 fun a1 =>
 ∃ b55_0, w.cell? ((a1.add 2).add 0) = some (.bool b55_0) /\
 ∃ l55_1 : SV, w.cell? ((a1.add 2).add 1) = some (.slice l55_1.a l55_1.len l55_1.cap) /\
 ptrE p6 fun a2 =>
 stA prog 77 a2 #[.bool b55_0, .slice l55_1.a l55_1.len l55_1.cap] w fun w3 =>
 runD prog ds w3 fun w4 =>
 ptrE p6 fun a5 =>
 ∃ bR0_0, w4.cell? (a5.add 0) = some (.bool bR0_0) /\
 ∃ lR0_1 : SV, w4.cell? (a5.add 1) = some (.slice lR0_1.a lR0_1.len lR0_1.cap) /\
 R (.returned (.tuple #[.agg #[.bool bR0_0, .slice lR0_1.a lR0_1.len lR0_1.cap], .bool true])) w4) (
 ptrE p0 fun a6 =>
 ∃ l60 : SV, w.cell? ((a6.add 2).add 2) = some (.slice l60.a l60.len l60.cap) /\
 ∃ a7, l60.a = some a7 /\ 0 <= (IntKind.i64.wrap (n2 - 1)) /\ (IntKind.i64.wrap (n2 - 1)) < (l60.len : Int) /\
 ∃ b64_0, w.cell? ((a7.add ((IntKind.i64.wrap (n2 - 1)).toNat * 2)).add 0) = some (.bool b64_0) /\
 ∃ l64_1 : SV, w.cell? ((a7.add ((IntKind.i64.wrap (n2 - 1)).toNat * 2)).add 1) = some (.slice l64_1.a l64_1.len l64_1.cap) /\
 ptrE p6 fun a8 =>
 stA prog 77 a8 #[.bool b64_0, .slice l64_1.a l64_1.len l64_1.cap] w fun w9 =>
 runD prog ds w9 fun w10 =>
 ptrE p6 fun a11 =>
 ∃ bR0_0, w10.cell? (a11.add 0) = some (.bool bR0_0) /\
 ∃ lR0_1 : SV, w10.cell? (a11.add 1) = some (.slice lR0_1.a lR0_1.len lR0_1.cap) /\
 R (.returned (.tuple #[.agg #[.bool bR0_0, .slice lR0_1.a lR0_1.len lR0_1.cap], .bool true])) w10)
def F49_2 (R : Rt) (p0 p1 : Option Addr) (n2 : Int) (ds : Ds) (w : World) : Prop :=
 alE (.cells #[.bool false, .slice none 0 0] 77) w fun r6 w12 =>
 Br (decide (n2 < 0)) (
 ptrE p1 fun a13 =>
 ∃ l17 : SV, w12.cell? (a13.add 3) = some (.slice l17.a l17.len l17.cap) /\
 Br (decide (n2 ≥ (IntKind.i64.wrap (0 - (l17.len : Int))))) (
 ptrE p1 fun a14 =>
 ∃ l25 : SV, w12.cell? (a14.add 3) = some (.slice l25.a l25.len l25.cap) /\
 ∃ a15, l25.a = some a15 /\ 0 <= (IntKind.i64.wrap ((IntKind.i64.wrap (0 - n2)) - 1)) /\ (IntKind.i64.wrap ((IntKind.i64.wrap (0 - n2)) - 1)) < (l25.len : Int) /\
 ∃ b30_0, w12.cell? ((a15.add ((IntKind.i64.wrap ((IntKind.i64.wrap (0 - n2)) - 1)).toNat * 2)).add 0) = some (.bool b30_0) /\
 ∃ l30_1 : SV, w12.cell? ((a15.add ((IntKind.i64.wrap ((IntKind.i64.wrap (0 - n2)) - 1)).toNat * 2)).add 1) = some (.slice l30_1.a l30_1.len l30_1.cap) /\
 stA prog 77 (⟨r6, 0, none⟩ : Addr) #[.bool b30_0, .slice l30_1.a l30_1.len l30_1.cap] w12 fun w16 =>
 runD prog ds w16 fun w17 =>
 ∃ bR0_0, w17.cell? ((⟨r6, 0, none⟩ : Addr).add 0) = some (.bool bR0_0) /\
 ∃ lR0_1 : SV, w17.cell? ((⟨r6, 0, none⟩ : Addr).add 1) = some (.slice lR0_1.a lR0_1.len lR0_1.cap) /\
 R (.returned (.tuple #[.agg #[.bool bR0_0, .slice lR0_1.a lR0_1.len lR0_1.cap], .bool true])) w17) (
 Br (decide (n2 < 1)) (
 stA prog 77 (⟨r6, 0, none⟩ : Addr) #[.bool false, .slice none 0 0] w12 fun w18 =>
 runD prog ds w18 fun w19 =>
 ∃ bR0_0, w19.cell? ((⟨r6, 0, none⟩ : Addr).add 0) = some (.bool bR0_0) /\
 ∃ lR0_1 : SV, w19.cell? ((⟨r6, 0, none⟩ : Addr).add 1) = some (.slice lR0_1.a lR0_1.len lR0_1.cap) /\
 R (.returned (.tuple #[.agg #[.bool bR0_0, .slice lR0_1.a lR0_1.len lR0_1.cap], .bool false])) w19) (
 ptrE p0 fun a20 =>
 ∃ l39 : SV, w12.cell? ((a20.add 2).add 2) = some (.slice l39.a l39.len l39.cap) /\
 Br (decide (n2 > (l39.len : Int))) (
 stA prog 77 (⟨r6, 0, none⟩ : Addr) #[.bool false, .slice none 0 0] w12 fun w21 =>
 runD prog ds w21 fun w22 =>
 ∃ bR0_0, w22.cell? ((⟨r6, 0, none⟩ : Addr).add 0) = some (.bool bR0_0) /\
 ∃ lR0_1 : SV, w22.cell? ((⟨r6, 0, none⟩ : Addr).add 1) = some (.slice lR0_1.a lR0_1.len lR0_1.cap) /\
 R (.returned (.tuple #[.agg #[.bool bR0_0, .slice lR0_1.a lR0_1.len lR0_1.cap], .bool false])) w22) (
 ptrE p1 fun a23 =>
 ∃ m48, w12.cell? (a23.add 2) = some (.map m48) /\
 ∃ b50_0_0 : Bool, ∃ l50_0_1 : SV, ∃ b50_0_2 : Bool, ∃ l50_0_3 : SV, ∃ b50_1 : Bool, ∃ w24, (Instr.lookup 88 (.map m48) (.int .i64 n2) true).run prog w12 = .ok (.tuple #[.agg #[.bool b50_0_0, .slice l50_0_1.a l50_0_1.len l50_0_1.cap, .bool b50_0_2, .slice l50_0_3.a l50_0_3.len l50_0_3.cap], .bool b50_1]) w24 /\
 alE (.cells #[.bool false, .slice none 0 0, .bool false, .slice none 0 0] 133) w24 fun r8 w25 =>
 stA prog 133 (⟨r8, 0, none⟩ : Addr) #[.bool b50_0_0, .slice l50_0_1.a l50_0_1.len l50_0_1.cap, .bool b50_0_2, .slice l50_0_3.a l50_0_3.len l50_0_3.cap] w25 fun w26 =>
 F49_1 R p0 n2 (some (⟨r6, 0, none⟩ : Addr)) (some (⟨r8, 0, none⟩ : Addr)) b50_1 ds w26)))) (
 Br (decide (n2 < 1)) (
 stA prog 77 (⟨r6, 0, none⟩ : Addr) #[.bool false, .slice none 0 0] w12 fun w27 =>
 runD prog ds w27 fun w28 =>
 ∃ bR0_0, w28.cell? ((⟨r6, 0, none⟩ : Addr).add 0) = some (.bool bR0_0) /\
 ∃ lR0_1 : SV, w28.cell? ((⟨r6, 0, none⟩ : Addr).add 1) = some (.slice lR0_1.a lR0_1.len lR0_1.cap) /\
 R (.returned (.tuple #[.agg #[.bool bR0_0, .slice lR0_1.a lR0_1.len lR0_1.cap], .bool false])) w28) (
 ptrE p0 fun a29 =>
 ∃ l39 : SV, w12.cell? ((a29.add 2).add 2) = some (.slice l39.a l39.len l39.cap) /\
 Br (decide (n2 > (l39.len : Int))) (
 stA prog 77 (⟨r6, 0, none⟩ : Addr) #[.bool false, .slice none 0 0] w12 fun w30 =>
 runD prog ds w30 fun w31 =>
 ∃ bR0_0, w31.cell? ((⟨r6, 0, none⟩ : Addr).add 0) = some (.bool bR0_0) /\
 ∃ lR0_1 : SV, w31.cell? ((⟨r6, 0, none⟩ : Addr).add 1) = some (.slice lR0_1.a lR0_1.len lR0_1.cap) /\
 R (.returned (.tuple #[.agg #[.bool bR0_0, .slice lR0_1.a lR0_1.len lR0_1.cap], .bool false])) w31) (
 ptrE p1 fun a32 =>
 ∃ m48, w12.cell? (a32.add 2) = some (.map m48) /\
 ∃ b50_0_0 : Bool, ∃ l50_0_1 : SV, ∃ b50_0_2 : Bool, ∃ l50_0_3 : SV, ∃ b50_1 : Bool, ∃ w33, (Instr.lookup 88 (.map m48) (.int .i64 n2) true).run prog w12 = .ok (.tuple #[.agg #[.bool b50_0_0, .slice l50_0_1.a l50_0_1.len l50_0_1.cap, .bool b50_0_2, .slice l50_0_3.a l50_0_3.len l50_0_3.cap], .bool b50_1]) w33 /\
 alE (.cells #[.bool false, .slice none 0 0, .bool false, .slice none 0 0] 133) w33 fun r8 w34 =>
 stA prog 133 (⟨r8, 0, none⟩ : Addr) #[.bool b50_0_0, .slice l50_0_1.a l50_0_1.len l50_0_1.cap, .bool b50_0_2, .slice l50_0_3.a l50_0_3.len l50_0_3.cap] w34 fun w35 =>
 F49_1 R p0 n2 (some (⟨r6, 0, none⟩ : Addr)) (some (⟨r8, 0, none⟩ : Addr)) b50_1 ds w35)))
theorem F49_p : Pl prog f49 [pS 0, pS 1, iS 2] F49_2 := fun R =>
  pc 6 (rest [pS 0, iS 2, pS 6, pS 8, bS 9] (F49_1 R) lf)
theorem F49_calls (p0 p1 : Option Addr) (n2 : Int) (w : World) (R : Rt) (h : F49_2 R p0 p1 n2 [] w) : Calls prog 49 #[.pointer p0, .pointer p1, .int .i64 n2] w R :=
  plC F49_p func49 h
def F15_1 (R : Rt) (p0 : Option Addr) (n1 n2 : Int) (ds : Ds) (w : World) : Prop :=
 Calls prog 47 #[.pointer p0, .int .i64 n1] w fun e w1 =>
 ∃ p16_0 : Option Addr, ∃ v16_1 : Value, ∃ n16_2 : Int, e = .returned (.tuple #[.pointer p16_0, v16_1, .int .i64 n16_2]) /\
 fnE v16_1 fun fx firstx capx =>
 Br (n16_2 != 0) (
 runD prog ({ target := .fn (.func fx) capx, args := (firstx.toList ++ ([] : List Value)).toArray } :: ds) w1 fun w2 =>
 R (.returned (.int .i64 n16_2)) w2) (
 Calls prog 49 #[.pointer p0, .pointer p16_0, .int .i64 n2] w1 fun e w3 =>
 ∃ b28_0_0 : Bool, ∃ l28_0_1 : SV, ∃ b28_1 : Bool, e = .returned (.tuple #[.agg #[.bool b28_0_0, .slice l28_0_1.a l28_0_1.len l28_0_1.cap], .bool b28_1]) /\
 alE (.cells #[.bool false, .slice none 0 0] 77) w3 fun r10 w4 =>
 stA prog 77 (⟨r10, 0, none⟩ : Addr) #[.bool b28_0_0, .slice l28_0_1.a l28_0_1.len l28_0_1.cap] w4 fun w5 =>
 Br (!b28_1) (
 runD prog ({ target := .fn (.func fx) capx, args := (firstx.toList ++ ([] : List Value)).toArray } :: ds) w5 fun w6 =>
 R (.returned (.int .i64 4)) w6) (
 ptrE p16_0 fun a7 =>
 ∃ n37, w5.cell? (a7.add 1) = some (.int .i64 n37) /\
 Br (n2 != n37) (
 Calls prog 50 #[.pointer p0, .int .i64 n1, .pointer p16_0] w5 fun e w8 =>
 ∃ n42 : Int, e = .returned (.int .i64 n42) /\
 Br (n42 != 0) (
 runD prog ({ target := .fn (.func fx) capx, args := (firstx.toList ++ ([] : List Value)).toArray } :: ds) w8 fun w9 =>
 R (.returned (.int .i64 n42)) w9) (
 ptrE p16_0 fun a10 =>
 st1 (a10.add 1) (.int .i64 n2) w8 fun w11 =>
 runD prog ({ target := .fn (.func fx) capx, args := (firstx.toList ++ ([] : List Value)).toArray } :: ds) w11 fun w12 =>
 R (.returned (.int .i64 0)) w12)) (
 ptrE p16_0 fun a13 =>
 st1 (a13.add 1) (.int .i64 n2) w5 fun w14 =>
 runD prog ({ target := .fn (.func fx) capx, args := (firstx.toList ++ ([] : List Value)).toArray } :: ds) w14 fun w15 =>
 R (.returned (.int .i64 0)) w15)))
theorem F15_p : Pl prog f15 [pS 0, iS 1, iS 2] F15_1 := fun R =>
  lf
theorem F15_calls (p0 : Option Addr) (n1 n2 : Int) (w : World) (R : Rt) (h : F15_1 R p0 n1 n2 [] w) : Calls prog 15 #[.pointer p0, .int .i64 n1, .int .i64 n2] w R :=
  plC F15_p func15 h
def F50_1 (R : Rt) (p0 : Option Addr) (n1 : Int) (p2 : Option Addr) (ds : Ds) (w : World) : Prop :=
 Calls prog 103 #[.pointer p2] w fun e w1 =>
 ∃ b10 : Bool, e = .returned (.bool b10) /\
 Br (!b10) (
 runD prog ds w1 fun w2 =>
 R (.returned (.int .i64 0)) w2) (
 Calls prog 48 #[.pointer p2] w1 fun e w3 =>
 ∃ b14 : Bool, e = .returned (.bool b14) /\
 Br b14 (
 runD prog ds w3 fun w4 =>
 R (.returned (.int .i64 0)) w4) (
 Calls prog 55 #[.pointer p0, .int .i64 n1, .pointer p2, .bool false] w3 fun e w5 =>
 ∃ l20_0 : SV, ∃ n20_1 : Int, e = .returned (.tuple #[.slice l20_0.a l20_0.len l20_0.cap, .int .i64 n20_1]) /\
 runD prog ds w5 fun w6 =>
 R (.returned (.int .i64 n20_1)) w6))
theorem F50_p : Pl prog f50 [pS 0, iS 1, pS 2] F50_1 := fun R =>
  lf
theorem F50_calls (p0 : Option Addr) (n1 : Int) (p2 : Option Addr) (w : World) (R : Rt) (h : F50_1 R p0 n1 p2 [] w) : Calls prog 50 #[.pointer p0, .int .i64 n1, .pointer p2] w R :=
  plC F50_p func50 h
end Go.Proofs.YtcihcbfcgjepfaaGreatDoor

/- Shallow texts of functions, printed by program, each checked by the kernel against the loaded code. No condition. -/
set_option maxRecDepth 100000
set_option linter.unusedVariables false
namespace Go.Proofs.YtcihcbfcgjepfaaGreatDoor
open Go.Sh Tryz
def F113_1 (R : Rt) (p0 : Option Addr) (n1 : Int) (p2 : Option Addr) (n3 n9 : Int) (b10 : Bool) (ds : Ds) (w : World) : Prop :=
 Br b10 (
 Br (n9 != n1) (
 runD prog ds w fun w1 =>
 R (.returned (.int .i64 12)) w1) (
 ptrE p2 fun a2 =>
 ∃ n45, w.cell? a2 = some (.int .i64 n45) /\
 Br (n45 != 0) (
 ptrE p0 fun a3 =>
 ∃ m50, w.cell? (a3.add 21) = some (.map m50) /\
 doE prog (Instr.mapUpdate 80 (.map m50) (.int .i64 n3) (.int .i64 n1)) w fun w4 =>
 runD prog ds w4 fun w5 =>
 R (.returned (.int .i64 0)) w5) (
 runD prog ds w fun w6 =>
 R (.returned (.int .i64 0)) w6))) (
 ptrE p2 fun a7 =>
 ∃ n45, w.cell? a7 = some (.int .i64 n45) /\
 Br (n45 != 0) (
 ptrE p0 fun a8 =>
 ∃ m50, w.cell? (a8.add 21) = some (.map m50) /\
 doE prog (Instr.mapUpdate 80 (.map m50) (.int .i64 n3) (.int .i64 n1)) w fun w9 =>
 runD prog ds w9 fun w10 =>
 R (.returned (.int .i64 0)) w10) (
 runD prog ds w fun w11 =>
 R (.returned (.int .i64 0)) w11))
def F113_2 (R : Rt) (p0 : Option Addr) (n1 : Int) (p2 : Option Addr) (n3 : Int) (ds : Ds) (w : World) : Prop :=
 ptrE p2 fun a12 =>
 ∃ n14, w.cell? a12 = some (.int .i64 n14) /\
 Br (n14 == 2) (
 runD prog ds w fun w13 =>
 R (.returned (.int .i64 0)) w13) (
 ptrE p2 fun a14 =>
 ∃ n20, w.cell? a14 = some (.int .i64 n20) /\
 Br (n20 == 4) (
 runD prog ds w fun w15 =>
 R (.returned (.int .i64 0)) w15) (
 Br (decide (n3 < 0)) (
 runD prog ds w fun w16 =>
 R (.returned (.int .i64 0)) w16) (
 ptrE p0 fun a17 =>
 ∃ m31, w.cell? (a17.add 21) = some (.map m31) /\
 ∃ n33_0 : Int, ∃ b33_1 : Bool, ∃ w18, (Instr.lookup 80 (.map m31) (.int .i64 n3) true).run prog w = .ok (.tuple #[.int .i64 n33_0, .bool b33_1]) w18 /\
 F113_1 R p0 n1 p2 n3 n33_0 b33_1 ds w18)))
theorem F113_p : Pl prog f113 [pS 0, iS 1, pS 2, iS 3] F113_2 := fun R =>
  pc 4 (rest [pS 0, iS 1, pS 2, iS 3, iS 9, bS 10] (F113_1 R) lf)
theorem F113_calls (p0 : Option Addr) (n1 : Int) (p2 : Option Addr) (n3 : Int) (w : World) (R : Rt) (h : F113_2 R p0 n1 p2 n3 [] w) : Calls prog 113 #[.pointer p0, .int .i64 n1, .pointer p2, .int .i64 n3] w R :=
  plC F113_p func113 h
def F53_1 (R : Rt) (p0 : Option Addr) (n1 : Int) (p2 : Option Addr) (v3 : Value) (ds : Ds) (w : World) : Prop :=
 ptrE p2 fun a1 =>
 ∃ n18, w.cell? (a1.add 1) = some (.int .i64 n18) /\
 Calls prog 113 #[.pointer p0, .int .i64 n1, .pointer p2, .int .i64 n18] w fun e w2 =>
 ∃ n19 : Int, e = .returned (.int .i64 n19) /\
 Br (n19 != 0) (
 runD prog ds w2 fun w3 =>
 R (.returned (.int .i64 n19)) w3) (
 ptrE p2 fun a4 =>
 ∃ n80, w2.cell? (a4.add 1) = some (.int .i64 n80) /\
 Br (decide (n80 < 0)) (
 dwE w2 fun w5 =>
 ptrE p2 fun a6 =>
 ∃ l86 : SV, w5.cell? (a6.add 3) = some (.slice l86.a l86.len l86.cap) /\
 ptrE p2 fun a7 =>
 ∃ n90, w5.cell? (a7.add 1) = some (.int .i64 n90) /\
 ∃ a8, l86.a = some a8 /\ 0 <= (IntKind.i64.wrap ((IntKind.i64.wrap (0 - n90)) - 1)) /\ (IntKind.i64.wrap ((IntKind.i64.wrap (0 - n90)) - 1)) < (l86.len : Int) /\
 fnE v3 fun f94 first94 cap94 =>
 hasBody prog f94 = true /\ Calls prog f94 (first94.toList ++ (([.pointer (some (a8.add ((IntKind.i64.wrap ((IntKind.i64.wrap (0 - n90)) - 1)).toNat * 2)))] : List Value) ++ cap94.toList)).toArray w5 fun e w9 =>
 e = .returned (.tuple #[]) /\
 runD prog ds w9 fun w10 =>
 R (.returned (.int .i64 0)) w10) (
 ptrE p2 fun a11 =>
 ∃ n99, w2.cell? a11 = some (.int .i64 n99) /\
 Br (n99 == 0) (
 dwE w2 fun w12 =>
 ptrE p0 fun a13 =>
 ∃ l106 : SV, w12.cell? ((a13.add 2).add 2) = some (.slice l106.a l106.len l106.cap) /\
 ptrE p2 fun a14 =>
 ∃ n110, w12.cell? (a14.add 1) = some (.int .i64 n110) /\
 ∃ a15, l106.a = some a15 /\ 0 <= (IntKind.i64.wrap (n110 - 1)) /\ (IntKind.i64.wrap (n110 - 1)) < (l106.len : Int) /\
 fnE v3 fun f113 first113 cap113 =>
 hasBody prog f113 = true /\ Calls prog f113 (first113.toList ++ (([.pointer (some (a15.add ((IntKind.i64.wrap (n110 - 1)).toNat * 2)))] : List Value) ++ cap113.toList)).toArray w12 fun e w16 =>
 e = .returned (.tuple #[]) /\
 runD prog ds w16 fun w17 =>
 R (.returned (.int .i64 0)) w17) (
 dwE w2 fun w18 =>
 ∃ S3 : World -> Prop, S3 w18 /\
 ptrE p2 fun a19 =>
 ∃ m27, (∀ w', S3 w' -> w'.cell? (a19.add 2) = some (.map m27)) /\
 ptrE p2 fun a20 =>
 ∃ n31, (∀ w', S3 w' -> w'.cell? (a20.add 1) = some (.int .i64 n31)) /\
 ∃ b32_0_0 : Bool, ∃ l32_0_1 : SV, ∃ b32_0_2 : Bool, ∃ l32_0_3 : SV, ∃ b32_1 : Bool, (∀ w', S3 w' -> (Instr.lookup 88 (.map m27) (.int .i64 n31) true).run prog w' = .ok (.tuple #[.agg #[.bool b32_0_0, .slice l32_0_1.a l32_0_1.len l32_0_1.cap, .bool b32_0_2, .slice l32_0_3.a l32_0_3.len l32_0_3.cap], .bool b32_1]) w') /\
 alE (.cells #[.bool false, .slice none 0 0, .bool false, .slice none 0 0] 133) w18 fun r10 w21 =>
 S3 w21 /\
 stA prog 133 (⟨r10, 0, none⟩ : Addr) #[.bool b32_0_0, .slice l32_0_1.a l32_0_1.len l32_0_1.cap, .bool b32_0_2, .slice l32_0_3.a l32_0_3.len l32_0_3.cap] w21 fun w22 =>
 Br (!b32_1) (
 dwE w22 fun w23 =>
 ∃ S4 : World -> Prop, S4 w23 /\
 ptrE p0 fun a24 =>
 ∃ l41 : SV, (∀ w', S4 w' -> w'.cell? ((a24.add 2).add 2) = some (.slice l41.a l41.len l41.cap)) /\
 ptrE p2 fun a25 =>
 ∃ n45, (∀ w', S4 w' -> w'.cell? (a25.add 1) = some (.int .i64 n45)) /\
 ∃ a26, l41.a = some a26 /\ 0 <= (IntKind.i64.wrap (n45 - 1)) /\ (IntKind.i64.wrap (n45 - 1)) < (l41.len : Int) /\
 ∃ b48_0, (∀ w', S4 w' -> w'.cell? ((a26.add ((IntKind.i64.wrap (n45 - 1)).toNat * 2)).add 0) = some (.bool b48_0)) /\
 ∃ l48_1 : SV, (∀ w', S4 w' -> w'.cell? ((a26.add ((IntKind.i64.wrap (n45 - 1)).toNat * 2)).add 1) = some (.slice l48_1.a l48_1.len l48_1.cap)) /\
 ptrE p0 fun a27 =>
 ∃ l54 : SV, (∀ w', S4 w' -> w'.cell? ((a27.add 2).add 2) = some (.slice l54.a l54.len l54.cap)) /\
 ptrE p2 fun a28 =>
 ∃ n58, (∀ w', S4 w' -> w'.cell? (a28.add 1) = some (.int .i64 n58)) /\
 ∃ a29, l54.a = some a29 /\ 0 <= (IntKind.i64.wrap (n58 - 1)) /\ (IntKind.i64.wrap (n58 - 1)) < (l54.len : Int) /\
 ∃ b61_0, (∀ w', S4 w' -> w'.cell? ((a29.add ((IntKind.i64.wrap (n58 - 1)).toNat * 2)).add 0) = some (.bool b61_0)) /\
 ∃ l61_1 : SV, (∀ w', S4 w' -> w'.cell? ((a29.add ((IntKind.i64.wrap (n58 - 1)).toNat * 2)).add 1) = some (.slice l61_1.a l61_1.len l61_1.cap)) /\
 Calls prog 88 #[.agg #[.bool b48_0, .slice l48_1.a l48_1.len l48_1.cap]] w23 fun e w30 =>
 ∃ b49_0 : Bool, ∃ l49_1 : SV, e = .returned (.agg #[.bool b49_0, .slice l49_1.a l49_1.len l49_1.cap]) /\
 S4 w30 /\
 Calls prog 88 #[.agg #[.bool b61_0, .slice l61_1.a l61_1.len l61_1.cap]] w30 fun e w31 =>
 ∃ b62_0 : Bool, ∃ l62_1 : SV, e = .returned (.agg #[.bool b62_0, .slice l62_1.a l62_1.len l62_1.cap]) /\
 stA prog 133 (⟨r10, 0, none⟩ : Addr) #[.bool b49_0, .slice l49_1.a l49_1.len l49_1.cap, .bool b62_0, .slice l62_1.a l62_1.len l62_1.cap] w31 fun w32 =>
 fnE v3 fun f66 first66 cap66 =>
 hasBody prog f66 = true /\ Calls prog f66 (first66.toList ++ (([.pointer (some ((⟨r10, 0, none⟩ : Addr).add 2))] : List Value) ++ cap66.toList)).toArray w32 fun e w33 =>
 e = .returned (.tuple #[]) /\
 dwE w33 fun w34 =>
 ptrE p2 fun a35 =>
 ∃ m70, w34.cell? (a35.add 2) = some (.map m70) /\
 ptrE p2 fun a36 =>
 ∃ n74, w34.cell? (a36.add 1) = some (.int .i64 n74) /\
 ∃ b75_0, w34.cell? ((⟨r10, 0, none⟩ : Addr).add 0) = some (.bool b75_0) /\
 ∃ l75_1 : SV, w34.cell? ((⟨r10, 0, none⟩ : Addr).add 1) = some (.slice l75_1.a l75_1.len l75_1.cap) /\
 ∃ b75_2, w34.cell? ((⟨r10, 0, none⟩ : Addr).add 2) = some (.bool b75_2) /\
 ∃ l75_3 : SV, w34.cell? ((⟨r10, 0, none⟩ : Addr).add 3) = some (.slice l75_3.a l75_3.len l75_3.cap) /\
 doE prog (Instr.mapUpdate 88 (.map m70) (.int .i64 n74) (.agg #[.bool b75_0, .slice l75_1.a l75_1.len l75_1.cap, .bool b75_2, .slice l75_3.a l75_3.len l75_3.cap])) w34 fun w37 =>
 runD prog ds w37 fun w38 =>
 R (.returned (.int .i64 0)) w38) (
 fnE v3 fun f66 first66 cap66 =>
 hasBody prog f66 = true /\ Calls prog f66 (first66.toList ++ (([.pointer (some ((⟨r10, 0, none⟩ : Addr).add 2))] : List Value) ++ cap66.toList)).toArray w22 fun e w39 =>
 e = .returned (.tuple #[]) /\
 dwE w39 fun w40 =>
 ptrE p2 fun a41 =>
 ∃ m70, w40.cell? (a41.add 2) = some (.map m70) /\
 ptrE p2 fun a42 =>
 ∃ n74, w40.cell? (a42.add 1) = some (.int .i64 n74) /\
 ∃ b75_0, w40.cell? ((⟨r10, 0, none⟩ : Addr).add 0) = some (.bool b75_0) /\
 ∃ l75_1 : SV, w40.cell? ((⟨r10, 0, none⟩ : Addr).add 1) = some (.slice l75_1.a l75_1.len l75_1.cap) /\
 ∃ b75_2, w40.cell? ((⟨r10, 0, none⟩ : Addr).add 2) = some (.bool b75_2) /\
 ∃ l75_3 : SV, w40.cell? ((⟨r10, 0, none⟩ : Addr).add 3) = some (.slice l75_3.a l75_3.len l75_3.cap) /\
 doE prog (Instr.mapUpdate 88 (.map m70) (.int .i64 n74) (.agg #[.bool b75_0, .slice l75_1.a l75_1.len l75_1.cap, .bool b75_2, .slice l75_3.a l75_3.len l75_3.cap])) w40 fun w43 =>
 runD prog ds w43 fun w44 =>
 R (.returned (.int .i64 0)) w44))))
theorem F53_p : Pl prog f53 [pS 0, iS 1, pS 2, vS 3] F53_1 := fun R =>
  lf
theorem F53_calls (p0 : Option Addr) (n1 : Int) (p2 : Option Addr) (v3 : Value) (w : World) (R : Rt) (h : F53_1 R p0 n1 p2 v3 [] w) : Calls prog 53 #[.pointer p0, .int .i64 n1, .pointer p2, v3] w R :=
  plC F53_p func53 h
def F16_1 (R : Rt) (p0 : Option Addr) (n1 : Int) (s2 : ByteArray) (n3_0 n3_1 : Int) (s3_2 : ByteArray) (ds : Ds) (w : World) : Prop :=
 alE (.cells #[.int .i64 n3_0, .int .i64 n3_1, .string s3_2] 28) w fun r7 w1 =>
 Calls prog 47 #[.pointer p0, .int .i64 n1] w1 fun e w2 =>
 ∃ p17_0 : Option Addr, ∃ v17_1 : Value, ∃ n17_2 : Int, e = .returned (.tuple #[.pointer p17_0, v17_1, .int .i64 n17_2]) /\
 fnE v17_1 fun fx firstx capx =>
 Br (n17_2 != 0) (
 runD prog ({ target := .fn (.func fx) capx, args := (firstx.toList ++ ([] : List Value)).toArray } :: ds) w2 fun w3 =>
 R (.returned (.int .i64 n17_2)) w3) (
 ptrE p17_0 fun a4 =>
 ∃ n28, w2.cell? (a4.add 1) = some (.int .i64 n28) /\
 Br (n28 == 0) (
 runD prog ({ target := .fn (.func fx) capx, args := (firstx.toList ++ ([] : List Value)).toArray } :: ds) w2 fun w5 =>
 R (.returned (.int .i64 9)) w5) (
 ptrE p0 fun a6 =>
 ∃ l35 : SV, w2.cell? ((a6.add 2).add 1) = some (.slice l35.a l35.len l35.cap) /\
 Calls prog 51 #[.slice l35.a l35.len l35.cap, .string s2] w2 fun e w7 =>
 ∃ n37_0 : Int, ∃ b37_1 : Bool, e = .returned (.tuple #[.int .i64 n37_0, .bool b37_1]) /\
 alE (.cells #[.int .i64 0] 3) w7 fun r12 w8 =>
 st1 (⟨r12, 0, none⟩ : Addr) (.int .i64 n37_0) w8 fun w9 =>
 Br (!b37_1) (
 runD prog ({ target := .fn (.func fx) capx, args := (firstx.toList ++ ([] : List Value)).toArray } :: ds) w9 fun w10 =>
 R (.returned (.int .i64 4)) w10) (
 dwE w9 fun w11 =>
 ptrE p0 fun a12 =>
 ∃ l47 : SV, w11.cell? ((a12.add 2).add 1) = some (.slice l47.a l47.len l47.cap) /\
 ∃ n48, w11.cell? (⟨r12, 0, none⟩ : Addr) = some (.int .i64 n48) /\
 ∃ a13, l47.a = some a13 /\ 0 <= n48 /\ n48 < (l47.len : Int) /\
 ∃ s50_0, w11.cell? ((a13.add (n48.toNat * 4)).add 0) = some (.string s50_0) /\
 ∃ n50_1, w11.cell? ((a13.add (n48.toNat * 4)).add 1) = some (.int .i64 n50_1) /\
 ∃ n50_2, w11.cell? ((a13.add (n48.toNat * 4)).add 2) = some (.int .i64 n50_2) /\
 ∃ b50_3, w11.cell? ((a13.add (n48.toNat * 4)).add 3) = some (.bool b50_3) /\
 ptrE p0 fun a14 =>
 ∃ n55, w11.cell? (a14.add 2) = some (.int .i64 n55) /\
 ∃ n56_0, w11.cell? ((⟨r7, 0, none⟩ : Addr).add 0) = some (.int .i64 n56_0) /\
 ∃ n56_1, w11.cell? ((⟨r7, 0, none⟩ : Addr).add 1) = some (.int .i64 n56_1) /\
 ∃ s56_2, w11.cell? ((⟨r7, 0, none⟩ : Addr).add 2) = some (.string s56_2) /\
 Calls prog 52 #[.agg #[.string s50_0, .int .i64 n50_1, .int .i64 n50_2, .bool b50_3], .int .i64 n55, .agg #[.int .i64 n56_0, .int .i64 n56_1, .string s56_2]] w11 fun e w15 =>
 ∃ n57_0_0 : Int, ∃ n57_0_1 : Int, ∃ s57_0_2 : ByteArray, ∃ n57_1 : Int, e = .returned (.tuple #[.agg #[.int .i64 n57_0_0, .int .i64 n57_0_1, .string s57_0_2], .int .i64 n57_1]) /\
 stA prog 28 (⟨r7, 0, none⟩ : Addr) #[.int .i64 n57_0_0, .int .i64 n57_0_1, .string s57_0_2] w15 fun w16 =>
 Br (n57_1 != 0) (
 runD prog ({ target := .fn (.func fx) capx, args := (firstx.toList ++ ([] : List Value)).toArray } :: ds) w16 fun w17 =>
 R (.returned (.int .i64 n57_1)) w17) (
 Calls prog 53 #[.pointer p0, .int .i64 n1, .pointer p17_0, .func (.func 54) #[] #[.pointer (some (⟨r7, 0, none⟩ : Addr)), .pointer (some (⟨r12, 0, none⟩ : Addr))]] w16 fun e w18 =>
 ∃ n67 : Int, e = .returned (.int .i64 n67) /\
 runD prog ({ target := .fn (.func fx) capx, args := (firstx.toList ++ ([] : List Value)).toArray } :: ds) w18 fun w19 =>
 R (.returned (.int .i64 n67)) w19))))
theorem F16_p : Pl prog f16 [pS 0, iS 1, sS 2, aS 3 [.int .i64, .int .i64, .str]] F16_1 := fun R =>
  lf
theorem F16_calls (p0 : Option Addr) (n1 : Int) (s2 : ByteArray) (n3_0 n3_1 : Int) (s3_2 : ByteArray) (w : World) (R : Rt) (h : F16_1 R p0 n1 s2 n3_0 n3_1 s3_2 [] w) : Calls prog 16 #[.pointer p0, .int .i64 n1, .string s2, .agg #[.int .i64 n3_0, .int .i64 n3_1, .string s3_2]] w R :=
  plC F16_p func16 h
def F54_1 (R : Rt) (p0 : Option Addr) (v1 v2 : Value) (ds : Ds) (w : World) : Prop :=
 dwE w fun w1 =>
 ptrE p0 fun a2 =>
 ∃ l7 : SV, w1.cell? (a2.add 1) = some (.slice l7.a l7.len l7.cap) /\
 addrE v2 fun a3 =>
 ∃ n8, w1.cell? a3 = some (.int .i64 n8) /\
 addrE v1 fun a4 =>
 ∃ n9_0, w1.cell? (a4.add 0) = some (.int .i64 n9_0) /\
 ∃ n9_1, w1.cell? (a4.add 1) = some (.int .i64 n9_1) /\
 ∃ s9_2, w1.cell? (a4.add 2) = some (.string s9_2) /\
 ∃ a5, l7.a = some a5 /\ 0 <= n8 /\ n8 < (l7.len : Int) /\
 stA prog 28 (a5.add (n8.toNat * 3)) #[.int .i64 n9_0, .int .i64 n9_1, .string s9_2] w1 fun w6 =>
 runD prog ds w6 fun w7 =>
 R (.returned (.tuple #[])) w7
theorem F54_p : Pl prog f54 [pS 0, vS 1, vS 2] F54_1 := fun R =>
  lf
theorem F54_calls (p0 : Option Addr) (v1 v2 : Value) (w : World) (R : Rt) (h : F54_1 R p0 v1 v2 [] w) : Calls prog 54 #[.pointer p0, v1, v2] w R :=
  plC F54_p func54 h
def F57_1 (R : Rt) (p0 : Option Addr) (v1 : Value) (ds : Ds) (w : World) : Prop :=
 addrE v1 fun a1 =>
 ∃ b4, w.cell? a1 = some (.bool b4) /\
 ptrE p0 fun a2 =>
 st1 a2 (.bool b4) w fun w3 =>
 runD prog ds w3 fun w4 =>
 R (.returned (.tuple #[])) w4
theorem F57_p : Pl prog f57 [pS 0, vS 1] F57_1 := fun R =>
  lf
theorem F57_calls (p0 : Option Addr) (v1 : Value) (w : World) (R : Rt) (h : F57_1 R p0 v1 [] w) : Calls prog 57 #[.pointer p0, v1] w R :=
  plC F57_p func57 h
def F56_1 (R : Rt) (p0 : Option Addr) (b1_0 : Bool) (l1_1 : SV) (b2 : Bool) (s3 : ByteArray) (ds : Ds) (w : World) : Prop :=
 alE (.cells #[.bool b1_0, .slice l1_1.a l1_1.len l1_1.cap] 77) w fun r5 w1 =>
 alE (.cells #[.int .i64 0, .int .i64 0, .string (⟨#[]⟩ : ByteArray)] 28) w1 fun r8 w2 =>
 ptrE p0 fun a3 =>
 ∃ l17 : SV, w2.cell? ((a3.add 2).add 1) = some (.slice l17.a l17.len l17.cap) /\
 Calls prog 51 #[.slice l17.a l17.len l17.cap, .string s3] w2 fun e w4 =>
 ∃ n19_0 : Int, ∃ b19_1 : Bool, e = .returned (.tuple #[.int .i64 n19_0, .bool b19_1]) /\
 Br (!b2) (
 stA prog 28 (⟨r8, 0, none⟩ : Addr) #[.int .i64 0, .int .i64 0, .string (⟨#[]⟩ : ByteArray)] w4 fun w5 =>
 runD prog ds w5 fun w6 =>
 ∃ nR0_0, w6.cell? ((⟨r8, 0, none⟩ : Addr).add 0) = some (.int .i64 nR0_0) /\
 ∃ nR0_1, w6.cell? ((⟨r8, 0, none⟩ : Addr).add 1) = some (.int .i64 nR0_1) /\
 ∃ sR0_2, w6.cell? ((⟨r8, 0, none⟩ : Addr).add 2) = some (.string sR0_2) /\
 R (.returned (.tuple #[.agg #[.int .i64 nR0_0, .int .i64 nR0_1, .string sR0_2], .int .i64 4])) w6) (
 Br (!b19_1) (
 stA prog 28 (⟨r8, 0, none⟩ : Addr) #[.int .i64 0, .int .i64 0, .string (⟨#[]⟩ : ByteArray)] w4 fun w7 =>
 runD prog ds w7 fun w8 =>
 ∃ nR0_0, w8.cell? ((⟨r8, 0, none⟩ : Addr).add 0) = some (.int .i64 nR0_0) /\
 ∃ nR0_1, w8.cell? ((⟨r8, 0, none⟩ : Addr).add 1) = some (.int .i64 nR0_1) /\
 ∃ sR0_2, w8.cell? ((⟨r8, 0, none⟩ : Addr).add 2) = some (.string sR0_2) /\
 R (.returned (.tuple #[.agg #[.int .i64 nR0_0, .int .i64 nR0_1, .string sR0_2], .int .i64 4])) w8) (
 ∃ l30 : SV, w4.cell? ((⟨r5, 0, none⟩ : Addr).add 1) = some (.slice l30.a l30.len l30.cap) /\
 ∃ a9, l30.a = some a9 /\ 0 <= n19_0 /\ n19_0 < (l30.len : Int) /\
 ∃ n33_0, w4.cell? ((a9.add (n19_0.toNat * 3)).add 0) = some (.int .i64 n33_0) /\
 ∃ n33_1, w4.cell? ((a9.add (n19_0.toNat * 3)).add 1) = some (.int .i64 n33_1) /\
 ∃ s33_2, w4.cell? ((a9.add (n19_0.toNat * 3)).add 2) = some (.string s33_2) /\
 stA prog 28 (⟨r8, 0, none⟩ : Addr) #[.int .i64 n33_0, .int .i64 n33_1, .string s33_2] w4 fun w10 =>
 runD prog ds w10 fun w11 =>
 ∃ nR0_0, w11.cell? ((⟨r8, 0, none⟩ : Addr).add 0) = some (.int .i64 nR0_0) /\
 ∃ nR0_1, w11.cell? ((⟨r8, 0, none⟩ : Addr).add 1) = some (.int .i64 nR0_1) /\
 ∃ sR0_2, w11.cell? ((⟨r8, 0, none⟩ : Addr).add 2) = some (.string sR0_2) /\
 R (.returned (.tuple #[.agg #[.int .i64 nR0_0, .int .i64 nR0_1, .string sR0_2], .int .i64 0])) w11))
theorem F56_p : Pl prog f56 [pS 0, aS 1 [.bool, .slice], bS 2, sS 3] F56_1 := fun R =>
  lf
theorem F56_calls (p0 : Option Addr) (b1_0 : Bool) (l1_1 : SV) (b2 : Bool) (s3 : ByteArray) (w : World) (R : Rt) (h : F56_1 R p0 b1_0 l1_1 b2 s3 [] w) : Calls prog 56 #[.pointer p0, .agg #[.bool b1_0, .slice l1_1.a l1_1.len l1_1.cap], .bool b2, .string s3] w R :=
  plC F56_p func56 h
def F18_1 (R : Rt) (p0 : Option Addr) (n1 : Int) (s2 : ByteArray) (ds : Ds) (w : World) : Prop :=
 alE (.cells #[.int .i64 0, .int .i64 0, .string (⟨#[]⟩ : ByteArray)] 28) w fun r6 w1 =>
 Calls prog 47 #[.pointer p0, .int .i64 0] w1 fun e w2 =>
 ∃ p13_0 : Option Addr, ∃ v13_1 : Value, ∃ n13_2 : Int, e = .returned (.tuple #[.pointer p13_0, v13_1, .int .i64 n13_2]) /\
 fnE v13_1 fun fx firstx capx =>
 Br (n13_2 != 0) (
 stA prog 28 (⟨r6, 0, none⟩ : Addr) #[.int .i64 0, .int .i64 0, .string (⟨#[]⟩ : ByteArray)] w2 fun w3 =>
 runD prog ({ target := .fn (.func fx) capx, args := (firstx.toList ++ ([] : List Value)).toArray } :: ds) w3 fun w4 =>
 ∃ nR0_0, w4.cell? ((⟨r6, 0, none⟩ : Addr).add 0) = some (.int .i64 nR0_0) /\
 ∃ nR0_1, w4.cell? ((⟨r6, 0, none⟩ : Addr).add 1) = some (.int .i64 nR0_1) /\
 ∃ sR0_2, w4.cell? ((⟨r6, 0, none⟩ : Addr).add 2) = some (.string sR0_2) /\
 R (.returned (.tuple #[.agg #[.int .i64 nR0_0, .int .i64 nR0_1, .string sR0_2], .int .i64 n13_2])) w4) (
 Br (decide (n1 < 1)) (
 stA prog 28 (⟨r6, 0, none⟩ : Addr) #[.int .i64 0, .int .i64 0, .string (⟨#[]⟩ : ByteArray)] w2 fun w5 =>
 runD prog ({ target := .fn (.func fx) capx, args := (firstx.toList ++ ([] : List Value)).toArray } :: ds) w5 fun w6 =>
 ∃ nR0_0, w6.cell? ((⟨r6, 0, none⟩ : Addr).add 0) = some (.int .i64 nR0_0) /\
 ∃ nR0_1, w6.cell? ((⟨r6, 0, none⟩ : Addr).add 1) = some (.int .i64 nR0_1) /\
 ∃ sR0_2, w6.cell? ((⟨r6, 0, none⟩ : Addr).add 2) = some (.string sR0_2) /\
 R (.returned (.tuple #[.agg #[.int .i64 nR0_0, .int .i64 nR0_1, .string sR0_2], .int .i64 4])) w6) (
 ptrE p0 fun a7 =>
 ∃ l30 : SV, w2.cell? ((a7.add 2).add 2) = some (.slice l30.a l30.len l30.cap) /\
 Br (decide (n1 > (l30.len : Int))) (
 stA prog 28 (⟨r6, 0, none⟩ : Addr) #[.int .i64 0, .int .i64 0, .string (⟨#[]⟩ : ByteArray)] w2 fun w8 =>
 runD prog ({ target := .fn (.func fx) capx, args := (firstx.toList ++ ([] : List Value)).toArray } :: ds) w8 fun w9 =>
 ∃ nR0_0, w9.cell? ((⟨r6, 0, none⟩ : Addr).add 0) = some (.int .i64 nR0_0) /\
 ∃ nR0_1, w9.cell? ((⟨r6, 0, none⟩ : Addr).add 1) = some (.int .i64 nR0_1) /\
 ∃ sR0_2, w9.cell? ((⟨r6, 0, none⟩ : Addr).add 2) = some (.string sR0_2) /\
 R (.returned (.tuple #[.agg #[.int .i64 nR0_0, .int .i64 nR0_1, .string sR0_2], .int .i64 4])) w9) (
 ptrE p0 fun a10 =>
 ∃ l40 : SV, w2.cell? ((a10.add 2).add 2) = some (.slice l40.a l40.len l40.cap) /\
 ∃ a11, l40.a = some a11 /\ 0 <= (IntKind.i64.wrap (n1 - 1)) /\ (IntKind.i64.wrap (n1 - 1)) < (l40.len : Int) /\
 ∃ b44_0, w2.cell? ((a11.add ((IntKind.i64.wrap (n1 - 1)).toNat * 2)).add 0) = some (.bool b44_0) /\
 ∃ l44_1 : SV, w2.cell? ((a11.add ((IntKind.i64.wrap (n1 - 1)).toNat * 2)).add 1) = some (.slice l44_1.a l44_1.len l44_1.cap) /\
 Calls prog 56 #[.pointer p0, .agg #[.bool b44_0, .slice l44_1.a l44_1.len l44_1.cap], .bool true, .string s2] w2 fun e w12 =>
 ∃ n46_0_0 : Int, ∃ n46_0_1 : Int, ∃ s46_0_2 : ByteArray, ∃ n46_1 : Int, e = .returned (.tuple #[.agg #[.int .i64 n46_0_0, .int .i64 n46_0_1, .string s46_0_2], .int .i64 n46_1]) /\
 stA prog 28 (⟨r6, 0, none⟩ : Addr) #[.int .i64 n46_0_0, .int .i64 n46_0_1, .string s46_0_2] w12 fun w13 =>
 runD prog ({ target := .fn (.func fx) capx, args := (firstx.toList ++ ([] : List Value)).toArray } :: ds) w13 fun w14 =>
 ∃ nR0_0, w14.cell? ((⟨r6, 0, none⟩ : Addr).add 0) = some (.int .i64 nR0_0) /\
 ∃ nR0_1, w14.cell? ((⟨r6, 0, none⟩ : Addr).add 1) = some (.int .i64 nR0_1) /\
 ∃ sR0_2, w14.cell? ((⟨r6, 0, none⟩ : Addr).add 2) = some (.string sR0_2) /\
 R (.returned (.tuple #[.agg #[.int .i64 nR0_0, .int .i64 nR0_1, .string sR0_2], .int .i64 n46_1])) w14)))
theorem F18_p : Pl prog f18 [pS 0, iS 1, sS 2] F18_1 := fun R =>
  lf
theorem F18_calls (p0 : Option Addr) (n1 : Int) (s2 : ByteArray) (w : World) (R : Rt) (h : F18_1 R p0 n1 s2 [] w) : Calls prog 18 #[.pointer p0, .int .i64 n1, .string s2] w R :=
  plC F18_p func18 h
end Go.Proofs.YtcihcbfcgjepfaaGreatDoor

/- Shallow texts of functions, printed by program, each checked by the kernel against the loaded code. No condition. -/
set_option maxRecDepth 100000
set_option linter.unusedVariables false
namespace Go.Proofs.YtcihcbfcgjepfaaGreatDoor
open Go.Sh Tryz
def F55_1 (R : Rt) (p0 : Option Addr) (n1 : Int) (p2 : Option Addr) (l15 : SV) (ds : Ds) (w : World) : Prop :=
 ptrE p2 fun a1 =>
 ∃ n105, w.cell? (a1.add 1) = some (.int .i64 n105) /\
 Br (decide (n105 < 0)) (
 ptrE p2 fun a2 =>
 ∃ n112, w.cell? (a2.add 1) = some (.int .i64 n112) /\
 ∃ a3, l15.a = some a3 /\ 0 <= (IntKind.i64.wrap ((IntKind.i64.wrap (0 - n112)) - 1)) /\ (IntKind.i64.wrap ((IntKind.i64.wrap (0 - n112)) - 1)) < (l15.len : Int) /\
 ∃ n116, w.cell? (a3.add ((IntKind.i64.wrap ((IntKind.i64.wrap (0 - n112)) - 1)).toNat * 1)) = some (.int .i64 n116) /\
 ptrE p2 fun a4 =>
 st1 (a4.add 1) (.int .i64 n116) w fun w5 =>
 Calls prog 116 #[.pointer p0, .int .i64 n1, .pointer p2] w5 fun e w6 =>
 e = .returned (.tuple #[]) /\
 runD prog ds w6 fun w7 =>
 R (.returned (.tuple #[.slice l15.a l15.len l15.cap, .int .i64 0])) w7) (
 Calls prog 116 #[.pointer p0, .int .i64 n1, .pointer p2] w fun e w8 =>
 e = .returned (.tuple #[]) /\
 runD prog ds w8 fun w9 =>
 R (.returned (.tuple #[.slice l15.a l15.len l15.cap, .int .i64 0])) w9)
def F55_2 (R : Rt) (J1 : (SV × Int) -> World -> Prop) (p0 : Option Addr) (n1 : Int) (p2 : Option Addr) (l15 l74 : SV) (n75 n76 : Int) (ds : Ds) (w : World) : Prop :=
 Br (decide (n76 < n75)) (
 ∃ a10, l74.a = some a10 /\ 0 <= n76 /\ n76 < (l74.len : Int) /\
 ∃ b79_0, w.cell? ((a10.add (n76.toNat * 2)).add 0) = some (.bool b79_0) /\
 ∃ l79_1 : SV, w.cell? ((a10.add (n76.toNat * 2)).add 1) = some (.slice l79_1.a l79_1.len l79_1.cap) /\
 alE (.cells #[.bool false, .slice none 0 0] 77) w fun r17 w11 =>
 stA prog 77 (⟨r17, 0, none⟩ : Addr) #[.bool b79_0, .slice l79_1.a l79_1.len l79_1.cap] w11 fun w12 =>
 dwE w12 fun w13 =>
 ∃ S1 : World -> Prop, S1 w13 /\
 ptrE p0 fun a14 =>
 ∃ l85 : SV, (∀ w', S1 w' -> w'.cell? ((a14.add 2).add 2) = some (.slice l85.a l85.len l85.cap)) /\
 ∃ b86_0, (∀ w', S1 w' -> w'.cell? ((⟨r17, 0, none⟩ : Addr).add 0) = some (.bool b86_0)) /\
 ∃ l86_1 : SV, (∀ w', S1 w' -> w'.cell? ((⟨r17, 0, none⟩ : Addr).add 1) = some (.slice l86_1.a l86_1.len l86_1.cap)) /\
 alE (.cells #[.bool b86_0, .slice l86_1.a l86_1.len l86_1.cap] 77) w13 fun r87 w15 =>
 S1 w15 /\
 ∃ l88 : SV, ∃ w16, (Builtin.append_ #[23, 23] 23 #[.slice l85.a l85.len l85.cap, .slice (some ⟨r87, 0, none⟩) 1 1]).run prog w15 = .ok (.slice l88.a l88.len l88.cap) w16 /\
 ptrE p0 fun a17 =>
 st1 ((a17.add 2).add 2) (.slice l88.a l88.len l88.cap) w16 fun w18 =>
 ptrE p0 fun a19 =>
 ∃ l97 : SV, w18.cell? ((a19.add 2).add 2) = some (.slice l97.a l97.len l97.cap) /\
 alE (.cells #[.int .i64 (l97.len : Int)] 3) w18 fun r99 w20 =>
 ∃ l100 : SV, ∃ w21, (Builtin.append_ #[43, 43] 43 #[.slice l15.a l15.len l15.cap, .slice (some ⟨r99, 0, none⟩) 1 1]).run prog w20 = .ok (.slice l100.a l100.len l100.cap) w21 /\
 J1 (l100, (IntKind.i64.wrap (n76 + 1))) w21) (
 F55_1 R p0 n1 p2 l15 ds w)
def F55_3 (R : Rt) (p0 : Option Addr) (n1 : Int) (p2 : Option Addr) (l15 l74 : SV) (n75 n76 : Int) (ds : Ds) (w : World) : Prop :=
 loopT (fun (J1 : (SV × Int) -> World -> Prop) (s : SV × Int) (w : World) => F55_2 R J1 p0 n1 p2 s.1 l74 n75 s.2 ds w) (l15, n76) w
def F55_5 (R : Rt) (p0 : Option Addr) (n1 : Int) (p2 : Option Addr) (ds : Ds) (w : World) : Prop :=
 ptrE p2 fun a22 =>
 ∃ l74 : SV, w.cell? (a22.add 3) = some (.slice l74.a l74.len l74.cap) /\
 F55_3 R p0 n1 p2 ⟨none, 0, 0⟩ l74 (l74.len : Int) 0 ds w
def F55_6 (R : Rt) (J1 : (Unit) -> World -> Prop) (p0 : Option Addr) (n1 : Int) (p2 p55 : Option Addr) (ds : Ds) (w : World) : Prop :=
 (∃ w23, (Instr.next (.pointer p55) false 0).run prog w = .ok (.tuple #[.bool false]) w23 /\
 F55_5 R p0 n1 p2 ds w23) ∨ (∃ k56 v56 : Value, ∃ w24, (Instr.next (.pointer p55) false 0).run prog w = .ok (.tuple #[.bool true, k56, v56]) w24 /\
 ∃ k58 v58 : Value, ∃ w25, (Instr.entry (.pointer p55)).run prog w24 = .ok (.tuple #[k58, v58]) w25 /\
 dInt .i64 k58 fun n59 =>
 dAgg v58 fun q60 =>
 dHd q60 fun x60_0 q60_0 =>
 dBl x60_0 fun b60_0 =>
 dHd q60_0 fun x60_1 q60_1 =>
 dSl x60_1 fun l60_1 =>
 dHd q60_1 fun x60_2 q60_2 =>
 dBl x60_2 fun b60_2 =>
 dHd q60_2 fun x60_3 q60_3 =>
 dSl x60_3 fun l60_3 =>
 dNil q60_3 (
 alE (.cells #[.bool false, .slice none 0 0, .bool false, .slice none 0 0] 133) w25 fun r14 w26 =>
 stA prog 133 (⟨r14, 0, none⟩ : Addr) #[.bool b60_0, .slice l60_1.a l60_1.len l60_1.cap, .bool b60_2, .slice l60_3.a l60_3.len l60_3.cap] w26 fun w27 =>
 dwE w27 fun w28 =>
 ∃ b61_0, w28.cell? ((⟨r14, 0, none⟩ : Addr).add 0) = some (.bool b61_0) /\
 ∃ l61_1 : SV, w28.cell? ((⟨r14, 0, none⟩ : Addr).add 1) = some (.slice l61_1.a l61_1.len l61_1.cap) /\
 ∃ b61_2, w28.cell? ((⟨r14, 0, none⟩ : Addr).add 2) = some (.bool b61_2) /\
 ∃ l61_3 : SV, w28.cell? ((⟨r14, 0, none⟩ : Addr).add 3) = some (.slice l61_3.a l61_3.len l61_3.cap) /\
 ptrE p0 fun a29 =>
 ∃ l66 : SV, w28.cell? ((a29.add 2).add 2) = some (.slice l66.a l66.len l66.cap) /\
 ∃ a30, l66.a = some a30 /\ 0 <= (IntKind.i64.wrap (n59 - 1)) /\ (IntKind.i64.wrap (n59 - 1)) < (l66.len : Int) /\
 Calls prog 115 #[.agg #[.bool b61_0, .slice l61_1.a l61_1.len l61_1.cap, .bool b61_2, .slice l61_3.a l61_3.len l61_3.cap], .pointer (some (a30.add ((IntKind.i64.wrap (n59 - 1)).toNat * 2)))] w28 fun e w31 =>
 e = .returned (.tuple #[]) /\
 J1 () w31))
def F55_7 (R : Rt) (p0 : Option Addr) (n1 : Int) (p2 p55 : Option Addr) (ds : Ds) (w : World) : Prop :=
 loopT (fun (J1 : (Unit) -> World -> Prop) (_ : Unit) (w : World) => F55_6 R J1 p0 n1 p2 p55 ds w) () w
def F55_9 (R : Rt) (p0 : Option Addr) (n1 : Int) (p2 : Option Addr) (ds : Ds) (w : World) : Prop :=
 ptrE p2 fun a32 =>
 ∃ m54, w.cell? (a32.add 2) = some (.map m54) /\
 ∃ p55 : Option Addr, ∃ w33, (Instr.range 88 (.map m54)).run prog w = .ok (.pointer p55) w33 /\
 F55_7 R p0 n1 p2 p55 ds w33
def F55_10 (R : Rt) (J1 : (Unit) -> World -> Prop) (p0 : Option Addr) (n1 : Int) (p2 p31 : Option Addr) (ds : Ds) (w : World) : Prop :=
 (∃ w34, (Instr.next (.pointer p31) false 0).run prog w = .ok (.tuple #[.bool false]) w34 /\
 F55_9 R p0 n1 p2 ds w34) ∨ (∃ k32 v32 : Value, ∃ w35, (Instr.next (.pointer p31) false 0).run prog w = .ok (.tuple #[.bool true, k32, v32]) w35 /\
 ∃ k34 v34 : Value, ∃ w36, (Instr.entry (.pointer p31)).run prog w35 = .ok (.tuple #[k34, v34]) w36 /\
 dInt .i64 k34 fun n35 =>
 ptrE p0 fun a37 =>
 ∃ m40, w36.cell? (a37.add 21) = some (.map m40) /\
 ∃ n42_0 : Int, ∃ b42_1 : Bool, ∃ w38, (Instr.lookup 80 (.map m40) (.int .i64 n35) true).run prog w36 = .ok (.tuple #[.int .i64 n42_0, .bool b42_1]) w38 /\
 Br b42_1 (
 Br (n42_0 != n1) (
 runD prog ds w38 fun w39 =>
 R (.returned (.tuple #[.slice none 0 0, .int .i64 12])) w39) (
 J1 () w38)) (
 J1 () w38))
def F55_11 (R : Rt) (p0 : Option Addr) (n1 : Int) (p2 p31 : Option Addr) (ds : Ds) (w : World) : Prop :=
 loopT (fun (J1 : (Unit) -> World -> Prop) (_ : Unit) (w : World) => F55_10 R J1 p0 n1 p2 p31 ds w) () w
def F55_13 (R : Rt) (p0 : Option Addr) (n1 : Int) (p2 : Option Addr) (b3 : Bool) (ds : Ds) (w : World) : Prop :=
 Br (!b3) (
 Calls prog 114 #[.pointer p0, .pointer p2] w fun e w40 =>
 ∃ l23 : SV, e = .returned (.slice l23.a l23.len l23.cap) /\
 Br (decide ((l23.len : Int) > 0)) (
 runD prog ds w40 fun w41 =>
 R (.returned (.tuple #[.slice none 0 0, .int .i64 13])) w41) (
 ptrE p2 fun a42 =>
 ∃ m30, w40.cell? (a42.add 2) = some (.map m30) /\
 ∃ p31 : Option Addr, ∃ w43, (Instr.range 88 (.map m30)).run prog w40 = .ok (.pointer p31) w43 /\
 F55_11 R p0 n1 p2 p31 ds w43)) (
 ptrE p2 fun a44 =>
 ∃ m30, w.cell? (a44.add 2) = some (.map m30) /\
 ∃ p31 : Option Addr, ∃ w45, (Instr.range 88 (.map m30)).run prog w = .ok (.pointer p31) w45 /\
 F55_11 R p0 n1 p2 p31 ds w45)
theorem F55_p : Pl prog f55 [pS 0, iS 1, pS 2, bS 3] F55_13 := fun R =>
  pc 4 (rest [pS 0, iS 1, pS 2, pS 31] (F55_11 R) (bk 0 (rest [pS 0, iS 1, pS 2] (F55_9 R) (pc 1 (rest [pS 0, iS 1, pS 2, pS 55] (F55_7 R) (bk 2 (rest [pS 0, iS 1, pS 2] (F55_5 R) (pc 2 (rest [pS 0, iS 1, pS 2, lS 15, lS 74, iS 75, iS 76] (F55_3 R) (bk 4 (rest [pS 0, iS 1, pS 2, lS 15] (F55_1 R) lf) (lp [lS 15, iS 76] [pS 0, iS 1, pS 2, lS 15, lS 74, iS 75, iS 76] (F55_2 R) rnil fun J1 => lf))))) (lp [] [pS 0, iS 1, pS 2, pS 55] (F55_6 R) rnil fun J1 => lf))))) (lp [] [pS 0, iS 1, pS 2, pS 31] (F55_10 R) rnil fun J1 => lf)))
theorem F55_calls (p0 : Option Addr) (n1 : Int) (p2 : Option Addr) (b3 : Bool) (w : World) (R : Rt) (h : F55_13 R p0 n1 p2 b3 [] w) : Calls prog 55 #[.pointer p0, .int .i64 n1, .pointer p2, .bool b3] w R :=
  plC F55_p func55 h
def F114_1 (R : Rt) (l5 : SV) (ds : Ds) (w : World) : Prop :=
 runD prog ds w fun w1 =>
 R (.returned (.slice l5.a l5.len l5.cap)) w1
def F114_2 (R : Rt) (J1 : (SV × Int) -> World -> Prop) (p0 p1 : Option Addr) (l5 l13 : SV) (n14 n15 : Int) (ds : Ds) (w : World) : Prop :=
 Br (decide (n15 < n14)) (
 ∃ a2, l13.a = some a2 /\ 0 <= n15 /\ n15 < (l13.len : Int) /\
 ∃ n18, w.cell? (a2.add (n15.toNat * 1)) = some (.int .i64 n18) /\
 dwE w fun w3 =>
 ptrE p1 fun a4 =>
 ∃ m22, w3.cell? (a4.add 2) = some (.map m22) /\
 ∃ b24_0 : Bool, ∃ l24_1 : SV, ∃ b24_2 : Bool, ∃ l24_3 : SV, (Instr.lookup 88 (.map m22) (.int .i64 n18) false).run prog w3 = .ok (.agg #[.bool b24_0, .slice l24_1.a l24_1.len l24_1.cap, .bool b24_2, .slice l24_3.a l24_3.len l24_3.cap]) w3 /\
 ptrE p0 fun a5 =>
 ∃ l29 : SV, w3.cell? ((a5.add 2).add 2) = some (.slice l29.a l29.len l29.cap) /\
 ∃ a6, l29.a = some a6 /\ 0 <= (IntKind.i64.wrap (n18 - 1)) /\ (IntKind.i64.wrap (n18 - 1)) < (l29.len : Int) /\
 ∃ b33_0, w3.cell? ((a6.add ((IntKind.i64.wrap (n18 - 1)).toNat * 2)).add 0) = some (.bool b33_0) /\
 ∃ l33_1 : SV, w3.cell? ((a6.add ((IntKind.i64.wrap (n18 - 1)).toNat * 2)).add 1) = some (.slice l33_1.a l33_1.len l33_1.cap) /\
 Calls prog 162 #[.agg #[.bool b24_0, .slice l24_1.a l24_1.len l24_1.cap, .bool b24_2, .slice l24_3.a l24_3.len l24_3.cap], .agg #[.bool b33_0, .slice l33_1.a l33_1.len l33_1.cap]] w3 fun e w7 =>
 ∃ b34 : Bool, e = .returned (.bool b34) /\
 Br b34 (
 alE (.cells #[.int .i64 n18] 3) w7 fun r37 w8 =>
 ∃ l38 : SV, ∃ w9, (Builtin.append_ #[43, 43] 43 #[.slice l5.a l5.len l5.cap, .slice (some ⟨r37, 0, none⟩) 1 1]).run prog w8 = .ok (.slice l38.a l38.len l38.cap) w9 /\
 J1 (l38, (IntKind.i64.wrap (n15 + 1))) w9) (
 J1 (l5, (IntKind.i64.wrap (n15 + 1))) w7)) (
 F114_1 R l5 ds w)
def F114_3 (R : Rt) (p0 p1 : Option Addr) (l5 l13 : SV) (n14 n15 : Int) (ds : Ds) (w : World) : Prop :=
 loopT (fun (J1 : (SV × Int) -> World -> Prop) (s : SV × Int) (w : World) => F114_2 R J1 p0 p1 s.1 l13 n14 s.2 ds w) (l5, n15) w
def F114_5 (R : Rt) (p0 p1 : Option Addr) (ds : Ds) (w : World) : Prop :=
 ptrE p1 fun a10 =>
 ∃ m11, w.cell? (a10.add 2) = some (.map m11) /\
 Calls prog 129 #[.map m11] w fun e w11 =>
 ∃ v12 : Value, e = .returned (v12) /\
 Calls prog 128 #[v12] w11 fun e w12 =>
 ∃ l13 : SV, e = .returned (.slice l13.a l13.len l13.cap) /\
 F114_3 R p0 p1 ⟨none, 0, 0⟩ l13 (l13.len : Int) 0 ds w12
theorem F114_p : Pl prog f114 [pS 0, pS 1] F114_5 := fun R =>
  pc 3 (rest [pS 0, pS 1, lS 5, lS 13, iS 14, iS 15] (F114_3 R) (bk 0 (rest [lS 5] (F114_1 R) lf) (lp [lS 5, iS 15] [pS 0, pS 1, lS 5, lS 13, iS 14, iS 15] (F114_2 R) rnil fun J1 => lf)))
theorem F114_calls (p0 p1 : Option Addr) (w : World) (R : Rt) (h : F114_5 R p0 p1 [] w) : Calls prog 114 #[.pointer p0, .pointer p1] w R :=
  plC F114_p func114 h
def F162_1 (R : Rt) (ds : Ds) (w : World) : Prop :=
 runD prog ds w fun w1 =>
 R (.returned (.bool false)) w1
def F162_2 (R : Rt) (J1 : (Int) -> World -> Prop) (p2 p3 : Option Addr) (l18 : SV) (n19 n20 : Int) (ds : Ds) (w : World) : Prop :=
 Br (decide (n20 < n19)) (
 ∃ a2, l18.a = some a2 /\ 0 <= n20 /\ n20 < (l18.len : Int) /\
 ∃ n24_0, w.cell? ((a2.add (n20.toNat * 3)).add 0) = some (.int .i64 n24_0) /\
 ∃ n24_1, w.cell? ((a2.add (n20.toNat * 3)).add 1) = some (.int .i64 n24_1) /\
 ∃ s24_2, w.cell? ((a2.add (n20.toNat * 3)).add 2) = some (.string s24_2) /\
 alE (.cells #[.int .i64 0, .int .i64 0, .string (⟨#[]⟩ : ByteArray)] 28) w fun r6 w3 =>
 stA prog 28 (⟨r6, 0, none⟩ : Addr) #[.int .i64 n24_0, .int .i64 n24_1, .string s24_2] w3 fun w4 =>
 dwE w4 fun w5 =>
 ptrE p2 fun a6 =>
 ∃ l27 : SV, w5.cell? (a6.add 1) = some (.slice l27.a l27.len l27.cap) /\
 ∃ a7, l27.a = some a7 /\ 0 <= n20 /\ n20 < (l27.len : Int) /\
 ∃ n30_0, w5.cell? ((a7.add (n20.toNat * 3)).add 0) = some (.int .i64 n30_0) /\
 ∃ n30_1, w5.cell? ((a7.add (n20.toNat * 3)).add 1) = some (.int .i64 n30_1) /\
 ∃ s30_2, w5.cell? ((a7.add (n20.toNat * 3)).add 2) = some (.string s30_2) /\
 ∃ n31_0, w5.cell? ((⟨r6, 0, none⟩ : Addr).add 0) = some (.int .i64 n31_0) /\
 ∃ n31_1, w5.cell? ((⟨r6, 0, none⟩ : Addr).add 1) = some (.int .i64 n31_1) /\
 ∃ s31_2, w5.cell? ((⟨r6, 0, none⟩ : Addr).add 2) = some (.string s31_2) /\
 ptrE p3 fun a8 =>
 ∃ l33 : SV, w5.cell? (a8.add 1) = some (.slice l33.a l33.len l33.cap) /\
 ∃ a9, l33.a = some a9 /\ 0 <= n20 /\ n20 < (l33.len : Int) /\
 ∃ n36_0, w5.cell? ((a9.add (n20.toNat * 3)).add 0) = some (.int .i64 n36_0) /\
 ∃ n36_1, w5.cell? ((a9.add (n20.toNat * 3)).add 1) = some (.int .i64 n36_1) /\
 ∃ s36_2, w5.cell? ((a9.add (n20.toNat * 3)).add 2) = some (.string s36_2) /\
 Calls prog 200 #[.agg #[.int .i64 n30_0, .int .i64 n30_1, .string s30_2], .agg #[.int .i64 n31_0, .int .i64 n31_1, .string s31_2], .agg #[.int .i64 n36_0, .int .i64 n36_1, .string s36_2]] w5 fun e w10 =>
 ∃ b37 : Bool, e = .returned (.bool b37) /\
 Br b37 (
 runD prog ds w10 fun w11 =>
 R (.returned (.bool true)) w11) (
 J1 (IntKind.i64.wrap (n20 + 1)) w10)) (
 F162_1 R ds w)
def F162_3 (R : Rt) (p2 p3 : Option Addr) (l18 : SV) (n19 n20 : Int) (ds : Ds) (w : World) : Prop :=
 loopT (fun (J1 : (Int) -> World -> Prop) (s : Int) (w : World) => F162_2 R J1 p2 p3 l18 n19 s ds w) n20 w
def F162_5 (R : Rt) (b0_0 : Bool) (l0_1 : SV) (b0_2 : Bool) (l0_3 : SV) (b1_0 : Bool) (l1_1 : SV) (ds : Ds) (w : World) : Prop :=
 alE (.cells #[.bool b0_0, .slice l0_1.a l0_1.len l0_1.cap, .bool b0_2, .slice l0_3.a l0_3.len l0_3.cap] 133) w fun r2 w12 =>
 alE (.cells #[.bool b1_0, .slice l1_1.a l1_1.len l1_1.cap] 77) w12 fun r3 w13 =>
 ∃ b9, w13.cell? (⟨r2, 0, none⟩ : Addr) = some (.bool b9) /\
 ∃ b12, w13.cell? ((⟨r2, 0, none⟩ : Addr).add 2) = some (.bool b12) /\
 ∃ b14, w13.cell? (⟨r3, 0, none⟩ : Addr) = some (.bool b14) /\
 Calls prog 199 #[.bool b9, .bool b12, .bool b14] w13 fun e w14 =>
 ∃ b15 : Bool, e = .returned (.bool b15) /\
 Br b15 (
 runD prog ds w14 fun w15 =>
 R (.returned (.bool true)) w15) (
 ∃ l18 : SV, w14.cell? (((⟨r2, 0, none⟩ : Addr).add 2).add 1) = some (.slice l18.a l18.len l18.cap) /\
 F162_3 R (some (⟨r2, 0, none⟩ : Addr)) (some (⟨r3, 0, none⟩ : Addr)) l18 (l18.len : Int) 0 ds w14)
theorem F162_p : Pl prog f162 [aS 0 [.bool, .slice, .bool, .slice], aS 1 [.bool, .slice]] F162_5 := fun R =>
  pc 4 (rest [pS 2, pS 3, lS 18, iS 19, iS 20] (F162_3 R) (bk 0 (rest [] (F162_1 R) lf) (lp [iS 20] [pS 2, pS 3, lS 18, iS 19, iS 20] (F162_2 R) rnil fun J1 => lf)))
theorem F162_calls (b0_0 : Bool) (l0_1 : SV) (b0_2 : Bool) (l0_3 : SV) (b1_0 : Bool) (l1_1 : SV) (w : World) (R : Rt) (h : F162_5 R b0_0 l0_1 b0_2 l0_3 b1_0 l1_1 [] w) : Calls prog 162 #[.agg #[.bool b0_0, .slice l0_1.a l0_1.len l0_1.cap, .bool b0_2, .slice l0_3.a l0_3.len l0_3.cap], .agg #[.bool b1_0, .slice l1_1.a l1_1.len l1_1.cap]] w R :=
  plC F162_p func162 h
def F199_1 (R : Rt) (b0 b1 b2 : Bool) (ds : Ds) (w : World) : Prop :=
 Br (!(b0 == b1)) (
 Br (!(b2 == b0)) (
 runD prog ds w fun w1 =>
 R (.returned (.bool (!(b2 == b1)))) w1) (
 runD prog ds w fun w2 =>
 R (.returned (.bool false)) w2)) (
 runD prog ds w fun w3 =>
 R (.returned (.bool false)) w3)
theorem F199_p : Pl prog f199 [bS 0, bS 1, bS 2] F199_1 := fun R =>
  lf
theorem F199_calls (b0 b1 b2 : Bool) (w : World) (R : Rt) (h : F199_1 R b0 b1 b2 [] w) : Calls prog 199 #[.bool b0, .bool b1, .bool b2] w R :=
  plC F199_p func199 h
def F200_1 (R : Rt) (n0_0 n0_1 : Int) (s0_2 : ByteArray) (n1_0 n1_1 : Int) (s1_2 : ByteArray) (n2_0 n2_1 : Int) (s2_2 : ByteArray) (ds : Ds) (w : World) : Prop :=
 alE (.cells #[.int .i64 n0_0, .int .i64 n0_1, .string s0_2] 28) w fun r3 w1 =>
 alE (.cells #[.int .i64 n1_0, .int .i64 n1_1, .string s1_2] 28) w1 fun r4 w2 =>
 alE (.cells #[.int .i64 n2_0, .int .i64 n2_1, .string s2_2] 28) w2 fun r5 w3 =>
 ∃ n7_0, w3.cell? ((⟨r3, 0, none⟩ : Addr).add 0) = some (.int .i64 n7_0) /\
 ∃ n7_1, w3.cell? ((⟨r3, 0, none⟩ : Addr).add 1) = some (.int .i64 n7_1) /\
 ∃ s7_2, w3.cell? ((⟨r3, 0, none⟩ : Addr).add 2) = some (.string s7_2) /\
 ∃ n8_0, w3.cell? ((⟨r4, 0, none⟩ : Addr).add 0) = some (.int .i64 n8_0) /\
 ∃ n8_1, w3.cell? ((⟨r4, 0, none⟩ : Addr).add 1) = some (.int .i64 n8_1) /\
 ∃ s8_2, w3.cell? ((⟨r4, 0, none⟩ : Addr).add 2) = some (.string s8_2) /\
 ∃ b9 : Bool, ∃ w4, (eqS .neq 28 (.tmp 7) (.tmp 8) (.agg #[.int .i64 n7_0, .int .i64 n7_1, .string s7_2]) (.agg #[.int .i64 n8_0, .int .i64 n8_1, .string s8_2])).run prog w3 = .ok (.bool b9) w4 /\
 Br b9 (
 ∃ n11_0, w4.cell? ((⟨r5, 0, none⟩ : Addr).add 0) = some (.int .i64 n11_0) /\
 ∃ n11_1, w4.cell? ((⟨r5, 0, none⟩ : Addr).add 1) = some (.int .i64 n11_1) /\
 ∃ s11_2, w4.cell? ((⟨r5, 0, none⟩ : Addr).add 2) = some (.string s11_2) /\
 ∃ n12_0, w4.cell? ((⟨r3, 0, none⟩ : Addr).add 0) = some (.int .i64 n12_0) /\
 ∃ n12_1, w4.cell? ((⟨r3, 0, none⟩ : Addr).add 1) = some (.int .i64 n12_1) /\
 ∃ s12_2, w4.cell? ((⟨r3, 0, none⟩ : Addr).add 2) = some (.string s12_2) /\
 ∃ b13 : Bool, ∃ w5, (eqS .neq 28 (.tmp 11) (.tmp 12) (.agg #[.int .i64 n11_0, .int .i64 n11_1, .string s11_2]) (.agg #[.int .i64 n12_0, .int .i64 n12_1, .string s12_2])).run prog w4 = .ok (.bool b13) w5 /\
 Br b13 (
 ∃ n16_0, w5.cell? ((⟨r5, 0, none⟩ : Addr).add 0) = some (.int .i64 n16_0) /\
 ∃ n16_1, w5.cell? ((⟨r5, 0, none⟩ : Addr).add 1) = some (.int .i64 n16_1) /\
 ∃ s16_2, w5.cell? ((⟨r5, 0, none⟩ : Addr).add 2) = some (.string s16_2) /\
 ∃ n17_0, w5.cell? ((⟨r4, 0, none⟩ : Addr).add 0) = some (.int .i64 n17_0) /\
 ∃ n17_1, w5.cell? ((⟨r4, 0, none⟩ : Addr).add 1) = some (.int .i64 n17_1) /\
 ∃ s17_2, w5.cell? ((⟨r4, 0, none⟩ : Addr).add 2) = some (.string s17_2) /\
 ∃ b18 : Bool, ∃ w6, (eqS .neq 28 (.tmp 16) (.tmp 17) (.agg #[.int .i64 n16_0, .int .i64 n16_1, .string s16_2]) (.agg #[.int .i64 n17_0, .int .i64 n17_1, .string s17_2])).run prog w5 = .ok (.bool b18) w6 /\
 runD prog ds w6 fun w7 =>
 R (.returned (.bool b18)) w7) (
 runD prog ds w5 fun w8 =>
 R (.returned (.bool false)) w8)) (
 runD prog ds w4 fun w9 =>
 R (.returned (.bool false)) w9)
theorem F200_p : Pl prog f200 [aS 0 [.int .i64, .int .i64, .str], aS 1 [.int .i64, .int .i64, .str], aS 2 [.int .i64, .int .i64, .str]] F200_1 := fun R =>
  lf
theorem F200_calls (n0_0 n0_1 : Int) (s0_2 : ByteArray) (n1_0 n1_1 : Int) (s1_2 : ByteArray) (n2_0 n2_1 : Int) (s2_2 : ByteArray) (w : World) (R : Rt) (h : F200_1 R n0_0 n0_1 s0_2 n1_0 n1_1 s1_2 n2_0 n2_1 s2_2 [] w) : Calls prog 200 #[.agg #[.int .i64 n0_0, .int .i64 n0_1, .string s0_2], .agg #[.int .i64 n1_0, .int .i64 n1_1, .string s1_2], .agg #[.int .i64 n2_0, .int .i64 n2_1, .string s2_2]] w R :=
  plC F200_p func200 h
def F115_1 (R : Rt) (J1 : (Int) -> World -> Prop) (p1 p2 : Option Addr) (l21 : SV) (n22 n23 : Int) (ds : Ds) (w : World) : Prop :=
 Br (decide (n23 < n22)) (
 ∃ a1, l21.a = some a1 /\ 0 <= n23 /\ n23 < (l21.len : Int) /\
 ∃ n27_0, w.cell? ((a1.add (n23.toNat * 3)).add 0) = some (.int .i64 n27_0) /\
 ∃ n27_1, w.cell? ((a1.add (n23.toNat * 3)).add 1) = some (.int .i64 n27_1) /\
 ∃ s27_2, w.cell? ((a1.add (n23.toNat * 3)).add 2) = some (.string s27_2) /\
 alE (.cells #[.int .i64 0, .int .i64 0, .string (⟨#[]⟩ : ByteArray)] 28) w fun r5 w2 =>
 stA prog 28 (⟨r5, 0, none⟩ : Addr) #[.int .i64 n27_0, .int .i64 n27_1, .string s27_2] w2 fun w3 =>
 dwE w3 fun w4 =>
 ptrE p2 fun a5 =>
 ∃ l30 : SV, w4.cell? (a5.add 1) = some (.slice l30.a l30.len l30.cap) /\
 ∃ a6, l30.a = some a6 /\ 0 <= n23 /\ n23 < (l30.len : Int) /\
 ∃ n33_0, w4.cell? ((a6.add (n23.toNat * 3)).add 0) = some (.int .i64 n33_0) /\
 ∃ n33_1, w4.cell? ((a6.add (n23.toNat * 3)).add 1) = some (.int .i64 n33_1) /\
 ∃ s33_2, w4.cell? ((a6.add (n23.toNat * 3)).add 2) = some (.string s33_2) /\
 ∃ n34_0, w4.cell? ((⟨r5, 0, none⟩ : Addr).add 0) = some (.int .i64 n34_0) /\
 ∃ n34_1, w4.cell? ((⟨r5, 0, none⟩ : Addr).add 1) = some (.int .i64 n34_1) /\
 ∃ s34_2, w4.cell? ((⟨r5, 0, none⟩ : Addr).add 2) = some (.string s34_2) /\
 ∃ b35 : Bool, (∀ w, (eqS .neq 28 (.tmp 33) (.tmp 34) (.agg #[.int .i64 n33_0, .int .i64 n33_1, .string s33_2]) (.agg #[.int .i64 n34_0, .int .i64 n34_1, .string s34_2])).run prog w = .ok (.bool b35) w) /\
 Br b35 (
 dwE w4 fun w7 =>
 ptrE p1 fun a8 =>
 ∃ l39 : SV, w7.cell? (a8.add 1) = some (.slice l39.a l39.len l39.cap) /\
 ∃ n41_0, w7.cell? ((⟨r5, 0, none⟩ : Addr).add 0) = some (.int .i64 n41_0) /\
 ∃ n41_1, w7.cell? ((⟨r5, 0, none⟩ : Addr).add 1) = some (.int .i64 n41_1) /\
 ∃ s41_2, w7.cell? ((⟨r5, 0, none⟩ : Addr).add 2) = some (.string s41_2) /\
 ∃ a9, l39.a = some a9 /\ 0 <= n23 /\ n23 < (l39.len : Int) /\
 stA prog 28 (a9.add (n23.toNat * 3)) #[.int .i64 n41_0, .int .i64 n41_1, .string s41_2] w7 fun w10 =>
 J1 (IntKind.i64.wrap (n23 + 1)) w10) (
 J1 (IntKind.i64.wrap (n23 + 1)) w4)) (
 runD prog ds w fun w11 =>
 R (.returned (.tuple #[])) w11)
def F115_2 (R : Rt) (p1 p2 : Option Addr) (l21 : SV) (n22 n23 : Int) (ds : Ds) (w : World) : Prop :=
 loopT (fun (J1 : (Int) -> World -> Prop) (s : Int) (w : World) => F115_1 R J1 p1 p2 l21 n22 s ds w) n23 w
def F115_4 (R : Rt) (b0_0 : Bool) (l0_1 : SV) (b0_2 : Bool) (l0_3 : SV) (p1 : Option Addr) (ds : Ds) (w : World) : Prop :=
 alE (.cells #[.bool b0_0, .slice l0_1.a l0_1.len l0_1.cap, .bool b0_2, .slice l0_3.a l0_3.len l0_3.cap] 133) w fun r2 w12 =>
 ∃ b8, w12.cell? (⟨r2, 0, none⟩ : Addr) = some (.bool b8) /\
 ∃ b11, w12.cell? ((⟨r2, 0, none⟩ : Addr).add 2) = some (.bool b11) /\
 Br (!(b8 == b11)) (
 ∃ b16, w12.cell? ((⟨r2, 0, none⟩ : Addr).add 2) = some (.bool b16) /\
 ptrE p1 fun a13 =>
 st1 a13 (.bool b16) w12 fun w14 =>
 ∃ l21 : SV, w14.cell? (((⟨r2, 0, none⟩ : Addr).add 2).add 1) = some (.slice l21.a l21.len l21.cap) /\
 F115_2 R p1 (some (⟨r2, 0, none⟩ : Addr)) l21 (l21.len : Int) 0 ds w14) (
 ∃ l21 : SV, w12.cell? (((⟨r2, 0, none⟩ : Addr).add 2).add 1) = some (.slice l21.a l21.len l21.cap) /\
 F115_2 R p1 (some (⟨r2, 0, none⟩ : Addr)) l21 (l21.len : Int) 0 ds w12)
theorem F115_p : Pl prog f115 [aS 0 [.bool, .slice, .bool, .slice], pS 1] F115_4 := fun R =>
  pc 4 (rest [pS 1, pS 2, lS 21, iS 22, iS 23] (F115_2 R) (bk 0 rnil (lp [iS 23] [pS 1, pS 2, lS 21, iS 22, iS 23] (F115_1 R) rnil fun J1 => lf)))
theorem F115_calls (b0_0 : Bool) (l0_1 : SV) (b0_2 : Bool) (l0_3 : SV) (p1 : Option Addr) (w : World) (R : Rt) (h : F115_4 R b0_0 l0_1 b0_2 l0_3 p1 [] w) : Calls prog 115 #[.agg #[.bool b0_0, .slice l0_1.a l0_1.len l0_1.cap, .bool b0_2, .slice l0_3.a l0_3.len l0_3.cap], .pointer p1] w R :=
  plC F115_p func115 h
def F116_1 (R : Rt) (J1 : (Unit) -> World -> Prop) (p0 : Option Addr) (n1 : Int) (p19 : Option Addr) (ds : Ds) (w : World) : Prop :=
 (∃ w1, (Instr.next (.pointer p19) false 0).run prog w = .ok (.tuple #[.bool false]) w1 /\
 runD prog ds w1 fun w3 =>
 R (.returned (.tuple #[])) w3) ∨ (∃ k20 v20 : Value, ∃ w2, (Instr.next (.pointer p19) false 0).run prog w = .ok (.tuple #[.bool true, k20, v20]) w2 /\
 ∃ k22 v22 : Value, ∃ w4, (Instr.entry (.pointer p19)).run prog w2 = .ok (.tuple #[k22, v22]) w4 /\
 dInt .i64 k22 fun n23 =>
 dInt .i64 v22 fun n24 =>
 Br (n24 == n1) (
 ptrE p0 fun a5 =>
 ∃ m31, w4.cell? (a5.add 21) = some (.map m31) /\
 ∃ w6, (Builtin.delete_ #[80, 3] 0 #[.map m31, .int .i64 n23]).run prog w4 = .ok (.tuple #[]) w6 /\
 J1 () w6) (
 J1 () w4))
def F116_2 (R : Rt) (p0 : Option Addr) (n1 : Int) (p19 : Option Addr) (ds : Ds) (w : World) : Prop :=
 loopT (fun (J1 : (Unit) -> World -> Prop) (_ : Unit) (w : World) => F116_1 R J1 p0 n1 p19 ds w) () w
def F116_4 (R : Rt) (p0 : Option Addr) (n1 : Int) (p2 : Option Addr) (ds : Ds) (w : World) : Prop :=
 alE (.map #[] 0) w fun r10 w7 =>
 ptrE p2 fun a8 =>
 st1 (a8.add 2) (.map (some r10)) w7 fun w9 =>
 ptrE p2 fun a10 =>
 st1 (a10.add 3) (.slice none 0 0) w9 fun w11 =>
 ptrE p0 fun a12 =>
 ∃ m18, w11.cell? (a12.add 21) = some (.map m18) /\
 ∃ p19 : Option Addr, ∃ w13, (Instr.range 80 (.map m18)).run prog w11 = .ok (.pointer p19) w13 /\
 F116_2 R p0 n1 p19 ds w13
theorem F116_p : Pl prog f116 [pS 0, iS 1, pS 2] F116_4 := fun R =>
  pc 2 (rest [pS 0, iS 1, pS 19] (F116_2 R) (bk 0 rnil (lp [] [pS 0, iS 1, pS 19] (F116_1 R) rnil fun J1 => lf)))
theorem F116_calls (p0 : Option Addr) (n1 : Int) (p2 : Option Addr) (w : World) (R : Rt) (h : F116_4 R p0 n1 p2 [] w) : Calls prog 116 #[.pointer p0, .int .i64 n1, .pointer p2] w R :=
  plC F116_p func116 h
def F17_1 (R : Rt) (p0 : Option Addr) (n1 : Int) (b2 : Bool) (ds : Ds) (w : World) : Prop :=
 Calls prog 47 #[.pointer p0, .int .i64 n1] w fun e w1 =>
 ∃ p14_0 : Option Addr, ∃ v14_1 : Value, ∃ n14_2 : Int, e = .returned (.tuple #[.pointer p14_0, v14_1, .int .i64 n14_2]) /\
 fnE v14_1 fun fx firstx capx =>
 Br (n14_2 != 0) (
 runD prog ({ target := .fn (.func fx) capx, args := (firstx.toList ++ ([] : List Value)).toArray } :: ds) w1 fun w2 =>
 R (.returned (.tuple #[.slice none 0 0, .int .i64 n14_2])) w2) (
 Calls prog 55 #[.pointer p0, .int .i64 n1, .pointer p14_0, .bool b2] w1 fun e w3 =>
 ∃ l26_0 : SV, ∃ n26_1 : Int, e = .returned (.tuple #[.slice l26_0.a l26_0.len l26_0.cap, .int .i64 n26_1]) /\
 runD prog ({ target := .fn (.func fx) capx, args := (firstx.toList ++ ([] : List Value)).toArray } :: ds) w3 fun w4 =>
 R (.returned (.tuple #[.slice l26_0.a l26_0.len l26_0.cap, .int .i64 n26_1])) w4)
theorem F17_p : Pl prog f17 [pS 0, iS 1, bS 2] F17_1 := fun R =>
  lf
theorem F17_calls (p0 : Option Addr) (n1 : Int) (b2 : Bool) (w : World) (R : Rt) (h : F17_1 R p0 n1 b2 [] w) : Calls prog 17 #[.pointer p0, .int .i64 n1, .bool b2] w R :=
  plC F17_p func17 h
end Go.Proofs.YtcihcbfcgjepfaaGreatDoor

/- Shallow texts of functions, printed by program, each checked by the kernel against the loaded code. No condition. -/
set_option maxRecDepth 100000
set_option linter.unusedVariables false
namespace Go.Proofs.YtcihcbfcgjepfaaGreatDoor
open Go.Sh Tryz
end Go.Proofs.YtcihcbfcgjepfaaGreatDoor

/- Shallow texts of functions, printed by program, each checked by the kernel against the loaded code. No condition. -/
set_option maxRecDepth 100000
set_option linter.unusedVariables false
namespace Go.Proofs.YtcihcbfcgjepfaaGreatDoor
open Go.Sh Tryz
def F10_1 (R : Rt) (p1 : Option Addr) (ds : Ds) (w : World) : Prop :=
 Calls prog 17 #[.pointer p1, .int .i64 0, .bool false] w fun e w1 =>
 ∃ l54_0 : SV, ∃ n54_1 : Int, e = .returned (.tuple #[.slice l54_0.a l54_0.len l54_0.cap, .int .i64 n54_1]) /\
 Calls prog 17 #[.pointer p1, .int .i64 1, .bool false] w1 fun e w2 =>
 ∃ l59_0 : SV, ∃ n59_1 : Int, e = .returned (.tuple #[.slice l59_0.a l59_0.len l59_0.cap, .int .i64 n59_1]) /\
 Calls prog 17 #[.pointer p1, .int .i64 1, .bool true] w2 fun e w3 =>
 ∃ l64_0 : SV, ∃ n64_1 : Int, e = .returned (.tuple #[.slice l64_0.a l64_0.len l64_0.cap, .int .i64 n64_1]) /\
 Calls prog 18 #[.pointer p1, .int .i64 1, .string (⟨#[65]⟩ : ByteArray)] w3 fun e w4 =>
 ∃ n69_0_0 : Int, ∃ n69_0_1 : Int, ∃ s69_0_2 : ByteArray, ∃ n69_1 : Int, e = .returned (.tuple #[.agg #[.int .i64 n69_0_0, .int .i64 n69_0_1, .string s69_0_2], .int .i64 n69_1]) /\
 alE (.cells #[.int .i64 0, .int .i64 0, .string (⟨#[]⟩ : ByteArray)] 28) w4 fun r10 w5 =>
 stA prog 28 (⟨r10, 0, none⟩ : Addr) #[.int .i64 n69_0_0, .int .i64 n69_0_1, .string s69_0_2] w5 fun w6 =>
 Br (n54_1 == 0) (
 Br (n59_1 == 13) (
 Br (n64_1 == 0) (
 Br (n69_1 == 0) (
 ∃ n88, w6.cell? ((⟨r10, 0, none⟩ : Addr).add 1) = some (.int .i64 n88) /\
 runD prog ds w6 fun w7 =>
 R (.returned (.bool (n88 == 2))) w7) (
 runD prog ds w6 fun w8 =>
 R (.returned (.bool false)) w8)) (
 runD prog ds w6 fun w9 =>
 R (.returned (.bool false)) w9)) (
 runD prog ds w6 fun w10 =>
 R (.returned (.bool false)) w10)) (
 runD prog ds w6 fun w11 =>
 R (.returned (.bool false)) w11)
def F10_2 (R : Rt) (J1 : (Int) -> World -> Prop) (p1 : Option Addr) (n3 : Int) (ds : Ds) (w : World) : Prop :=
 Br (decide (n3 < 2)) (
 Calls prog 14 #[.pointer p1, .int .i64 n3, .int .i64 2] w fun e w12 =>
 ∃ n35 : Int, e = .returned (.int .i64 n35) /\
 Br (n35 != 0) (
 runD prog ds w12 fun w13 =>
 R (.returned (.bool false)) w13) (
 Calls prog 15 #[.pointer p1, .int .i64 n3, .int .i64 1] w12 fun e w14 =>
 ∃ n40 : Int, e = .returned (.int .i64 n40) /\
 Br (n40 != 0) (
 runD prog ds w14 fun w15 =>
 R (.returned (.bool false)) w15) (
 Calls prog 37 #[.int .i64 (IntKind.i64.wrap (n3 + 1))] w14 fun e w16 =>
 ∃ n48_0 : Int, ∃ n48_1 : Int, ∃ s48_2 : ByteArray, e = .returned (.agg #[.int .i64 n48_0, .int .i64 n48_1, .string s48_2]) /\
 Calls prog 16 #[.pointer p1, .int .i64 n3, .string (⟨#[65]⟩ : ByteArray), .agg #[.int .i64 n48_0, .int .i64 n48_1, .string s48_2]] w16 fun e w17 =>
 ∃ n49 : Int, e = .returned (.int .i64 n49) /\
 Br (n49 != 0) (
 runD prog ds w17 fun w18 =>
 R (.returned (.bool false)) w18) (
 J1 (IntKind.i64.wrap (n3 + 1)) w17)))) (
 F10_1 R p1 ds w)
def F10_3 (R : Rt) (p1 : Option Addr) (n3 : Int) (ds : Ds) (w : World) : Prop :=
 loopT (fun (J1 : (Int) -> World -> Prop) (s : Int) (w : World) => F10_2 R J1 p1 s ds w) n3 w
def F10_5 (R : Rt) (ds : Ds) (w : World) : Prop :=
 alE (.cells #[.string (⟨#[65]⟩ : ByteArray), .int .i64 2, .int .i64 5, .bool false] 38) w fun r14 w19 =>
 Calls prog 37 #[.int .i64 0] w19 fun e w20 =>
 ∃ n15_0 : Int, ∃ n15_1 : Int, ∃ s15_2 : ByteArray, e = .returned (.agg #[.int .i64 n15_0, .int .i64 n15_1, .string s15_2]) /\
 alE (.cells #[.int .i64 n15_0, .int .i64 n15_1, .string s15_2] 28) w20 fun r16 w21 =>
 alE (.cells #[.bool false, .slice (some ⟨r16, 0, none⟩) 1 1] 77) w21 fun r18 w22 =>
 Calls prog 11 #[.agg #[.int .i64 0, .slice (some ⟨r14, 0, none⟩) 1 1, .slice (some ⟨r18, 0, none⟩) 1 1]] w22 fun e w23 =>
 ∃ p20_0 : Option Addr, ∃ n20_1 : Int, e = .returned (.tuple #[.pointer p20_0, .int .i64 n20_1]) /\
 Br (n20_1 != 0) (
 runD prog ds w23 fun w24 =>
 R (.returned (.bool false)) w24) (
 ∃ b27 : Bool, ∃ w25, (eqS .eql 32 (.tmp 26) (.const (.pointer none)) (.pointer p20_0) (.pointer none)).run prog w23 = .ok (.bool b27) w25 /\
 Br b27 (
 runD prog ds w25 fun w26 =>
 R (.returned (.bool false)) w26) (
 F10_3 R p20_0 0 ds w25))
theorem F10_p : Pl prog f10 [] F10_5 := fun R =>
  pc 5 (rest [pS 1, iS 3] (F10_3 R) (bk 0 (rest [pS 1] (F10_1 R) lf) (lp [iS 3] [pS 1, iS 3] (F10_2 R) rnil fun J1 => lf)))
theorem F10_calls  (w : World) (R : Rt) (h : F10_5 R [] w) : Calls prog 10 #[] w R :=
  plC F10_p func10 h
end Go.Proofs.YtcihcbfcgjepfaaGreatDoor

/- Shallow texts of functions, printed by program, each checked by the kernel against the loaded code. No condition. -/
set_option maxRecDepth 100000
set_option linter.unusedVariables false
namespace Go.Proofs.YtcihcbfcgjepfaaGreatDoor
open Go.Sh Tryz
def F9_1 (R : Rt) (l1 : SV) (n5 : Int) (ds : Ds) (w : World) : Prop :=
 Br (decide (n5 > 2000000)) (
 runD prog ds w fun w1 =>
 R (.returned (.bool true)) w1) (
 runD prog ds w fun w2 =>
 R (.returned (.bool (decide ((l1.len : Int) > 200)))) w2)
def F9_2 (R : Rt) (J1 : (Int × Int) -> World -> Prop) (l1 : SV) (n5 n6 : Int) (ds : Ds) (w : World) : Prop :=
 Br (decide (n6 < (l1.len : Int))) (
 dwE w fun w3 =>
 ∃ a4, l1.a = some a4 /\ 0 <= n6 /\ n6 < (l1.len : Int) /\
 ∃ s20, w3.cell? ((a4.add (n6.toNat * 6)).add 4) = some (.string s20) /\
 ∃ a5, l1.a = some a5 /\ 0 <= n6 /\ n6 < (l1.len : Int) /\
 ∃ s26, w3.cell? ((a5.add (n6.toNat * 6)).add 5) = some (.string s26) /\
 J1 ((IntKind.i64.wrap (n5 + (IntKind.i64.wrap ((s20.size : Int) + (s26.size : Int))))), (IntKind.i64.wrap (n6 + 1))) w3) (
 F9_1 R l1 n5 ds w)
def F9_3 (R : Rt) (l1 : SV) (n5 n6 : Int) (ds : Ds) (w : World) : Prop :=
 loopT (fun (J1 : (Int × Int) -> World -> Prop) (s : Int × Int) (w : World) => F9_2 R J1 l1 s.1 s.2 ds w) (n5, n6) w
def F9_5 (R : Rt) (n0_0 : Int) (l0_1 l0_2 l1 : SV) (ds : Ds) (w : World) : Prop :=
 alE (.cells #[.int .i64 n0_0, .slice l0_1.a l0_1.len l0_1.cap, .slice l0_2.a l0_2.len l0_2.cap] 25) w fun r2 w6 =>
 ∃ n7_0, w6.cell? ((⟨r2, 0, none⟩ : Addr).add 0) = some (.int .i64 n7_0) /\
 ∃ l7_1 : SV, w6.cell? ((⟨r2, 0, none⟩ : Addr).add 1) = some (.slice l7_1.a l7_1.len l7_1.cap) /\
 ∃ l7_2 : SV, w6.cell? ((⟨r2, 0, none⟩ : Addr).add 2) = some (.slice l7_2.a l7_2.len l7_2.cap) /\
 Calls prog 36 #[.agg #[.int .i64 n7_0, .slice l7_1.a l7_1.len l7_1.cap, .slice l7_2.a l7_2.len l7_2.cap]] w6 fun e w7 =>
 ∃ n8 : Int, e = .returned (.int .i64 n8) /\
 F9_3 R l1 n8 0 ds w7
theorem F9_p : Pl prog f9 [aS 0 [.int .i64, .slice, .slice], lS 1] F9_5 := fun R =>
  pc 3 (rest [lS 1, iS 5, iS 6] (F9_3 R) (bk 0 (rest [lS 1, iS 5] (F9_1 R) lf) (lp [iS 5, iS 6] [lS 1, iS 5, iS 6] (F9_2 R) rnil fun J1 => lf)))
theorem F9_calls (n0_0 : Int) (l0_1 l0_2 l1 : SV) (w : World) (R : Rt) (h : F9_5 R n0_0 l0_1 l0_2 l1 [] w) : Calls prog 9 #[.agg #[.int .i64 n0_0, .slice l0_1.a l0_1.len l0_1.cap, .slice l0_2.a l0_2.len l0_2.cap], .slice l1.a l1.len l1.cap] w R :=
  plC F9_p func9 h
end Go.Proofs.YtcihcbfcgjepfaaGreatDoor

/- Shallow texts of functions, printed by program, each checked by the kernel against the loaded code. No condition. -/
set_option maxRecDepth 100000
set_option linter.unusedVariables false
namespace Go.Proofs.YtcihcbfcgjepfaaGreatDoor
open Go.Sh Tryz
def F3_1 (R : Rt) (p14 : Option Addr) (n15 : Int) (p16 : Option Addr) (n17 : Int) (p22 p24 : Option Addr) (b229 : Bool) (ds : Ds) (w : World) : Prop :=
 Br b229 (
 runD prog ds w fun w1 =>
 R (.returned (.bool false)) w1) (
 Br (n15 == 0) (
 ptrE p22 fun a2 =>
 ∃ n233_0, w.cell? (a2.add 0) = some (.int .i64 n233_0) /\
 ∃ n233_1, w.cell? (a2.add 1) = some (.int .i64 n233_1) /\
 ∃ s233_2, w.cell? (a2.add 2) = some (.string s233_2) /\
 ptrE p14 fun a3 =>
 ∃ n234_0, w.cell? (a3.add 0) = some (.int .i64 n234_0) /\
 ∃ n234_1, w.cell? (a3.add 1) = some (.int .i64 n234_1) /\
 ∃ s234_2, w.cell? (a3.add 2) = some (.string s234_2) /\
 Calls prog 19 #[.agg #[.int .i64 n233_0, .int .i64 n233_1, .string s233_2], .agg #[.int .i64 n234_0, .int .i64 n234_1, .string s234_2]] w fun e w4 =>
 ∃ b235 : Bool, e = .returned (.bool b235) /\
 Br (!b235) (
 runD prog ds w4 fun w5 =>
 R (.returned (.bool false)) w5) (
 Br (n17 == 0) (
 ptrE p24 fun a6 =>
 ∃ n242_0, w4.cell? (a6.add 0) = some (.int .i64 n242_0) /\
 ∃ n242_1, w4.cell? (a6.add 1) = some (.int .i64 n242_1) /\
 ∃ s242_2, w4.cell? (a6.add 2) = some (.string s242_2) /\
 ptrE p16 fun a7 =>
 ∃ n243_0, w4.cell? (a7.add 0) = some (.int .i64 n243_0) /\
 ∃ n243_1, w4.cell? (a7.add 1) = some (.int .i64 n243_1) /\
 ∃ s243_2, w4.cell? (a7.add 2) = some (.string s243_2) /\
 Calls prog 19 #[.agg #[.int .i64 n242_0, .int .i64 n242_1, .string s242_2], .agg #[.int .i64 n243_0, .int .i64 n243_1, .string s243_2]] w4 fun e w8 =>
 ∃ b244 : Bool, e = .returned (.bool b244) /\
 Br (!b244) (
 runD prog ds w8 fun w9 =>
 R (.returned (.bool false)) w9) (
 Calls prog 10 #[] w8 fun e w10 =>
 ∃ b248 : Bool, e = .returned (.bool b248) /\
 runD prog ds w10 fun w11 =>
 R (.returned (.bool b248)) w11)) (
 Calls prog 10 #[] w4 fun e w12 =>
 ∃ b248 : Bool, e = .returned (.bool b248) /\
 runD prog ds w12 fun w13 =>
 R (.returned (.bool b248)) w13))) (
 Br (n17 == 0) (
 ptrE p24 fun a14 =>
 ∃ n242_0, w.cell? (a14.add 0) = some (.int .i64 n242_0) /\
 ∃ n242_1, w.cell? (a14.add 1) = some (.int .i64 n242_1) /\
 ∃ s242_2, w.cell? (a14.add 2) = some (.string s242_2) /\
 ptrE p16 fun a15 =>
 ∃ n243_0, w.cell? (a15.add 0) = some (.int .i64 n243_0) /\
 ∃ n243_1, w.cell? (a15.add 1) = some (.int .i64 n243_1) /\
 ∃ s243_2, w.cell? (a15.add 2) = some (.string s243_2) /\
 Calls prog 19 #[.agg #[.int .i64 n242_0, .int .i64 n242_1, .string s242_2], .agg #[.int .i64 n243_0, .int .i64 n243_1, .string s243_2]] w fun e w16 =>
 ∃ b244 : Bool, e = .returned (.bool b244) /\
 Br (!b244) (
 runD prog ds w16 fun w17 =>
 R (.returned (.bool false)) w17) (
 Calls prog 10 #[] w16 fun e w18 =>
 ∃ b248 : Bool, e = .returned (.bool b248) /\
 runD prog ds w18 fun w19 =>
 R (.returned (.bool b248)) w19)) (
 Calls prog 10 #[] w fun e w20 =>
 ∃ b248 : Bool, e = .returned (.bool b248) /\
 runD prog ds w20 fun w21 =>
 R (.returned (.bool b248)) w21)))
def F3_2 (R : Rt) (p5 p7 : Option Addr) (n9 : Int) (p12 p13 p14 : Option Addr) (n15 : Int) (p16 : Option Addr) (n17 : Int) (ds : Ds) (w : World) : Prop :=
 ptrE p12 fun a22 =>
 ∃ s174, w.cell? a22 = some (.string s174) /\
 ptrE p5 fun a23 =>
 0 <= (0 : Int) /\ (0 : Int) < (2 : Int) /\
 ∃ n176_0, w.cell? ((a23.add ((0 : Int).toNat * 3)).add 0) = some (.int .i64 n176_0) /\
 ∃ n176_1, w.cell? ((a23.add ((0 : Int).toNat * 3)).add 1) = some (.int .i64 n176_1) /\
 ∃ s176_2, w.cell? ((a23.add ((0 : Int).toNat * 3)).add 2) = some (.string s176_2) /\
 Calls prog 16 #[.pointer p7, .int .i64 0, .string s174, .agg #[.int .i64 n176_0, .int .i64 n176_1, .string s176_2]] w fun e w24 =>
 ∃ n177 : Int, e = .returned (.int .i64 n177) /\
 Br (n177 != n15) (
 runD prog ds w24 fun w25 =>
 R (.returned (.bool false)) w25) (
 ptrE p13 fun a26 =>
 ∃ s183, w24.cell? a26 = some (.string s183) /\
 ptrE p5 fun a27 =>
 0 <= (1 : Int) /\ (1 : Int) < (2 : Int) /\
 ∃ n185_0, w24.cell? ((a27.add ((1 : Int).toNat * 3)).add 0) = some (.int .i64 n185_0) /\
 ∃ n185_1, w24.cell? ((a27.add ((1 : Int).toNat * 3)).add 1) = some (.int .i64 n185_1) /\
 ∃ s185_2, w24.cell? ((a27.add ((1 : Int).toNat * 3)).add 2) = some (.string s185_2) /\
 Calls prog 16 #[.pointer p7, .int .i64 1, .string s183, .agg #[.int .i64 n185_0, .int .i64 n185_1, .string s185_2]] w24 fun e w28 =>
 ∃ n186 : Int, e = .returned (.int .i64 n186) /\
 Br (n186 != n17) (
 runD prog ds w28 fun w29 =>
 R (.returned (.bool false)) w29) (
 Calls prog 17 #[.pointer p7, .int .i64 1, .bool false] w28 fun e w30 =>
 ∃ l192_0 : SV, ∃ n192_1 : Int, e = .returned (.tuple #[.slice l192_0.a l192_0.len l192_0.cap, .int .i64 n192_1]) /\
 Calls prog 17 #[.pointer p7, .int .i64 0, .bool false] w30 fun e w31 =>
 ∃ l197_0 : SV, ∃ n197_1 : Int, e = .returned (.tuple #[.slice l197_0.a l197_0.len l197_0.cap, .int .i64 n197_1]) /\
 ptrE p12 fun a32 =>
 ∃ s204, w31.cell? a32 = some (.string s204) /\
 Calls prog 18 #[.pointer p7, .int .i64 n9, .string s204] w31 fun e w33 =>
 ∃ n205_0_0 : Int, ∃ n205_0_1 : Int, ∃ s205_0_2 : ByteArray, ∃ n205_1 : Int, e = .returned (.tuple #[.agg #[.int .i64 n205_0_0, .int .i64 n205_0_1, .string s205_0_2], .int .i64 n205_1]) /\
 alE (.cells #[.int .i64 0, .int .i64 0, .string (⟨#[]⟩ : ByteArray)] 28) w33 fun r22 w34 =>
 stA prog 28 (⟨r22, 0, none⟩ : Addr) #[.int .i64 n205_0_0, .int .i64 n205_0_1, .string s205_0_2] w34 fun w35 =>
 ptrE p13 fun a36 =>
 ∃ s212, w35.cell? a36 = some (.string s212) /\
 Calls prog 18 #[.pointer p7, .int .i64 n9, .string s212] w35 fun e w37 =>
 ∃ n213_0_0 : Int, ∃ n213_0_1 : Int, ∃ s213_0_2 : ByteArray, ∃ n213_1 : Int, e = .returned (.tuple #[.agg #[.int .i64 n213_0_0, .int .i64 n213_0_1, .string s213_0_2], .int .i64 n213_1]) /\
 alE (.cells #[.int .i64 0, .int .i64 0, .string (⟨#[]⟩ : ByteArray)] 28) w37 fun r24 w38 =>
 stA prog 28 (⟨r24, 0, none⟩ : Addr) #[.int .i64 n213_0_0, .int .i64 n213_0_1, .string s213_0_2] w38 fun w39 =>
 Br (n192_1 != 0) (
 F3_1 R p14 n15 p16 n17 (some (⟨r22, 0, none⟩ : Addr)) (some (⟨r24, 0, none⟩ : Addr)) true ds w39) (
 Br (n197_1 != 0) (
 F3_1 R p14 n15 p16 n17 (some (⟨r22, 0, none⟩ : Addr)) (some (⟨r24, 0, none⟩ : Addr)) true ds w39) (
 Br (n205_1 != 0) (
 F3_1 R p14 n15 p16 n17 (some (⟨r22, 0, none⟩ : Addr)) (some (⟨r24, 0, none⟩ : Addr)) true ds w39) (
 F3_1 R p14 n15 p16 n17 (some (⟨r22, 0, none⟩ : Addr)) (some (⟨r24, 0, none⟩ : Addr)) (n213_1 != 0) ds w39)))))
def F3_3 (R : Rt) (p3 p4 p5 p7 : Option Addr) (n8 : Int) (b63 : Bool) (ds : Ds) (w : World) : Prop :=
 Br b63 (
 ptrE p3 fun a40 =>
 ∃ n65_0, w.cell? (a40.add 0) = some (.int .i64 n65_0) /\
 ∃ l65_1 : SV, w.cell? (a40.add 1) = some (.slice l65_1.a l65_1.len l65_1.cap) /\
 ∃ l65_2 : SV, w.cell? (a40.add 2) = some (.slice l65_2.a l65_2.len l65_2.cap) /\
 Calls prog 12 #[.agg #[.int .i64 n65_0, .slice l65_1.a l65_1.len l65_1.cap, .slice l65_2.a l65_2.len l65_2.cap]] w fun e w41 =>
 ∃ n66 : Int, e = .returned (.int .i64 n66) /\
 Br (n8 == n66) (
 Calls prog 10 #[] w41 fun e w42 =>
 ∃ b69 : Bool, e = .returned (.bool b69) /\
 runD prog ds w42 fun w43 =>
 R (.returned (.bool b69)) w43) (
 runD prog ds w41 fun w44 =>
 R (.returned (.bool false)) w44)) (
 dwE w fun w45 =>
 ptrE p4 fun a46 =>
 0 <= (0 : Int) /\ (0 : Int) < (3 : Int) /\
 ∃ n72, w45.cell? (a46.add ((0 : Int).toNat * 1)) = some (.int .i64 n72) /\
 ptrE p3 fun a47 =>
 ∃ l74 : SV, w45.cell? (a47.add 2) = some (.slice l74.a l74.len l74.cap) /\
 IntKind.i64 = IntKind.i64 /\ ((l74.len : Int) : Int) ≠ 0 /\
 ptrE p3 fun a48 =>
 ∃ l78 : SV, w45.cell? (a48.add 2) = some (.slice l78.a l78.len l78.cap) /\
 ptrE p3 fun a49 =>
 ∃ l82 : SV, w45.cell? (a49.add 2) = some (.slice l82.a l82.len l82.cap) /\
 IntKind.i64 = IntKind.i64 /\ ((l82.len : Int) : Int) ≠ 0 /\
 dwE w45 fun w50 =>
 ptrE p4 fun a51 =>
 0 <= (1 : Int) /\ (1 : Int) < (3 : Int) /\
 ∃ n87, w50.cell? (a51.add ((1 : Int).toNat * 1)) = some (.int .i64 n87) /\
 ptrE p3 fun a52 =>
 ∃ l89 : SV, w50.cell? (a52.add 1) = some (.slice l89.a l89.len l89.cap) /\
 IntKind.i64 = IntKind.i64 /\ ((l89.len : Int) : Int) ≠ 0 /\
 ptrE p3 fun a53 =>
 ∃ l93 : SV, w50.cell? (a53.add 1) = some (.slice l93.a l93.len l93.cap) /\
 ptrE p3 fun a54 =>
 ∃ l97 : SV, w50.cell? (a54.add 1) = some (.slice l97.a l97.len l97.cap) /\
 IntKind.i64 = IntKind.i64 /\ ((l97.len : Int) : Int) ≠ 0 /\
 dwE w50 fun w55 =>
 ptrE p4 fun a56 =>
 0 <= (2 : Int) /\ (2 : Int) < (3 : Int) /\
 ∃ n103, w55.cell? (a56.add ((2 : Int).toNat * 1)) = some (.int .i64 n103) /\
 ptrE p3 fun a57 =>
 ∃ l105 : SV, w55.cell? (a57.add 1) = some (.slice l105.a l105.len l105.cap) /\
 IntKind.i64 = IntKind.i64 /\ ((IntKind.i64.wrap ((l105.len : Int) - 1)) : Int) ≠ 0 /\
 ptrE p3 fun a58 =>
 ∃ l110 : SV, w55.cell? (a58.add 1) = some (.slice l110.a l110.len l110.cap) /\
 ptrE p3 fun a59 =>
 ∃ l115 : SV, w55.cell? (a59.add 1) = some (.slice l115.a l115.len l115.cap) /\
 IntKind.i64 = IntKind.i64 /\ ((IntKind.i64.wrap ((l115.len : Int) - 1)) : Int) ≠ 0 /\
 ptrE p3 fun a60 =>
 ∃ l121 : SV, w55.cell? (a60.add 1) = some (.slice l121.a l121.len l121.cap) /\
 IntKind.i64 = IntKind.i64 /\ ((l121.len : Int) : Int) ≠ 0 /\
 dwE w55 fun w61 =>
 ∃ S4 : World -> Prop, S4 w61 /\
 ptrE p3 fun a62 =>
 ∃ l125 : SV, (∀ w', S4 w' -> w'.cell? (a62.add 1) = some (.slice l125.a l125.len l125.cap)) /\
 ∃ a63, l125.a = some a63 /\ 0 <= ((IntKind.i64.wrap ((n87.tmod (l89.len : Int)) + (l93.len : Int))).tmod (l97.len : Int)) /\ ((IntKind.i64.wrap ((n87.tmod (l89.len : Int)) + (l93.len : Int))).tmod (l97.len : Int)) < (l125.len : Int) /\
 ∃ s128_0, (∀ w', S4 w' -> w'.cell? ((a63.add (((IntKind.i64.wrap ((n87.tmod (l89.len : Int)) + (l93.len : Int))).tmod (l97.len : Int)).toNat * 4)).add 0) = some (.string s128_0)) /\
 ∃ n128_1, (∀ w', S4 w' -> w'.cell? ((a63.add (((IntKind.i64.wrap ((n87.tmod (l89.len : Int)) + (l93.len : Int))).tmod (l97.len : Int)).toNat * 4)).add 1) = some (.int .i64 n128_1)) /\
 ∃ n128_2, (∀ w', S4 w' -> w'.cell? ((a63.add (((IntKind.i64.wrap ((n87.tmod (l89.len : Int)) + (l93.len : Int))).tmod (l97.len : Int)).toNat * 4)).add 2) = some (.int .i64 n128_2)) /\
 ∃ b128_3, (∀ w', S4 w' -> w'.cell? ((a63.add (((IntKind.i64.wrap ((n87.tmod (l89.len : Int)) + (l93.len : Int))).tmod (l97.len : Int)).toNat * 4)).add 3) = some (.bool b128_3)) /\
 ptrE p3 fun a64 =>
 ∃ l130 : SV, (∀ w', S4 w' -> w'.cell? (a64.add 1) = some (.slice l130.a l130.len l130.cap)) /\
 ∃ a65, l130.a = some a65 /\ 0 <= ((IntKind.i64.wrap ((IntKind.i64.wrap (((IntKind.i64.wrap ((n87.tmod (l89.len : Int)) + (l93.len : Int))).tmod (l97.len : Int)) + 1)) + ((IntKind.i64.wrap ((IntKind.i64.wrap ((n103.tmod (IntKind.i64.wrap ((l105.len : Int) - 1))) + (l110.len : Int))) - 1)).tmod (IntKind.i64.wrap ((l115.len : Int) - 1))))).tmod (l121.len : Int)) /\ ((IntKind.i64.wrap ((IntKind.i64.wrap (((IntKind.i64.wrap ((n87.tmod (l89.len : Int)) + (l93.len : Int))).tmod (l97.len : Int)) + 1)) + ((IntKind.i64.wrap ((IntKind.i64.wrap ((n103.tmod (IntKind.i64.wrap ((l105.len : Int) - 1))) + (l110.len : Int))) - 1)).tmod (IntKind.i64.wrap ((l115.len : Int) - 1))))).tmod (l121.len : Int)) < (l130.len : Int) /\
 ∃ s133_0, (∀ w', S4 w' -> w'.cell? ((a65.add (((IntKind.i64.wrap ((IntKind.i64.wrap (((IntKind.i64.wrap ((n87.tmod (l89.len : Int)) + (l93.len : Int))).tmod (l97.len : Int)) + 1)) + ((IntKind.i64.wrap ((IntKind.i64.wrap ((n103.tmod (IntKind.i64.wrap ((l105.len : Int) - 1))) + (l110.len : Int))) - 1)).tmod (IntKind.i64.wrap ((l115.len : Int) - 1))))).tmod (l121.len : Int)).toNat * 4)).add 0) = some (.string s133_0)) /\
 ∃ n133_1, (∀ w', S4 w' -> w'.cell? ((a65.add (((IntKind.i64.wrap ((IntKind.i64.wrap (((IntKind.i64.wrap ((n87.tmod (l89.len : Int)) + (l93.len : Int))).tmod (l97.len : Int)) + 1)) + ((IntKind.i64.wrap ((IntKind.i64.wrap ((n103.tmod (IntKind.i64.wrap ((l105.len : Int) - 1))) + (l110.len : Int))) - 1)).tmod (IntKind.i64.wrap ((l115.len : Int) - 1))))).tmod (l121.len : Int)).toNat * 4)).add 1) = some (.int .i64 n133_1)) /\
 ∃ n133_2, (∀ w', S4 w' -> w'.cell? ((a65.add (((IntKind.i64.wrap ((IntKind.i64.wrap (((IntKind.i64.wrap ((n87.tmod (l89.len : Int)) + (l93.len : Int))).tmod (l97.len : Int)) + 1)) + ((IntKind.i64.wrap ((IntKind.i64.wrap ((n103.tmod (IntKind.i64.wrap ((l105.len : Int) - 1))) + (l110.len : Int))) - 1)).tmod (IntKind.i64.wrap ((l115.len : Int) - 1))))).tmod (l121.len : Int)).toNat * 4)).add 2) = some (.int .i64 n133_2)) /\
 ∃ b133_3, (∀ w', S4 w' -> w'.cell? ((a65.add (((IntKind.i64.wrap ((IntKind.i64.wrap (((IntKind.i64.wrap ((n87.tmod (l89.len : Int)) + (l93.len : Int))).tmod (l97.len : Int)) + 1)) + ((IntKind.i64.wrap ((IntKind.i64.wrap ((n103.tmod (IntKind.i64.wrap ((l105.len : Int) - 1))) + (l110.len : Int))) - 1)).tmod (IntKind.i64.wrap ((l115.len : Int) - 1))))).tmod (l121.len : Int)).toNat * 4)).add 3) = some (.bool b133_3)) /\
 (
 alE (.cells #[.string (⟨#[]⟩ : ByteArray), .int .i64 0, .int .i64 0, .bool false] 38) w61 fun r12 w66 =>
 S4 w66 /\
 alE (.cells #[.string (⟨#[]⟩ : ByteArray), .int .i64 0, .int .i64 0, .bool false] 38) w66 fun r13 w67 =>
 S4 w67 /\
 stA prog 38 (⟨r12, 0, none⟩ : Addr) #[.string s128_0, .int .i64 n128_1, .int .i64 n128_2, .bool b128_3] w67 fun w68 =>
 S4 w68 /\
 stA prog 38 (⟨r13, 0, none⟩ : Addr) #[.string s133_0, .int .i64 n133_1, .int .i64 n133_2, .bool b133_3] w68 fun w69 =>
 ∃ s135_0, w69.cell? ((⟨r12, 0, none⟩ : Addr).add 0) = some (.string s135_0) /\
 ∃ n135_1, w69.cell? ((⟨r12, 0, none⟩ : Addr).add 1) = some (.int .i64 n135_1) /\
 ∃ n135_2, w69.cell? ((⟨r12, 0, none⟩ : Addr).add 2) = some (.int .i64 n135_2) /\
 ∃ b135_3, w69.cell? ((⟨r12, 0, none⟩ : Addr).add 3) = some (.bool b135_3) /\
 ptrE p3 fun a70 =>
 ∃ n137, w69.cell? a70 = some (.int .i64 n137) /\
 ptrE p5 fun a71 =>
 0 <= (0 : Int) /\ (0 : Int) < (2 : Int) /\
 ∃ n139_0, w69.cell? ((a71.add ((0 : Int).toNat * 3)).add 0) = some (.int .i64 n139_0) /\
 ∃ n139_1, w69.cell? ((a71.add ((0 : Int).toNat * 3)).add 1) = some (.int .i64 n139_1) /\
 ∃ s139_2, w69.cell? ((a71.add ((0 : Int).toNat * 3)).add 2) = some (.string s139_2) /\
 Calls prog 13 #[.agg #[.string s135_0, .int .i64 n135_1, .int .i64 n135_2, .bool b135_3], .int .i64 n137, .agg #[.int .i64 n139_0, .int .i64 n139_1, .string s139_2]] w69 fun e w72 =>
 ∃ n140_0_0 : Int, ∃ n140_0_1 : Int, ∃ s140_0_2 : ByteArray, ∃ n140_1 : Int, e = .returned (.tuple #[.agg #[.int .i64 n140_0_0, .int .i64 n140_0_1, .string s140_0_2], .int .i64 n140_1]) /\
 alE (.cells #[.int .i64 0, .int .i64 0, .string (⟨#[]⟩ : ByteArray)] 28) w72 fun r14 w73 =>
 stA prog 28 (⟨r14, 0, none⟩ : Addr) #[.int .i64 n140_0_0, .int .i64 n140_0_1, .string s140_0_2] w73 fun w74 =>
 ∃ s144_0, w74.cell? ((⟨r13, 0, none⟩ : Addr).add 0) = some (.string s144_0) /\
 ∃ n144_1, w74.cell? ((⟨r13, 0, none⟩ : Addr).add 1) = some (.int .i64 n144_1) /\
 ∃ n144_2, w74.cell? ((⟨r13, 0, none⟩ : Addr).add 2) = some (.int .i64 n144_2) /\
 ∃ b144_3, w74.cell? ((⟨r13, 0, none⟩ : Addr).add 3) = some (.bool b144_3) /\
 ptrE p3 fun a75 =>
 ∃ n146, w74.cell? a75 = some (.int .i64 n146) /\
 ptrE p5 fun a76 =>
 0 <= (1 : Int) /\ (1 : Int) < (2 : Int) /\
 ∃ n148_0, w74.cell? ((a76.add ((1 : Int).toNat * 3)).add 0) = some (.int .i64 n148_0) /\
 ∃ n148_1, w74.cell? ((a76.add ((1 : Int).toNat * 3)).add 1) = some (.int .i64 n148_1) /\
 ∃ s148_2, w74.cell? ((a76.add ((1 : Int).toNat * 3)).add 2) = some (.string s148_2) /\
 Calls prog 13 #[.agg #[.string s144_0, .int .i64 n144_1, .int .i64 n144_2, .bool b144_3], .int .i64 n146, .agg #[.int .i64 n148_0, .int .i64 n148_1, .string s148_2]] w74 fun e w77 =>
 ∃ n149_0_0 : Int, ∃ n149_0_1 : Int, ∃ s149_0_2 : ByteArray, ∃ n149_1 : Int, e = .returned (.tuple #[.agg #[.int .i64 n149_0_0, .int .i64 n149_0_1, .string s149_0_2], .int .i64 n149_1]) /\
 alE (.cells #[.int .i64 0, .int .i64 0, .string (⟨#[]⟩ : ByteArray)] 28) w77 fun r16 w78 =>
 stA prog 28 (⟨r16, 0, none⟩ : Addr) #[.int .i64 n149_0_0, .int .i64 n149_0_1, .string s149_0_2] w78 fun w79 =>
 Calls prog 14 #[.pointer p7, .int .i64 0, .int .i64 2] w79 fun e w80 =>
 ∃ n153 : Int, e = .returned (.int .i64 n153) /\
 Br (n153 != 0) (
 runD prog ds w80 fun w81 =>
 R (.returned (.bool false)) w81) (
 Calls prog 14 #[.pointer p7, .int .i64 1, .int .i64 4] w80 fun e w82 =>
 ∃ n157 : Int, e = .returned (.int .i64 n157) /\
 Br (n157 != 0) (
 runD prog ds w82 fun w83 =>
 R (.returned (.bool false)) w83) (
 Calls prog 15 #[.pointer p7, .int .i64 0, .int .i64 (IntKind.i64.wrap (((IntKind.i64.wrap ((n72.tmod (l74.len : Int)) + (l78.len : Int))).tmod (l82.len : Int)) + 1))] w82 fun e w84 =>
 ∃ n163 : Int, e = .returned (.int .i64 n163) /\
 Br (n163 != 0) (
 runD prog ds w84 fun w85 =>
 R (.returned (.bool false)) w85) (
 Calls prog 15 #[.pointer p7, .int .i64 1, .int .i64 (IntKind.i64.wrap (((IntKind.i64.wrap ((n72.tmod (l74.len : Int)) + (l78.len : Int))).tmod (l82.len : Int)) + 1))] w84 fun e w86 =>
 ∃ n169 : Int, e = .returned (.int .i64 n169) /\
 Br (n169 != 0) (
 runD prog ds w86 fun w87 =>
 R (.returned (.bool false)) w87) (
 F3_2 R p5 p7 (IntKind.i64.wrap (((IntKind.i64.wrap ((n72.tmod (l74.len : Int)) + (l78.len : Int))).tmod (l82.len : Int)) + 1)) (some (⟨r12, 0, none⟩ : Addr)) (some (⟨r13, 0, none⟩ : Addr)) (some (⟨r14, 0, none⟩ : Addr)) n140_1 (some (⟨r16, 0, none⟩ : Addr)) n149_1 ds w86))))) /\ (
 alE (.cells #[.string (⟨#[]⟩ : ByteArray), .int .i64 0, .int .i64 0, .bool false] 38) w61 fun r13 w88 =>
 S4 w88 /\
 alE (.cells #[.string (⟨#[]⟩ : ByteArray), .int .i64 0, .int .i64 0, .bool false] 38) w88 fun r12 w89 =>
 S4 w89 /\
 stA prog 38 (⟨r12, 0, none⟩ : Addr) #[.string s128_0, .int .i64 n128_1, .int .i64 n128_2, .bool b128_3] w89 fun w90 =>
 S4 w90 /\
 stA prog 38 (⟨r13, 0, none⟩ : Addr) #[.string s133_0, .int .i64 n133_1, .int .i64 n133_2, .bool b133_3] w90 fun w91 =>
 ∃ s135_0, w91.cell? ((⟨r12, 0, none⟩ : Addr).add 0) = some (.string s135_0) /\
 ∃ n135_1, w91.cell? ((⟨r12, 0, none⟩ : Addr).add 1) = some (.int .i64 n135_1) /\
 ∃ n135_2, w91.cell? ((⟨r12, 0, none⟩ : Addr).add 2) = some (.int .i64 n135_2) /\
 ∃ b135_3, w91.cell? ((⟨r12, 0, none⟩ : Addr).add 3) = some (.bool b135_3) /\
 ptrE p3 fun a92 =>
 ∃ n137, w91.cell? a92 = some (.int .i64 n137) /\
 ptrE p5 fun a93 =>
 0 <= (0 : Int) /\ (0 : Int) < (2 : Int) /\
 ∃ n139_0, w91.cell? ((a93.add ((0 : Int).toNat * 3)).add 0) = some (.int .i64 n139_0) /\
 ∃ n139_1, w91.cell? ((a93.add ((0 : Int).toNat * 3)).add 1) = some (.int .i64 n139_1) /\
 ∃ s139_2, w91.cell? ((a93.add ((0 : Int).toNat * 3)).add 2) = some (.string s139_2) /\
 Calls prog 13 #[.agg #[.string s135_0, .int .i64 n135_1, .int .i64 n135_2, .bool b135_3], .int .i64 n137, .agg #[.int .i64 n139_0, .int .i64 n139_1, .string s139_2]] w91 fun e w94 =>
 ∃ n140_0_0 : Int, ∃ n140_0_1 : Int, ∃ s140_0_2 : ByteArray, ∃ n140_1 : Int, e = .returned (.tuple #[.agg #[.int .i64 n140_0_0, .int .i64 n140_0_1, .string s140_0_2], .int .i64 n140_1]) /\
 alE (.cells #[.int .i64 0, .int .i64 0, .string (⟨#[]⟩ : ByteArray)] 28) w94 fun r14 w95 =>
 stA prog 28 (⟨r14, 0, none⟩ : Addr) #[.int .i64 n140_0_0, .int .i64 n140_0_1, .string s140_0_2] w95 fun w96 =>
 ∃ s144_0, w96.cell? ((⟨r13, 0, none⟩ : Addr).add 0) = some (.string s144_0) /\
 ∃ n144_1, w96.cell? ((⟨r13, 0, none⟩ : Addr).add 1) = some (.int .i64 n144_1) /\
 ∃ n144_2, w96.cell? ((⟨r13, 0, none⟩ : Addr).add 2) = some (.int .i64 n144_2) /\
 ∃ b144_3, w96.cell? ((⟨r13, 0, none⟩ : Addr).add 3) = some (.bool b144_3) /\
 ptrE p3 fun a97 =>
 ∃ n146, w96.cell? a97 = some (.int .i64 n146) /\
 ptrE p5 fun a98 =>
 0 <= (1 : Int) /\ (1 : Int) < (2 : Int) /\
 ∃ n148_0, w96.cell? ((a98.add ((1 : Int).toNat * 3)).add 0) = some (.int .i64 n148_0) /\
 ∃ n148_1, w96.cell? ((a98.add ((1 : Int).toNat * 3)).add 1) = some (.int .i64 n148_1) /\
 ∃ s148_2, w96.cell? ((a98.add ((1 : Int).toNat * 3)).add 2) = some (.string s148_2) /\
 Calls prog 13 #[.agg #[.string s144_0, .int .i64 n144_1, .int .i64 n144_2, .bool b144_3], .int .i64 n146, .agg #[.int .i64 n148_0, .int .i64 n148_1, .string s148_2]] w96 fun e w99 =>
 ∃ n149_0_0 : Int, ∃ n149_0_1 : Int, ∃ s149_0_2 : ByteArray, ∃ n149_1 : Int, e = .returned (.tuple #[.agg #[.int .i64 n149_0_0, .int .i64 n149_0_1, .string s149_0_2], .int .i64 n149_1]) /\
 alE (.cells #[.int .i64 0, .int .i64 0, .string (⟨#[]⟩ : ByteArray)] 28) w99 fun r16 w100 =>
 stA prog 28 (⟨r16, 0, none⟩ : Addr) #[.int .i64 n149_0_0, .int .i64 n149_0_1, .string s149_0_2] w100 fun w101 =>
 Calls prog 14 #[.pointer p7, .int .i64 0, .int .i64 2] w101 fun e w102 =>
 ∃ n153 : Int, e = .returned (.int .i64 n153) /\
 Br (n153 != 0) (
 runD prog ds w102 fun w103 =>
 R (.returned (.bool false)) w103) (
 Calls prog 14 #[.pointer p7, .int .i64 1, .int .i64 4] w102 fun e w104 =>
 ∃ n157 : Int, e = .returned (.int .i64 n157) /\
 Br (n157 != 0) (
 runD prog ds w104 fun w105 =>
 R (.returned (.bool false)) w105) (
 Calls prog 15 #[.pointer p7, .int .i64 0, .int .i64 (IntKind.i64.wrap (((IntKind.i64.wrap ((n72.tmod (l74.len : Int)) + (l78.len : Int))).tmod (l82.len : Int)) + 1))] w104 fun e w106 =>
 ∃ n163 : Int, e = .returned (.int .i64 n163) /\
 Br (n163 != 0) (
 runD prog ds w106 fun w107 =>
 R (.returned (.bool false)) w107) (
 Calls prog 15 #[.pointer p7, .int .i64 1, .int .i64 (IntKind.i64.wrap (((IntKind.i64.wrap ((n72.tmod (l74.len : Int)) + (l78.len : Int))).tmod (l82.len : Int)) + 1))] w106 fun e w108 =>
 ∃ n169 : Int, e = .returned (.int .i64 n169) /\
 Br (n169 != 0) (
 runD prog ds w108 fun w109 =>
 R (.returned (.bool false)) w109) (
 F3_2 R p5 p7 (IntKind.i64.wrap (((IntKind.i64.wrap ((n72.tmod (l74.len : Int)) + (l78.len : Int))).tmod (l82.len : Int)) + 1)) (some (⟨r12, 0, none⟩ : Addr)) (some (⟨r13, 0, none⟩ : Addr)) (some (⟨r14, 0, none⟩ : Addr)) n140_1 (some (⟨r16, 0, none⟩ : Addr)) n149_1 ds w108))))))
def F3_4 (R : Rt) (p3 p4 p5 p7 : Option Addr) (n8 : Int) (ds : Ds) (w : World) : Prop :=
 Br (n8 != 0) (
 F3_3 R p3 p4 p5 p7 n8 true ds w) (
 ∃ b50 : Bool, ∃ w110, (eqS .eql 32 (.tmp 49) (.const (.pointer none)) (.pointer p7) (.pointer none)).run prog w = .ok (.bool b50) w110 /\
 Br b50 (
 F3_3 R p3 p4 p5 p7 n8 true ds w110) (
 ptrE p3 fun a111 =>
 ∃ l54 : SV, w110.cell? (a111.add 2) = some (.slice l54.a l54.len l54.cap) /\
 Br ((l54.len : Int) == 0) (
 F3_3 R p3 p4 p5 p7 n8 true ds w110) (
 ptrE p3 fun a112 =>
 ∃ l60 : SV, w110.cell? (a112.add 1) = some (.slice l60.a l60.len l60.cap) /\
 F3_3 R p3 p4 p5 p7 n8 (decide ((l60.len : Int) < 2)) ds w110)))
def F3_5 (R : Rt) (n0_0 : Int) (l0_1 l0_2 : SV) (n1_0 n1_1 n1_2 n2_0 n2_1 : Int) (s2_2 : ByteArray) (n2_3 n2_4 : Int) (s2_5 : ByteArray) (ds : Ds) (w : World) : Prop :=
 alE (.cells #[.int .i64 n0_0, .slice l0_1.a l0_1.len l0_1.cap, .slice l0_2.a l0_2.len l0_2.cap] 25) w fun r3 w113 =>
 alE (.cells #[.int .i64 n1_0, .int .i64 n1_1, .int .i64 n1_2] 26) w113 fun r4 w114 =>
 alE (.cells #[.int .i64 n2_0, .int .i64 n2_1, .string s2_2, .int .i64 n2_3, .int .i64 n2_4, .string s2_5] 29) w114 fun r5 w115 =>
 ∃ n26_0, w115.cell? ((⟨r3, 0, none⟩ : Addr).add 0) = some (.int .i64 n26_0) /\
 ∃ l26_1 : SV, w115.cell? ((⟨r3, 0, none⟩ : Addr).add 1) = some (.slice l26_1.a l26_1.len l26_1.cap) /\
 ∃ l26_2 : SV, w115.cell? ((⟨r3, 0, none⟩ : Addr).add 2) = some (.slice l26_2.a l26_2.len l26_2.cap) /\
 Calls prog 9 #[.agg #[.int .i64 n26_0, .slice l26_1.a l26_1.len l26_1.cap, .slice l26_2.a l26_2.len l26_2.cap], .slice none 0 0] w115 fun e w116 =>
 ∃ b27 : Bool, e = .returned (.bool b27) /\
 Br b27 (
 Calls prog 10 #[] w116 fun e w117 =>
 ∃ b40 : Bool, e = .returned (.bool b40) /\
 runD prog ds w117 fun w118 =>
 R (.returned (.bool b40)) w118) (
 0 <= (0 : Int) /\ (0 : Int) < (2 : Int) /\
 ∃ s31, w116.cell? (((⟨r5, 0, none⟩ : Addr).add ((0 : Int).toNat * 3)).add 2) = some (.string s31) /\
 0 <= (1 : Int) /\ (1 : Int) < (2 : Int) /\
 ∃ s35, w116.cell? (((⟨r5, 0, none⟩ : Addr).add ((1 : Int).toNat * 3)).add 2) = some (.string s35) /\
 Br (decide ((IntKind.i64.wrap ((s31.size : Int) + (s35.size : Int))) > 2000000)) (
 Calls prog 10 #[] w116 fun e w119 =>
 ∃ b40 : Bool, e = .returned (.bool b40) /\
 runD prog ds w119 fun w120 =>
 R (.returned (.bool b40)) w120) (
 ∃ n42_0, w116.cell? ((⟨r3, 0, none⟩ : Addr).add 0) = some (.int .i64 n42_0) /\
 ∃ l42_1 : SV, w116.cell? ((⟨r3, 0, none⟩ : Addr).add 1) = some (.slice l42_1.a l42_1.len l42_1.cap) /\
 ∃ l42_2 : SV, w116.cell? ((⟨r3, 0, none⟩ : Addr).add 2) = some (.slice l42_2.a l42_2.len l42_2.cap) /\
 Calls prog 11 #[.agg #[.int .i64 n42_0, .slice l42_1.a l42_1.len l42_1.cap, .slice l42_2.a l42_2.len l42_2.cap]] w116 fun e w121 =>
 ∃ p43_0 : Option Addr, ∃ n43_1 : Int, e = .returned (.tuple #[.pointer p43_0, .int .i64 n43_1]) /\
 F3_4 R (some (⟨r3, 0, none⟩ : Addr)) (some (⟨r4, 0, none⟩ : Addr)) (some (⟨r5, 0, none⟩ : Addr)) p43_0 n43_1 ds w121))
theorem F3_p : Pl prog f3 [aS 0 [.int .i64, .slice, .slice], aS 1 [.int .i64, .int .i64, .int .i64], aS 2 [.int .i64, .int .i64, .str, .int .i64, .int .i64, .str]] F3_5 := fun R =>
  pc 4 (rest [pS 3, pS 4, pS 5, pS 7, iS 8] (F3_4 R) (pc 1 (rest [pS 3, pS 4, pS 5, pS 7, iS 8, bS 63] (F3_3 R) (pc 9 (rest [pS 5, pS 7, iS 9, pS 12, pS 13, pS 14, iS 15, pS 16, iS 17] (F3_2 R) (pc 7 (rest [pS 14, iS 15, pS 16, iS 17, pS 22, pS 24, bS 229] (F3_1 R) lf)))))))
theorem F3_calls (n0_0 : Int) (l0_1 l0_2 : SV) (n1_0 n1_1 n1_2 n2_0 n2_1 : Int) (s2_2 : ByteArray) (n2_3 n2_4 : Int) (s2_5 : ByteArray) (w : World) (R : Rt) (h : F3_5 R n0_0 l0_1 l0_2 n1_0 n1_1 n1_2 n2_0 n2_1 s2_2 n2_3 n2_4 s2_5 [] w) : Calls prog 3 #[.agg #[.int .i64 n0_0, .slice l0_1.a l0_1.len l0_1.cap, .slice l0_2.a l0_2.len l0_2.cap], .agg #[.int .i64 n1_0, .int .i64 n1_1, .int .i64 n1_2], .agg #[.int .i64 n2_0, .int .i64 n2_1, .string s2_2, .int .i64 n2_3, .int .i64 n2_4, .string s2_5]] w R :=
  plC F3_p func3 h
end Go.Proofs.YtcihcbfcgjepfaaGreatDoor
