import Derived.Test.YtnigfiljenfgjaaGreatProg
import Derived.Test.YtnigfiljenfgjaaGreatShTwentyEight
/- Shallow texts of functions, printed by program, each checked by the kernel against the loaded code. No condition. -/
set_option maxRecDepth 100000
set_option linter.unusedVariables false
namespace Go.Proofs.YtnigfiljenfgjaaGreat
open Go.Sh Tryz
def F7_1 (R : Rt) (l0 : SV) (n3 : Int) (ds : Ds) (w : World) : Prop :=
 Br (decide (n3 > 100000)) (
 runD prog ds w fun w1 =>
 R (.returned (.bool true)) w1) (
 runD prog ds w fun w2 =>
 R (.returned (.bool (decide ((l0.len : Int) > 200)))) w2)
def F7_2 (R : Rt) (J1 : (Int × Int) -> World -> Prop) (l0 : SV) (n3 n4 : Int) (ds : Ds) (w : World) : Prop :=
 Br (decide (n4 < (l0.len : Int))) (
 dwE w fun w3 =>
 ∃ a4, l0.a = some a4 /\ 0 <= n4 /\ n4 < (l0.len : Int) /\
 ∃ s16, w3.cell? ((a4.add (n4.toNat * 6)).add 4) = some (.string s16) /\
 ∃ a5, l0.a = some a5 /\ 0 <= n4 /\ n4 < (l0.len : Int) /\
 ∃ s22, w3.cell? ((a5.add (n4.toNat * 6)).add 5) = some (.string s22) /\
 J1 ((IntKind.i64.wrap (n3 + (IntKind.i64.wrap ((s16.size : Int) + (s22.size : Int))))), (IntKind.i64.wrap (n4 + 1))) w3) (
 F7_1 R l0 n3 ds w)
def F7_3 (R : Rt) (l0 : SV) (n3 n4 : Int) (ds : Ds) (w : World) : Prop :=
 loopT (fun (J1 : (Int × Int) -> World -> Prop) (s : Int × Int) (w : World) => F7_2 R J1 l0 s.1 s.2 ds w) (n3, n4) w
def F7_5 (R : Rt) (l0 : SV) (ds : Ds) (w : World) : Prop :=
 F7_3 R l0 0 0 ds w
theorem F7_p : Pl prog f7 [lS 0] F7_5 := fun R =>
  pc 3 (rest [lS 0, iS 3, iS 4] (F7_3 R) (bk 0 (rest [lS 0, iS 3] (F7_1 R) lf) (lp [iS 3, iS 4] [lS 0, iS 3, iS 4] (F7_2 R) rnil fun J1 => lf)))
theorem F7_calls (l0 : SV) (w : World) (R : Rt) (h : F7_5 R l0 [] w) : Calls prog 7 #[.slice l0.a l0.len l0.cap] w R :=
  plC F7_p func7 h
def F11_1 (R : Rt) (p0 p1 : Option Addr) (n2_0 n2_1 n2_2 n2_3 : Int) (s2_4 s2_5 : ByteArray) (ds : Ds) (w : World) : Prop :=
 alE (.cells #[.int .i64 n2_0, .int .i64 n2_1, .int .i64 n2_2, .int .i64 n2_3, .string s2_4, .string s2_5] 31) w fun r5 w1 =>
 ∃ n29, w1.cell? (⟨r5, 0, none⟩ : Addr) = some (.int .i64 n29) /\
 IntKind.i64 = IntKind.i64 /\ (13 : Int) ≠ 0 /\
 IntKind.i64 = IntKind.i64 /\ (13 : Int) ≠ 0 /\
 Br (((IntKind.i64.wrap ((n29.tmod 13) + 13)).tmod 13) == 5) (
 ∃ n39, w1.cell? ((⟨r5, 0, none⟩ : Addr).add 1) = some (.int .i64 n39) /\
 ∃ s41, w1.cell? ((⟨r5, 0, none⟩ : Addr).add 4) = some (.string s41) /\
 ∃ n43, w1.cell? ((⟨r5, 0, none⟩ : Addr).add 2) = some (.int .i64 n43) /\
 ∃ n45, w1.cell? ((⟨r5, 0, none⟩ : Addr).add 3) = some (.int .i64 n45) /\
 Calls prog 13 #[.pointer p0, .int .i64 n39, .string s41, .int .i64 n43, .int .i64 n45] w1 fun e w2 =>
 ∃ l46_0 : SV, ∃ n46_1 : Int, e = .returned (.tuple #[.slice l46_0.a l46_0.len l46_0.cap, .int .i64 n46_1]) /\
 ∃ n52, w2.cell? ((⟨r5, 0, none⟩ : Addr).add 1) = some (.int .i64 n52) /\
 ∃ s54, w2.cell? ((⟨r5, 0, none⟩ : Addr).add 4) = some (.string s54) /\
 ∃ n56, w2.cell? ((⟨r5, 0, none⟩ : Addr).add 2) = some (.int .i64 n56) /\
 ∃ n58, w2.cell? ((⟨r5, 0, none⟩ : Addr).add 3) = some (.int .i64 n58) /\
 Calls prog 28 #[.pointer p1, .int .i64 n52, .string s54, .int .i64 n56, .int .i64 n58] w2 fun e w3 =>
 ∃ l59_0 : SV, ∃ n59_1 : Int, e = .returned (.tuple #[.slice l59_0.a l59_0.len l59_0.cap, .int .i64 n59_1]) /\
 ∃ s63 : ByteArray, ∃ w4, (convert 36 9 (.slice l46_0.a l46_0.len l46_0.cap)).run prog w3 = .ok (.string s63) w4 /\
 ∃ s65 : ByteArray, ∃ w5, (convert 36 9 (.slice l59_0.a l59_0.len l59_0.cap)).run prog w4 = .ok (.string s65) w5 /\
 Br (s63.toList == s65.toList) (
 runD prog ds w5 fun w6 =>
 R (.returned (.bool (n46_1 == n59_1))) w6) (
 runD prog ds w5 fun w7 =>
 R (.returned (.bool false)) w7)) (
 Br (((IntKind.i64.wrap ((n29.tmod 13) + 13)).tmod 13) == 6) (
 dwE w1 fun w8 =>
 ∃ S1 : World -> Prop, S1 w8 /\
 ∃ n76, (∀ w', S1 w' -> w'.cell? ((⟨r5, 0, none⟩ : Addr).add 1) = some (.int .i64 n76)) /\
 ∃ s78, (∀ w', S1 w' -> w'.cell? ((⟨r5, 0, none⟩ : Addr).add 4) = some (.string s78)) /\
 ∃ n80, (∀ w', S1 w' -> w'.cell? ((⟨r5, 0, none⟩ : Addr).add 2) = some (.int .i64 n80)) /\
 ∃ s82, (∀ w', S1 w' -> w'.cell? ((⟨r5, 0, none⟩ : Addr).add 5) = some (.string s82)) /\
 ∃ n87, (∀ w', S1 w' -> w'.cell? ((⟨r5, 0, none⟩ : Addr).add 1) = some (.int .i64 n87)) /\
 ∃ s89, (∀ w', S1 w' -> w'.cell? ((⟨r5, 0, none⟩ : Addr).add 4) = some (.string s89)) /\
 ∃ n91, (∀ w', S1 w' -> w'.cell? ((⟨r5, 0, none⟩ : Addr).add 2) = some (.int .i64 n91)) /\
 ∃ s93, (∀ w', S1 w' -> w'.cell? ((⟨r5, 0, none⟩ : Addr).add 5) = some (.string s93)) /\
 (
 ∃ l83 : SV, ∃ w9, (convert 9 36 (.string s82)).run prog w8 = .ok (.slice l83.a l83.len l83.cap) w9 /\
 S1 w9 /\
 (
 Calls prog 25 #[.pointer p0, .int .i64 n76, .string s78, .int .i64 n80, .slice l83.a l83.len l83.cap] w9 fun e w10 =>
 ∃ n84 : Int, e = .returned (.int .i64 n84) /\
 S1 w10 /\
 ∃ l94 : SV, ∃ w11, (convert 9 36 (.string s93)).run prog w10 = .ok (.slice l94.a l94.len l94.cap) w11 /\
 S1 w11 /\
 Calls prog 29 #[.pointer p1, .int .i64 n87, .string s89, .int .i64 n91, .slice l94.a l94.len l94.cap] w11 fun e w12 =>
 ∃ n95 : Int, e = .returned (.int .i64 n95) /\
 runD prog ds w12 fun w13 =>
 R (.returned (.bool (n84 == n95))) w13) /\ (
 ∃ l94 : SV, ∃ w14, (convert 9 36 (.string s93)).run prog w9 = .ok (.slice l94.a l94.len l94.cap) w14 /\
 S1 w14 /\
 Calls prog 25 #[.pointer p0, .int .i64 n76, .string s78, .int .i64 n80, .slice l83.a l83.len l83.cap] w14 fun e w15 =>
 ∃ n84 : Int, e = .returned (.int .i64 n84) /\
 S1 w15 /\
 Calls prog 29 #[.pointer p1, .int .i64 n87, .string s89, .int .i64 n91, .slice l94.a l94.len l94.cap] w15 fun e w16 =>
 ∃ n95 : Int, e = .returned (.int .i64 n95) /\
 runD prog ds w16 fun w17 =>
 R (.returned (.bool (n84 == n95))) w17)) /\ (
 ∃ l94 : SV, ∃ w18, (convert 9 36 (.string s93)).run prog w8 = .ok (.slice l94.a l94.len l94.cap) w18 /\
 S1 w18 /\
 ∃ l83 : SV, ∃ w19, (convert 9 36 (.string s82)).run prog w18 = .ok (.slice l83.a l83.len l83.cap) w19 /\
 S1 w19 /\
 Calls prog 25 #[.pointer p0, .int .i64 n76, .string s78, .int .i64 n80, .slice l83.a l83.len l83.cap] w19 fun e w20 =>
 ∃ n84 : Int, e = .returned (.int .i64 n84) /\
 S1 w20 /\
 Calls prog 29 #[.pointer p1, .int .i64 n87, .string s89, .int .i64 n91, .slice l94.a l94.len l94.cap] w20 fun e w21 =>
 ∃ n95 : Int, e = .returned (.int .i64 n95) /\
 runD prog ds w21 fun w22 =>
 R (.returned (.bool (n84 == n95))) w22)) (
 Br (((IntKind.i64.wrap ((n29.tmod 13) + 13)).tmod 13) == 7) (
 dwE w1 fun w23 =>
 ∃ S2 : World -> Prop, S2 w23 /\
 ∃ n101, (∀ w', S2 w' -> w'.cell? ((⟨r5, 0, none⟩ : Addr).add 1) = some (.int .i64 n101)) /\
 ∃ s103, (∀ w', S2 w' -> w'.cell? ((⟨r5, 0, none⟩ : Addr).add 4) = some (.string s103)) /\
 ∃ n105, (∀ w', S2 w' -> w'.cell? ((⟨r5, 0, none⟩ : Addr).add 2) = some (.int .i64 n105)) /\
 ∃ n107, (∀ w', S2 w' -> w'.cell? ((⟨r5, 0, none⟩ : Addr).add 3) = some (.int .i64 n107)) /\
 ∃ n111, (∀ w', S2 w' -> w'.cell? ((⟨r5, 0, none⟩ : Addr).add 1) = some (.int .i64 n111)) /\
 ∃ s113, (∀ w', S2 w' -> w'.cell? ((⟨r5, 0, none⟩ : Addr).add 4) = some (.string s113)) /\
 ∃ n115, (∀ w', S2 w' -> w'.cell? ((⟨r5, 0, none⟩ : Addr).add 2) = some (.int .i64 n115)) /\
 ∃ n117, (∀ w', S2 w' -> w'.cell? ((⟨r5, 0, none⟩ : Addr).add 3) = some (.int .i64 n117)) /\
 Calls prog 27 #[.pointer p0, .int .i64 n101, .string s103, .int .i64 n105, .int .i64 n107] w23 fun e w24 =>
 ∃ n108 : Int, e = .returned (.int .i64 n108) /\
 S2 w24 /\
 Calls prog 30 #[.pointer p1, .int .i64 n111, .string s113, .int .i64 n115, .int .i64 n117] w24 fun e w25 =>
 ∃ n118 : Int, e = .returned (.int .i64 n118) /\
 runD prog ds w25 fun w26 =>
 R (.returned (.bool (n108 == n118))) w26) (
 Br (((IntKind.i64.wrap ((n29.tmod 13) + 13)).tmod 13) == 8) (
 dwE w1 fun w27 =>
 ∃ S3 : World -> Prop, S3 w27 /\
 ∃ n124, (∀ w', S3 w' -> w'.cell? ((⟨r5, 0, none⟩ : Addr).add 1) = some (.int .i64 n124)) /\
 ∃ s126, (∀ w', S3 w' -> w'.cell? ((⟨r5, 0, none⟩ : Addr).add 4) = some (.string s126)) /\
 ∃ n128, (∀ w', S3 w' -> w'.cell? ((⟨r5, 0, none⟩ : Addr).add 2) = some (.int .i64 n128)) /\
 ∃ n130, (∀ w', S3 w' -> w'.cell? ((⟨r5, 0, none⟩ : Addr).add 3) = some (.int .i64 n130)) /\
 ∃ n134, (∀ w', S3 w' -> w'.cell? ((⟨r5, 0, none⟩ : Addr).add 1) = some (.int .i64 n134)) /\
 ∃ s136, (∀ w', S3 w' -> w'.cell? ((⟨r5, 0, none⟩ : Addr).add 4) = some (.string s136)) /\
 ∃ n138, (∀ w', S3 w' -> w'.cell? ((⟨r5, 0, none⟩ : Addr).add 2) = some (.int .i64 n138)) /\
 ∃ n140, (∀ w', S3 w' -> w'.cell? ((⟨r5, 0, none⟩ : Addr).add 3) = some (.int .i64 n140)) /\
 Calls prog 31 #[.pointer p0, .int .i64 n124, .string s126, .int .i64 n128, .int .i64 n130] w27 fun e w28 =>
 ∃ n131 : Int, e = .returned (.int .i64 n131) /\
 S3 w28 /\
 Calls prog 32 #[.pointer p1, .int .i64 n134, .string s136, .int .i64 n138, .int .i64 n140] w28 fun e w29 =>
 ∃ n141 : Int, e = .returned (.int .i64 n141) /\
 runD prog ds w29 fun w30 =>
 R (.returned (.bool (n131 == n141))) w30) (
 Br (((IntKind.i64.wrap ((n29.tmod 13) + 13)).tmod 13) == 9) (
 ∃ n148, w1.cell? ((⟨r5, 0, none⟩ : Addr).add 1) = some (.int .i64 n148) /\
 ∃ s150, w1.cell? ((⟨r5, 0, none⟩ : Addr).add 4) = some (.string s150) /\
 Calls prog 26 #[.pointer p0, .int .i64 n148, .string s150] w1 fun e w31 =>
 ∃ n151_0 : Int, ∃ n151_1 : Int, e = .returned (.tuple #[.int .i64 n151_0, .int .i64 n151_1]) /\
 ∃ n157, w31.cell? ((⟨r5, 0, none⟩ : Addr).add 1) = some (.int .i64 n157) /\
 ∃ s159, w31.cell? ((⟨r5, 0, none⟩ : Addr).add 4) = some (.string s159) /\
 Calls prog 33 #[.pointer p1, .int .i64 n157, .string s159] w31 fun e w32 =>
 ∃ n160_0 : Int, ∃ n160_1 : Int, e = .returned (.tuple #[.int .i64 n160_0, .int .i64 n160_1]) /\
 Br (n151_0 == n160_0) (
 runD prog ds w32 fun w33 =>
 R (.returned (.bool (n151_1 == n160_1))) w33) (
 runD prog ds w32 fun w34 =>
 R (.returned (.bool false)) w34)) (
 Br (((IntKind.i64.wrap ((n29.tmod 13) + 13)).tmod 13) == 10) (
 ∃ n176, w1.cell? ((⟨r5, 0, none⟩ : Addr).add 1) = some (.int .i64 n176) /\
 ∃ s178, w1.cell? ((⟨r5, 0, none⟩ : Addr).add 4) = some (.string s178) /\
 Calls prog 34 #[.pointer p0, .int .i64 n176, .string s178] w1 fun e w35 =>
 ∃ n179_0 : Int, ∃ n179_1 : Int, e = .returned (.tuple #[.int .i64 n179_0, .int .i64 n179_1]) /\
 ∃ n185, w35.cell? ((⟨r5, 0, none⟩ : Addr).add 1) = some (.int .i64 n185) /\
 ∃ s187, w35.cell? ((⟨r5, 0, none⟩ : Addr).add 4) = some (.string s187) /\
 Calls prog 35 #[.pointer p1, .int .i64 n185, .string s187] w35 fun e w36 =>
 ∃ n188_0 : Int, ∃ n188_1 : Int, e = .returned (.tuple #[.int .i64 n188_0, .int .i64 n188_1]) /\
 Br (n179_0 == n188_0) (
 runD prog ds w36 fun w37 =>
 R (.returned (.bool (n179_1 == n188_1))) w37) (
 runD prog ds w36 fun w38 =>
 R (.returned (.bool false)) w38)) (
 Br (((IntKind.i64.wrap ((n29.tmod 13) + 13)).tmod 13) == 11) (
 ∃ n204, w1.cell? ((⟨r5, 0, none⟩ : Addr).add 1) = some (.int .i64 n204) /\
 Calls prog 14 #[.pointer p0, .int .i64 n204] w1 fun e w39 =>
 ∃ n205_0 : Int, ∃ n205_1 : Int, e = .returned (.tuple #[.int .i64 n205_0, .int .i64 n205_1]) /\
 ∃ n211, w39.cell? ((⟨r5, 0, none⟩ : Addr).add 1) = some (.int .i64 n211) /\
 Calls prog 36 #[.pointer p1, .int .i64 n211] w39 fun e w40 =>
 ∃ n212_0 : Int, ∃ n212_1 : Int, e = .returned (.tuple #[.int .i64 n212_0, .int .i64 n212_1]) /\
 Br (n205_0 == n212_0) (
 runD prog ds w40 fun w41 =>
 R (.returned (.bool (n205_1 == n212_1))) w41) (
 runD prog ds w40 fun w42 =>
 R (.returned (.bool false)) w42)) (
 Br (((IntKind.i64.wrap ((n29.tmod 13) + 13)).tmod 13) == 12) (
 ∃ n228, w1.cell? ((⟨r5, 0, none⟩ : Addr).add 1) = some (.int .i64 n228) /\
 ∃ s230, w1.cell? ((⟨r5, 0, none⟩ : Addr).add 4) = some (.string s230) /\
 Calls prog 37 #[.pointer p0, .int .i64 n228, .string s230] w1 fun e w43 =>
 ∃ l231_0 : SV, ∃ n231_1 : Int, e = .returned (.tuple #[.slice l231_0.a l231_0.len l231_0.cap, .int .i64 n231_1]) /\
 ∃ n237, w43.cell? ((⟨r5, 0, none⟩ : Addr).add 1) = some (.int .i64 n237) /\
 ∃ s239, w43.cell? ((⟨r5, 0, none⟩ : Addr).add 4) = some (.string s239) /\
 Calls prog 38 #[.pointer p1, .int .i64 n237, .string s239] w43 fun e w44 =>
 ∃ l240_0 : SV, ∃ n240_1 : Int, e = .returned (.tuple #[.slice l240_0.a l240_0.len l240_0.cap, .int .i64 n240_1]) /\
 Calls prog 39 #[.slice l231_0.a l231_0.len l231_0.cap, .slice l240_0.a l240_0.len l240_0.cap] w44 fun e w45 =>
 ∃ b245 : Bool, e = .returned (.bool b245) /\
 Br b245 (
 runD prog ds w45 fun w46 =>
 R (.returned (.bool (n231_1 == n240_1))) w46) (
 runD prog ds w45 fun w47 =>
 R (.returned (.bool false)) w47)) (
 ∃ n254_0, w1.cell? ((⟨r5, 0, none⟩ : Addr).add 0) = some (.int .i64 n254_0) /\
 ∃ n254_1, w1.cell? ((⟨r5, 0, none⟩ : Addr).add 1) = some (.int .i64 n254_1) /\
 ∃ n254_2, w1.cell? ((⟨r5, 0, none⟩ : Addr).add 2) = some (.int .i64 n254_2) /\
 ∃ n254_3, w1.cell? ((⟨r5, 0, none⟩ : Addr).add 3) = some (.int .i64 n254_3) /\
 ∃ s254_4, w1.cell? ((⟨r5, 0, none⟩ : Addr).add 4) = some (.string s254_4) /\
 ∃ s254_5, w1.cell? ((⟨r5, 0, none⟩ : Addr).add 5) = some (.string s254_5) /\
 Calls prog 40 #[.pointer p0, .pointer p1, .int .i64 ((IntKind.i64.wrap ((n29.tmod 13) + 13)).tmod 13), .agg #[.int .i64 n254_0, .int .i64 n254_1, .int .i64 n254_2, .int .i64 n254_3, .string s254_4, .string s254_5]] w1 fun e w48 =>
 ∃ b255 : Bool, e = .returned (.bool b255) /\
 runD prog ds w48 fun w49 =>
 R (.returned (.bool b255)) w49))))))))
theorem F11_p : Pl prog f11 [pS 0, pS 1, aS 2 [.int .i64, .int .i64, .int .i64, .int .i64, .str, .str]] F11_1 := fun R =>
  lf
theorem F11_calls (p0 p1 : Option Addr) (n2_0 n2_1 n2_2 n2_3 : Int) (s2_4 s2_5 : ByteArray) (w : World) (R : Rt) (h : F11_1 R p0 p1 n2_0 n2_1 n2_2 n2_3 s2_4 s2_5 [] w) : Calls prog 11 #[.pointer p0, .pointer p1, .agg #[.int .i64 n2_0, .int .i64 n2_1, .int .i64 n2_2, .int .i64 n2_3, .string s2_4, .string s2_5]] w R :=
  plC F11_p func11 h
def F40_1 (R : Rt) (p0 p1 : Option Addr) (n2 n3_0 n3_1 n3_2 n3_3 : Int) (s3_4 s3_5 : ByteArray) (ds : Ds) (w : World) : Prop :=
 alE (.cells #[.int .i64 n3_0, .int .i64 n3_1, .int .i64 n3_2, .int .i64 n3_3, .string s3_4, .string s3_5] 31) w fun r7 w1 =>
 Br (n2 == 0) (
 dwE w1 fun w2 =>
 ∃ S1 : World -> Prop, S1 w2 /\
 ∃ s22, (∀ w', S1 w' -> w'.cell? ((⟨r7, 0, none⟩ : Addr).add 4) = some (.string s22)) /\
 ∃ s26, (∀ w', S1 w' -> w'.cell? ((⟨r7, 0, none⟩ : Addr).add 4) = some (.string s26)) /\
 Calls prog 16 #[.pointer p0, .string s22] w2 fun e w3 =>
 ∃ n23 : Int, e = .returned (.int .i64 n23) /\
 S1 w3 /\
 Calls prog 86 #[.pointer p1, .string s26] w3 fun e w4 =>
 ∃ n27 : Int, e = .returned (.int .i64 n27) /\
 runD prog ds w4 fun w5 =>
 R (.returned (.bool (n23 == n27))) w5) (
 Br (n2 == 1) (
 dwE w1 fun w6 =>
 ∃ S2 : World -> Prop, S2 w6 /\
 ∃ s33, (∀ w', S2 w' -> w'.cell? ((⟨r7, 0, none⟩ : Addr).add 4) = some (.string s33)) /\
 ∃ s37, (∀ w', S2 w' -> w'.cell? ((⟨r7, 0, none⟩ : Addr).add 4) = some (.string s37)) /\
 Calls prog 87 #[.pointer p0, .string s33] w6 fun e w7 =>
 ∃ n34 : Int, e = .returned (.int .i64 n34) /\
 S2 w7 /\
 Calls prog 88 #[.pointer p1, .string s37] w7 fun e w8 =>
 ∃ n38 : Int, e = .returned (.int .i64 n38) /\
 runD prog ds w8 fun w9 =>
 R (.returned (.bool (n34 == n38))) w9) (
 Br (n2 == 2) (
 dwE w1 fun w10 =>
 ∃ S3 : World -> Prop, S3 w10 /\
 ∃ s44, (∀ w', S3 w' -> w'.cell? ((⟨r7, 0, none⟩ : Addr).add 4) = some (.string s44)) /\
 ∃ n46, (∀ w', S3 w' -> w'.cell? ((⟨r7, 0, none⟩ : Addr).add 2) = some (.int .i64 n46)) /\
 ∃ s50, (∀ w', S3 w' -> w'.cell? ((⟨r7, 0, none⟩ : Addr).add 4) = some (.string s50)) /\
 ∃ n52, (∀ w', S3 w' -> w'.cell? ((⟨r7, 0, none⟩ : Addr).add 2) = some (.int .i64 n52)) /\
 Calls prog 24 #[.pointer p0, .string s44, .int .i64 n46] w10 fun e w11 =>
 ∃ n47 : Int, e = .returned (.int .i64 n47) /\
 S3 w11 /\
 Calls prog 89 #[.pointer p1, .string s50, .int .i64 n52] w11 fun e w12 =>
 ∃ n53 : Int, e = .returned (.int .i64 n53) /\
 runD prog ds w12 fun w13 =>
 R (.returned (.bool (n47 == n53))) w13) (
 Br (n2 == 3) (
 ∃ s60, w1.cell? ((⟨r7, 0, none⟩ : Addr).add 4) = some (.string s60) /\
 Calls prog 90 #[.pointer p0, .string s60] w1 fun e w14 =>
 ∃ n61_0 : Int, ∃ n61_1 : Int, e = .returned (.tuple #[.int .i64 n61_0, .int .i64 n61_1]) /\
 ∃ s67, w14.cell? ((⟨r7, 0, none⟩ : Addr).add 4) = some (.string s67) /\
 Calls prog 12 #[.pointer p1, .string s67] w14 fun e w15 =>
 ∃ n68_0 : Int, ∃ n68_1 : Int, e = .returned (.tuple #[.int .i64 n68_0, .int .i64 n68_1]) /\
 Br (n61_0 == n68_0) (
 runD prog ds w15 fun w16 =>
 R (.returned (.bool (n61_1 == n68_1))) w16) (
 runD prog ds w15 fun w17 =>
 R (.returned (.bool false)) w17)) (
 ∃ s82, w1.cell? ((⟨r7, 0, none⟩ : Addr).add 4) = some (.string s82) /\
 Calls prog 15 #[.pointer p0, .string s82] w1 fun e w18 =>
 ∃ l83_0 : SV, ∃ n83_1 : Int, e = .returned (.tuple #[.slice l83_0.a l83_0.len l83_0.cap, .int .i64 n83_1]) /\
 ∃ s89, w18.cell? ((⟨r7, 0, none⟩ : Addr).add 4) = some (.string s89) /\
 Calls prog 91 #[.pointer p1, .string s89] w18 fun e w19 =>
 ∃ l90_0 : SV, ∃ n90_1 : Int, e = .returned (.tuple #[.slice l90_0.a l90_0.len l90_0.cap, .int .i64 n90_1]) /\
 ∃ s94 : ByteArray, ∃ w20, (convert 36 9 (.slice l83_0.a l83_0.len l83_0.cap)).run prog w19 = .ok (.string s94) w20 /\
 ∃ s96 : ByteArray, ∃ w21, (convert 36 9 (.slice l90_0.a l90_0.len l90_0.cap)).run prog w20 = .ok (.string s96) w21 /\
 Br (s94.toList == s96.toList) (
 runD prog ds w21 fun w22 =>
 R (.returned (.bool (n83_1 == n90_1))) w22) (
 runD prog ds w21 fun w23 =>
 R (.returned (.bool false)) w23)))))
theorem F40_p : Pl prog f40 [pS 0, pS 1, iS 2, aS 3 [.int .i64, .int .i64, .int .i64, .int .i64, .str, .str]] F40_1 := fun R =>
  lf
theorem F40_calls (p0 p1 : Option Addr) (n2 n3_0 n3_1 n3_2 n3_3 : Int) (s3_4 s3_5 : ByteArray) (w : World) (R : Rt) (h : F40_1 R p0 p1 n2 n3_0 n3_1 n3_2 n3_3 s3_4 s3_5 [] w) : Calls prog 40 #[.pointer p0, .pointer p1, .int .i64 n2, .agg #[.int .i64 n3_0, .int .i64 n3_1, .int .i64 n3_2, .int .i64 n3_3, .string s3_4, .string s3_5]] w R :=
  plC F40_p func40 h
end Go.Proofs.YtnigfiljenfgjaaGreat

/- Shallow texts of functions, printed by program, each checked by the kernel against the loaded code. No condition. -/
set_option maxRecDepth 100000
set_option linter.unusedVariables false
namespace Go.Proofs.YtnigfiljenfgjaaGreat
open Go.Sh Tryz
def F22_1 (R : Rt) (p0 p3 : Option Addr) (ds : Ds) (w : World) : Prop :=
 ptrE p0 fun a1 =>
 ∃ l70 : SV, w.cell? (a1.add 5) = some (.slice l70.a l70.len l70.cap) /\
 ∃ l71 : SV, ∃ w2, (Builtin.append_ #[71, 71] 71 #[.slice none 0 0, .slice l70.a l70.len l70.cap]).run prog w = .ok (.slice l71.a l71.len l71.cap) w2 /\
 ptrE p3 fun a3 =>
 st1 (a3.add 5) (.slice l71.a l71.len l71.cap) w2 fun w4 =>
 runD prog ds w4 fun w5 =>
 R (.returned (.pointer p3)) w5
def F22_2 (R : Rt) (J1 : (Int) -> World -> Prop) (p0 p3 : Option Addr) (n4 : Int) (ds : Ds) (w : World) : Prop :=
 J1 (IntKind.i64.wrap (n4 + 1)) w
def F22_3 (R : Rt) (J1 : (Int) -> World -> Prop) (J2 : (Int) -> World -> Prop) (p0 p3 : Option Addr) (n4 : Int) (p5 : Option Addr) (n6 : Int) (ds : Ds) (w : World) : Prop :=
 Br (decide (n6 < 4)) (
 dwE w fun w6 =>
 ptrE p0 fun a7 =>
 0 <= n6 /\ n6 < (4 : Int) /\
 ∃ m49, w6.cell? ((a7.add 1).add (n6.toNat * 1)) = some (.map m49) /\
 ptrE p5 fun a8 =>
 ∃ s51, w6.cell? a8 = some (.string s51) /\
 ∃ l52 : SV, (Instr.lookup 69 (.map m49) (.string s51) false).run prog w6 = .ok (.slice l52.a l52.len l52.cap) w6 /\
 Br (decide ((l52.len : Int) > 0)) (
 dwE w6 fun w9 =>
 ∃ S2 : World -> Prop, S2 w9 /\
 ptrE p3 fun a10 =>
 0 <= n6 /\ n6 < (4 : Int) /\
 ∃ m61, (∀ w', S2 w' -> w'.cell? ((a10.add 1).add (n6.toNat * 1)) = some (.map m61)) /\
 ptrE p5 fun a11 =>
 ∃ s63, (∀ w', S2 w' -> w'.cell? a11 = some (.string s63)) /\
 ∃ l65 : SV, ∃ w12, (Builtin.append_ #[114, 114] 114 #[.slice none 0 0, .slice l52.a l52.len l52.cap]).run prog w9 = .ok (.slice l65.a l65.len l65.cap) w12 /\
 S2 w12 /\
 doE prog (Instr.mapUpdate 69 (.map m61) (.string s63) (.slice l65.a l65.len l65.cap)) w12 fun w13 =>
 J2 (IntKind.i64.wrap (n6 + 1)) w13) (
 J2 (IntKind.i64.wrap (n6 + 1)) w6)) (
 F22_2 R J1 p0 p3 n4 ds w)
def F22_4 (R : Rt) (J1 : (Int) -> World -> Prop) (p0 p3 : Option Addr) (n4 : Int) (p5 : Option Addr) (n6 : Int) (ds : Ds) (w : World) : Prop :=
 loopT (fun (J2 : (Int) -> World -> Prop) (s : Int) (w : World) => F22_3 R J1 J2 p0 p3 n4 p5 s ds w) n6 w
def F22_6 (R : Rt) (J1 : (Int) -> World -> Prop) (p0 p3 : Option Addr) (n4 : Int) (ds : Ds) (w : World) : Prop :=
 ptrE p0 fun a14 =>
 ∃ l21 : SV, w.cell? a14 = some (.slice l21.a l21.len l21.cap) /\
 ∃ a15, l21.a = some a15 /\ 0 <= n4 /\ n4 < (l21.len : Int) /\
 ∃ s24_0, w.cell? ((a15.add (n4.toNat * 2)).add 0) = some (.string s24_0) /\
 ∃ l24_1 : SV, w.cell? ((a15.add (n4.toNat * 2)).add 1) = some (.slice l24_1.a l24_1.len l24_1.cap) /\
 alE (.cells #[.string (⟨#[]⟩ : ByteArray), .slice none 0 0] 80) w fun r5 w16 =>
 stA prog 80 (⟨r5, 0, none⟩ : Addr) #[.string s24_0, .slice l24_1.a l24_1.len l24_1.cap] w16 fun w17 =>
 dwE w17 fun w18 =>
 ∃ S3 : World -> Prop, S3 w18 /\
 ptrE p3 fun a19 =>
 ∃ l29 : SV, (∀ w', S3 w' -> w'.cell? a19 = some (.slice l29.a l29.len l29.cap)) /\
 ∃ s31, (∀ w', S3 w' -> w'.cell? (⟨r5, 0, none⟩ : Addr) = some (.string s31)) /\
 ∃ l33 : SV, (∀ w', S3 w' -> w'.cell? ((⟨r5, 0, none⟩ : Addr).add 1) = some (.slice l33.a l33.len l33.cap)) /\
 ∃ l34 : SV, ∃ w20, (Builtin.append_ #[36, 36] 36 #[.slice none 0 0, .slice l33.a l33.len l33.cap]).run prog w18 = .ok (.slice l34.a l34.len l34.cap) w20 /\
 S3 w20 /\
 alE (.cells #[.string s31, .slice l34.a l34.len l34.cap] 80) w20 fun r36 w21 =>
 S3 w21 /\
 ∃ l37 : SV, ∃ w22, (Builtin.append_ #[68, 68] 68 #[.slice l29.a l29.len l29.cap, .slice (some ⟨r36, 0, none⟩) 1 1]).run prog w21 = .ok (.slice l37.a l37.len l37.cap) w22 /\
 ptrE p3 fun a23 =>
 st1 a23 (.slice l37.a l37.len l37.cap) w22 fun w24 =>
 F22_4 R J1 p0 p3 n4 (some (⟨r5, 0, none⟩ : Addr)) 0 ds w24
def F22_8 (R : Rt) (J1 : (Int) -> World -> Prop) (p0 p3 : Option Addr) (n4 : Int) (ds : Ds) (w : World) : Prop :=
 ptrE p0 fun a25 =>
 ∃ l13 : SV, w.cell? a25 = some (.slice l13.a l13.len l13.cap) /\
 Br (decide (n4 < (l13.len : Int))) (
 F22_6 R J1 p0 p3 n4 ds w) (
 F22_1 R p0 p3 ds w)
def F22_9 (R : Rt) (p0 p3 : Option Addr) (n4 : Int) (ds : Ds) (w : World) : Prop :=
 loopT (fun (J1 : (Int) -> World -> Prop) (s : Int) (w : World) => F22_8 R J1 p0 p3 s ds w) n4 w
def F22_11 (R : Rt) (p0 : Option Addr) (ds : Ds) (w : World) : Prop :=
 Calls prog 10 #[] w fun e w26 =>
 ∃ p8 : Option Addr, e = .returned (.pointer p8) /\
 F22_9 R p0 p8 0 ds w26
theorem F22_p : Pl prog f22 [pS 0] F22_11 := fun R =>
  pc 3 (rest [pS 0, pS 3, iS 4] (F22_9 R) (bk 0 (rest [pS 0, pS 3] (F22_1 R) lf) (lp [iS 4] [pS 0, pS 3, iS 4] (F22_8 R) rnil fun J1 => pc 2 (rest [pS 0, pS 3, iS 4] (F22_6 R J1) (bk 1 (rest [pS 0, pS 3, iS 4] (F22_2 R J1) lf) (pc 3 (rest [pS 0, pS 3, iS 4, pS 5, iS 6] (F22_4 R J1) (bk 2 rnil (lp [iS 6] [pS 0, pS 3, iS 4, pS 5, iS 6] (F22_3 R J1) rnil fun J2 => lf)))))))))
theorem F22_calls (p0 : Option Addr) (w : World) (R : Rt) (h : F22_11 R p0 [] w) : Calls prog 22 #[.pointer p0] w R :=
  plC F22_p func22 h
def F66_1 (R : Rt) (l0 : SV) (n1 : Int) (ds : Ds) (w : World) : Prop :=
 alE (.cells #[.bool false, .bool false, .int .u8 0] 116) w fun r4 w1 =>
 Br (decide (n1 < (l0.len : Int))) (
 ∃ a2, l0.a = some a2 /\ 0 <= n1 /\ n1 < (l0.len : Int) /\
 ∃ b12_0, w1.cell? ((a2.add (n1.toNat * 3)).add 0) = some (.bool b12_0) /\
 ∃ b12_1, w1.cell? ((a2.add (n1.toNat * 3)).add 1) = some (.bool b12_1) /\
 ∃ n12_2, w1.cell? ((a2.add (n1.toNat * 3)).add 2) = some (.int .u8 n12_2) /\
 stA prog 116 (⟨r4, 0, none⟩ : Addr) #[.bool b12_0, .bool b12_1, .int .u8 n12_2] w1 fun w3 =>
 runD prog ds w3 fun w4 =>
 ∃ bR0_0, w4.cell? ((⟨r4, 0, none⟩ : Addr).add 0) = some (.bool bR0_0) /\
 ∃ bR0_1, w4.cell? ((⟨r4, 0, none⟩ : Addr).add 1) = some (.bool bR0_1) /\
 ∃ nR0_2, w4.cell? ((⟨r4, 0, none⟩ : Addr).add 2) = some (.int .u8 nR0_2) /\
 R (.returned (.agg #[.bool bR0_0, .bool bR0_1, .int .u8 nR0_2])) w4) (
 stA prog 116 (⟨r4, 0, none⟩ : Addr) #[.bool false, .bool false, .int .u8 0] w1 fun w5 =>
 runD prog ds w5 fun w6 =>
 ∃ bR0_0, w6.cell? ((⟨r4, 0, none⟩ : Addr).add 0) = some (.bool bR0_0) /\
 ∃ bR0_1, w6.cell? ((⟨r4, 0, none⟩ : Addr).add 1) = some (.bool bR0_1) /\
 ∃ nR0_2, w6.cell? ((⟨r4, 0, none⟩ : Addr).add 2) = some (.int .u8 nR0_2) /\
 R (.returned (.agg #[.bool bR0_0, .bool bR0_1, .int .u8 nR0_2])) w6)
theorem F66_p : Pl prog f66 [lS 0, iS 1] F66_1 := fun R =>
  lf
theorem F66_calls (l0 : SV) (n1 : Int) (w : World) (R : Rt) (h : F66_1 R l0 n1 [] w) : Calls prog 66 #[.slice l0.a l0.len l0.cap, .int .i64 n1] w R :=
  plC F66_p func66 h
def F23_1 (R : Rt) (ds : Ds) (w : World) : Prop :=
 runD prog ds w fun w1 =>
 R (.returned (.bool true)) w1
def F23_2 (R : Rt) (J1 : (Int) -> World -> Prop) (l11 l12 : SV) (n13 : Int) (ds : Ds) (w : World) : Prop :=
 Br (decide (n13 < (l11.len : Int))) (
 dwE w fun w2 =>
 ∃ a3, l11.a = some a3 /\ 0 <= n13 /\ n13 < (l11.len : Int) /\
 ∃ n108_0, w2.cell? ((a3.add (n13.toNat * 4)).add 0) = some (.int .i64 n108_0) /\
 ∃ n108_1, w2.cell? ((a3.add (n13.toNat * 4)).add 1) = some (.int .i64 n108_1) /\
 ∃ n108_2, w2.cell? ((a3.add (n13.toNat * 4)).add 2) = some (.int .i64 n108_2) /\
 ∃ n108_3, w2.cell? ((a3.add (n13.toNat * 4)).add 3) = some (.int .i64 n108_3) /\
 ∃ a4, l12.a = some a4 /\ 0 <= n13 /\ n13 < (l12.len : Int) /\
 ∃ n112_0, w2.cell? ((a4.add (n13.toNat * 4)).add 0) = some (.int .i64 n112_0) /\
 ∃ n112_1, w2.cell? ((a4.add (n13.toNat * 4)).add 1) = some (.int .i64 n112_1) /\
 ∃ n112_2, w2.cell? ((a4.add (n13.toNat * 4)).add 2) = some (.int .i64 n112_2) /\
 ∃ n112_3, w2.cell? ((a4.add (n13.toNat * 4)).add 3) = some (.int .i64 n112_3) /\
 ∃ b113 : Bool, (∀ w, (eqS .neq 103 (.tmp 108) (.tmp 112) (.agg #[.int .i64 n108_0, .int .i64 n108_1, .int .i64 n108_2, .int .i64 n108_3]) (.agg #[.int .i64 n112_0, .int .i64 n112_1, .int .i64 n112_2, .int .i64 n112_3])).run prog w = .ok (.bool b113) w) /\
 Br b113 (
 runD prog ds w2 fun w5 =>
 R (.returned (.bool false)) w5) (
 J1 (IntKind.i64.wrap (n13 + 1)) w2)) (
 F23_1 R ds w)
def F23_3 (R : Rt) (l11 l12 : SV) (n13 : Int) (ds : Ds) (w : World) : Prop :=
 loopT (fun (J1 : (Int) -> World -> Prop) (s : Int) (w : World) => F23_2 R J1 l11 l12 s ds w) n13 w
def F23_5 (R : Rt) (p0 p1 : Option Addr) (ds : Ds) (w : World) : Prop :=
 Calls prog 65 #[.pointer p0] w fun e w6 =>
 ∃ l91 : SV, e = .returned (.slice l91.a l91.len l91.cap) /\
 Calls prog 65 #[.pointer p1] w6 fun e w7 =>
 ∃ l93 : SV, e = .returned (.slice l93.a l93.len l93.cap) /\
 Br ((l91.len : Int) != (l93.len : Int)) (
 runD prog ds w7 fun w8 =>
 R (.returned (.bool false)) w8) (
 F23_3 R l91 l93 0 ds w7)
def F23_6 (R : Rt) (J1 : (Int) -> World -> Prop) (p0 p1 : Option Addr) (n5 : Int) (ds : Ds) (w : World) : Prop :=
 J1 (IntKind.i64.wrap (n5 + 1)) w
def F23_7 (R : Rt) (J1 : (Int) -> World -> Prop) (J2 : (Int) -> World -> Prop) (p0 p1 : Option Addr) (n5 : Int) (p6 : Option Addr) (n7 : Int) (ds : Ds) (w : World) : Prop :=
 J2 (IntKind.i64.wrap (n7 + 1)) w
def F23_8 (R : Rt) (J1 : (Int) -> World -> Prop) (J2 : (Int) -> World -> Prop) (J3 : (Int) -> World -> Prop) (p0 p1 : Option Addr) (n5 : Int) (p6 : Option Addr) (n7 : Int) (l8 l9 : SV) (n10 : Int) (ds : Ds) (w : World) : Prop :=
 Br (decide (n10 < (l8.len : Int))) (
 Calls prog 66 #[.slice l8.a l8.len l8.cap, .int .i64 n10] w fun e w9 =>
 ∃ b85_0 : Bool, ∃ b85_1 : Bool, ∃ n85_2 : Int, e = .returned (.agg #[.bool b85_0, .bool b85_1, .int .u8 n85_2]) /\
 Calls prog 66 #[.slice l9.a l9.len l9.cap, .int .i64 n10] w9 fun e w10 =>
 ∃ b88_0 : Bool, ∃ b88_1 : Bool, ∃ n88_2 : Int, e = .returned (.agg #[.bool b88_0, .bool b88_1, .int .u8 n88_2]) /\
 ∃ b89 : Bool, ∃ w11, (eqS .neq 116 (.tmp 85) (.tmp 88) (.agg #[.bool b85_0, .bool b85_1, .int .u8 n85_2]) (.agg #[.bool b88_0, .bool b88_1, .int .u8 n88_2])).run prog w10 = .ok (.bool b89) w11 /\
 Br b89 (
 runD prog ds w11 fun w12 =>
 R (.returned (.bool false)) w12) (
 J3 (IntKind.i64.wrap (n10 + 1)) w11)) (
 Br (decide (n10 < (l9.len : Int))) (
 Calls prog 66 #[.slice l8.a l8.len l8.cap, .int .i64 n10] w fun e w13 =>
 ∃ b85_0 : Bool, ∃ b85_1 : Bool, ∃ n85_2 : Int, e = .returned (.agg #[.bool b85_0, .bool b85_1, .int .u8 n85_2]) /\
 Calls prog 66 #[.slice l9.a l9.len l9.cap, .int .i64 n10] w13 fun e w14 =>
 ∃ b88_0 : Bool, ∃ b88_1 : Bool, ∃ n88_2 : Int, e = .returned (.agg #[.bool b88_0, .bool b88_1, .int .u8 n88_2]) /\
 ∃ b89 : Bool, ∃ w15, (eqS .neq 116 (.tmp 85) (.tmp 88) (.agg #[.bool b85_0, .bool b85_1, .int .u8 n85_2]) (.agg #[.bool b88_0, .bool b88_1, .int .u8 n88_2])).run prog w14 = .ok (.bool b89) w15 /\
 Br b89 (
 runD prog ds w15 fun w16 =>
 R (.returned (.bool false)) w16) (
 J3 (IntKind.i64.wrap (n10 + 1)) w15)) (
 F23_7 R J1 J2 p0 p1 n5 p6 n7 ds w))
def F23_9 (R : Rt) (J1 : (Int) -> World -> Prop) (J2 : (Int) -> World -> Prop) (p0 p1 : Option Addr) (n5 : Int) (p6 : Option Addr) (n7 : Int) (l8 l9 : SV) (n10 : Int) (ds : Ds) (w : World) : Prop :=
 loopT (fun (J3 : (Int) -> World -> Prop) (s : Int) (w : World) => F23_8 R J1 J2 J3 p0 p1 n5 p6 n7 l8 l9 s ds w) n10 w
def F23_11 (R : Rt) (J1 : (Int) -> World -> Prop) (J2 : (Int) -> World -> Prop) (p0 p1 : Option Addr) (n5 : Int) (p6 : Option Addr) (n7 : Int) (ds : Ds) (w : World) : Prop :=
 dwE w fun w17 =>
 ptrE p0 fun a18 =>
 0 <= n7 /\ n7 < (4 : Int) /\
 ∃ m58, w17.cell? ((a18.add 1).add (n7.toNat * 1)) = some (.map m58) /\
 ptrE p6 fun a19 =>
 ∃ s60, w17.cell? a19 = some (.string s60) /\
 ∃ l61 : SV, (Instr.lookup 69 (.map m58) (.string s60) false).run prog w17 = .ok (.slice l61.a l61.len l61.cap) w17 /\
 ptrE p1 fun a20 =>
 0 <= n7 /\ n7 < (4 : Int) /\
 ∃ m67, w17.cell? ((a20.add 1).add (n7.toNat * 1)) = some (.map m67) /\
 ptrE p6 fun a21 =>
 ∃ s69, w17.cell? a21 = some (.string s69) /\
 ∃ l70 : SV, (Instr.lookup 69 (.map m67) (.string s69) false).run prog w17 = .ok (.slice l70.a l70.len l70.cap) w17 /\
 F23_9 R J1 J2 p0 p1 n5 p6 n7 l61 l70 0 ds w17
def F23_13 (R : Rt) (J1 : (Int) -> World -> Prop) (J2 : (Int) -> World -> Prop) (p0 p1 : Option Addr) (n5 : Int) (p6 : Option Addr) (n7 : Int) (ds : Ds) (w : World) : Prop :=
 Br (decide (n7 < 4)) (
 F23_11 R J1 J2 p0 p1 n5 p6 n7 ds w) (
 F23_6 R J1 p0 p1 n5 ds w)
def F23_14 (R : Rt) (J1 : (Int) -> World -> Prop) (p0 p1 : Option Addr) (n5 : Int) (p6 : Option Addr) (n7 : Int) (ds : Ds) (w : World) : Prop :=
 loopT (fun (J2 : (Int) -> World -> Prop) (s : Int) (w : World) => F23_13 R J1 J2 p0 p1 n5 p6 s ds w) n7 w
def F23_16 (R : Rt) (J1 : (Int) -> World -> Prop) (p0 p1 : Option Addr) (n5 : Int) (ds : Ds) (w : World) : Prop :=
 ptrE p0 fun a22 =>
 ∃ l32 : SV, w.cell? a22 = some (.slice l32.a l32.len l32.cap) /\
 ∃ a23, l32.a = some a23 /\ 0 <= n5 /\ n5 < (l32.len : Int) /\
 ∃ s35_0, w.cell? ((a23.add (n5.toNat * 2)).add 0) = some (.string s35_0) /\
 ∃ l35_1 : SV, w.cell? ((a23.add (n5.toNat * 2)).add 1) = some (.slice l35_1.a l35_1.len l35_1.cap) /\
 alE (.cells #[.string (⟨#[]⟩ : ByteArray), .slice none 0 0] 80) w fun r6 w24 =>
 stA prog 80 (⟨r6, 0, none⟩ : Addr) #[.string s35_0, .slice l35_1.a l35_1.len l35_1.cap] w24 fun w25 =>
 dwE w25 fun w26 =>
 ∃ S3 : World -> Prop, S3 w26 /\
 ∃ l37 : SV, (∀ w', S3 w' -> w'.cell? ((⟨r6, 0, none⟩ : Addr).add 1) = some (.slice l37.a l37.len l37.cap)) /\
 ptrE p1 fun a27 =>
 ∃ l42 : SV, (∀ w', S3 w' -> w'.cell? a27 = some (.slice l42.a l42.len l42.cap)) /\
 ∃ a28, l42.a = some a28 /\ 0 <= n5 /\ n5 < (l42.len : Int) /\
 ∃ l46 : SV, (∀ w', S3 w' -> w'.cell? ((a28.add (n5.toNat * 2)).add 1) = some (.slice l46.a l46.len l46.cap)) /\
 (
 ∃ s38 : ByteArray, ∃ w29, (convert 36 9 (.slice l37.a l37.len l37.cap)).run prog w26 = .ok (.string s38) w29 /\
 S3 w29 /\
 ∃ s47 : ByteArray, ∃ w30, (convert 36 9 (.slice l46.a l46.len l46.cap)).run prog w29 = .ok (.string s47) w30 /\
 S3 w30 /\
 Br (!(s38.toList == s47.toList)) (
 runD prog ds w30 fun w31 =>
 R (.returned (.bool false)) w31) (
 F23_14 R J1 p0 p1 n5 (some (⟨r6, 0, none⟩ : Addr)) 0 ds w30)) /\ (
 ∃ s47 : ByteArray, ∃ w32, (convert 36 9 (.slice l46.a l46.len l46.cap)).run prog w26 = .ok (.string s47) w32 /\
 S3 w32 /\
 ∃ s38 : ByteArray, ∃ w33, (convert 36 9 (.slice l37.a l37.len l37.cap)).run prog w32 = .ok (.string s38) w33 /\
 S3 w33 /\
 Br (!(s38.toList == s47.toList)) (
 runD prog ds w33 fun w34 =>
 R (.returned (.bool false)) w34) (
 F23_14 R J1 p0 p1 n5 (some (⟨r6, 0, none⟩ : Addr)) 0 ds w33))
def F23_18 (R : Rt) (J1 : (Int) -> World -> Prop) (p0 p1 : Option Addr) (n5 : Int) (ds : Ds) (w : World) : Prop :=
 ptrE p0 fun a35 =>
 ∃ l24 : SV, w.cell? a35 = some (.slice l24.a l24.len l24.cap) /\
 Br (decide (n5 < (l24.len : Int))) (
 F23_16 R J1 p0 p1 n5 ds w) (
 F23_5 R p0 p1 ds w)
def F23_19 (R : Rt) (p0 p1 : Option Addr) (n5 : Int) (ds : Ds) (w : World) : Prop :=
 loopT (fun (J1 : (Int) -> World -> Prop) (s : Int) (w : World) => F23_18 R J1 p0 p1 s ds w) n5 w
def F23_21 (R : Rt) (p0 p1 : Option Addr) (ds : Ds) (w : World) : Prop :=
 Calls prog 63 #[.pointer p0] w fun e w36 =>
 ∃ l15 : SV, e = .returned (.slice l15.a l15.len l15.cap) /\
 Calls prog 63 #[.pointer p1] w36 fun e w37 =>
 ∃ l17 : SV, e = .returned (.slice l17.a l17.len l17.cap) /\
 Calls prog 64 #[.slice l15.a l15.len l15.cap, .slice l17.a l17.len l17.cap] w37 fun e w38 =>
 ∃ b18 : Bool, e = .returned (.bool b18) /\
 Br (!b18) (
 runD prog ds w38 fun w39 =>
 R (.returned (.bool false)) w39) (
 F23_19 R p0 p1 0 ds w38)
theorem F23_p : Pl prog f23 [pS 0, pS 1] F23_21 := fun R =>
  pc 4 (rest [pS 0, pS 1, iS 5] (F23_19 R) (bk 0 (rest [pS 0, pS 1] (F23_5 R) (pc 4 (rest [lS 11, lS 12, iS 13] (F23_3 R) (bk 6 (rest [] (F23_1 R) lf) (lp [iS 13] [lS 11, lS 12, iS 13] (F23_2 R) rnil fun J1 => lf))))) (lp [iS 5] [pS 0, pS 1, iS 5] (F23_18 R) rnil fun J1 => pc 2 (rest [pS 0, pS 1, iS 5] (F23_16 R J1) (bk 1 (rest [pS 0, pS 1, iS 5] (F23_6 R J1) lf) (pc 4 (rest [pS 0, pS 1, iS 5, pS 6, iS 7] (F23_14 R J1) (bk 2 rnil (lp [iS 7] [pS 0, pS 1, iS 5, pS 6, iS 7] (F23_13 R J1) rnil fun J2 => pc 2 (rest [pS 0, pS 1, iS 5, pS 6, iS 7] (F23_11 R J1 J2) (bk 3 (rest [pS 0, pS 1, iS 5, pS 6, iS 7] (F23_7 R J1 J2) lf) (pc 2 (rest [pS 0, pS 1, iS 5, pS 6, iS 7, lS 8, lS 9, iS 10] (F23_9 R J1 J2) (bk 4 rnil (lp [iS 10] [pS 0, pS 1, iS 5, pS 6, iS 7, lS 8, lS 9, iS 10] (F23_8 R J1 J2) rnil fun J3 => lf)))))))))))))))
theorem F23_calls (p0 p1 : Option Addr) (w : World) (R : Rt) (h : F23_21 R p0 p1 [] w) : Calls prog 23 #[.pointer p0, .pointer p1] w R :=
  plC F23_p func23 h
end Go.Proofs.YtnigfiljenfgjaaGreat
