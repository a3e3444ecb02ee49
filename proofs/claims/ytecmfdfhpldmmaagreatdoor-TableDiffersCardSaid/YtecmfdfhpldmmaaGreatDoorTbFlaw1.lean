import Derived.Test.YtecmfdfhpldmmaaGreatDoorProg
import Derived.Test.YtecmfdfhpldmmaaGreatDoorShEight
/- Shallow texts of functions, printed by program, each checked by the kernel against the loaded code. No condition. -/
set_option maxRecDepth 100000
set_option linter.unusedVariables false
namespace Go.Proofs.YtecmfdfhpldmmaaGreatDoor
open Go.Sh
/-! function 3: cabinetry/cabinetrylaw03.TableFits -/
noncomputable def c3_0 : Code := itemAt (flat (bodyOf Tryz.f3)) 0
noncomputable def c3_1 : Code := itemAt (flat (bodyOf Tryz.f3)) 1
noncomputable def c3_2 : Code := itemAt (flat (bodyOf Tryz.f3)) 2
noncomputable def c3_3 : Code := itemAt (flat (bodyOf Tryz.f3)) 3
noncomputable def c3_4 : Code := itemAt (flat (bodyOf Tryz.f3)) 4
noncomputable def c3_5 : Code := itemAt (flat (bodyOf Tryz.f3)) 5
noncomputable def c3_6 : Code := itemAt (flat (bodyOf Tryz.f3)) 6
noncomputable def c3_7 : Code := itemAt (flat (bodyOf Tryz.f3)) 7
noncomputable def c3_8 : Code := itemAt (flat (bodyOf Tryz.f3)) 8
noncomputable def c3_9 : Code := itemAt (flat (bodyOf Tryz.f3)) 9
noncomputable def c3_10 : Code := itemAt (flat (bodyOf Tryz.f3)) 10
noncomputable def c3_11 : Code := itemAt (flat (bodyOf Tryz.f3)) 11
def F3_q1 (R : Rt) : EQ := endQ Tryz.prog Tryz.f3.results.toList R
def F3_1 (R : Rt) (s0_0 : ByteArray) (n0_1 : Int) (n0_2 : Int) (b0_3 : Bool) (n1 : Int) (n2_0 : Int) (n2_1 : Int) (s2_2 : ByteArray) (ds : Ds) (w : World) : Prop :=
 alE (.cells #[.string s0_0, .int .i64 n0_1, .int .i64 n0_2, .bool b0_3] 23) w fun r3 w1 =>
 alE (.cells #[.int .i64 n2_0, .int .i64 n2_1, .string s2_2] 25) w1 fun r5 w2 =>
 ∃ s14 : ByteArray, w2.cell? (⟨r3, 0, none⟩ : Addr) = some (.string s14) ∧
 ∃ s17 : ByteArray, w2.cell? ((⟨r5, 0, none⟩ : Addr).add 2) = some (.string s17) ∧
 Br (decide ((IntKind.i64.wrap (((s14.size : Nat) : Int) + ((s17.size : Nat) : Int))) > 2000000)) (
 Calls Tryz.prog 12 #[] w2 fun e w3 =>
 ∃ b21 : Bool, e = .returned (.bool b21) ∧
 runD Tryz.prog ds w3 fun w4 =>
 R (.returned (.bool b21)) w4) (
 ∃ s23_0 : ByteArray, w2.cell? ((⟨r3, 0, none⟩ : Addr).add 0) = some (.string s23_0) ∧
 ∃ n23_1 : Int, w2.cell? ((⟨r3, 0, none⟩ : Addr).add 1) = some (.int .i64 n23_1) ∧
 ∃ n23_2 : Int, w2.cell? ((⟨r3, 0, none⟩ : Addr).add 2) = some (.int .i64 n23_2) ∧
 ∃ b23_3 : Bool, w2.cell? ((⟨r3, 0, none⟩ : Addr).add 3) = some (.bool b23_3) ∧
 ∃ n25_0 : Int, w2.cell? ((⟨r5, 0, none⟩ : Addr).add 0) = some (.int .i64 n25_0) ∧
 ∃ n25_1 : Int, w2.cell? ((⟨r5, 0, none⟩ : Addr).add 1) = some (.int .i64 n25_1) ∧
 ∃ s25_2 : ByteArray, w2.cell? ((⟨r5, 0, none⟩ : Addr).add 2) = some (.string s25_2) ∧
 Calls Tryz.prog 13 #[.agg #[.string s23_0, .int .i64 n23_1, .int .i64 n23_2, .bool b23_3], .int .i64 n1, .agg #[.int .i64 n25_0, .int .i64 n25_1, .string s25_2]] w2 fun e w5 =>
 ∃ n26_0_0 : Int, ∃ n26_0_1 : Int, ∃ s26_0_2 : ByteArray, ∃ n26_1 : Int, e = .returned (.tuple #[.agg #[.int .i64 n26_0_0, .int .i64 n26_0_1, .string s26_0_2], .int .i64 n26_1]) ∧
 alE (.cells #[.int .i64 0, .int .i64 0, .string (⟨#[]⟩ : ByteArray)] 25) w5 fun r7 w6 =>
 stA Tryz.prog 25 (⟨r7, 0, none⟩ : Addr) #[.int .i64 n26_0_0, .int .i64 n26_0_1, .string s26_0_2] w6 fun w7 =>
 ∃ s30_0 : ByteArray, w7.cell? ((⟨r3, 0, none⟩ : Addr).add 0) = some (.string s30_0) ∧
 ∃ n30_1 : Int, w7.cell? ((⟨r3, 0, none⟩ : Addr).add 1) = some (.int .i64 n30_1) ∧
 ∃ n30_2 : Int, w7.cell? ((⟨r3, 0, none⟩ : Addr).add 2) = some (.int .i64 n30_2) ∧
 ∃ b30_3 : Bool, w7.cell? ((⟨r3, 0, none⟩ : Addr).add 3) = some (.bool b30_3) ∧
 ∃ n32_0 : Int, w7.cell? ((⟨r5, 0, none⟩ : Addr).add 0) = some (.int .i64 n32_0) ∧
 ∃ n32_1 : Int, w7.cell? ((⟨r5, 0, none⟩ : Addr).add 1) = some (.int .i64 n32_1) ∧
 ∃ s32_2 : ByteArray, w7.cell? ((⟨r5, 0, none⟩ : Addr).add 2) = some (.string s32_2) ∧
 Calls Tryz.prog 14 #[.agg #[.string s30_0, .int .i64 n30_1, .int .i64 n30_2, .bool b30_3], .int .i64 n1, .agg #[.int .i64 n32_0, .int .i64 n32_1, .string s32_2]] w7 fun e w8 =>
 ∃ n33_0_0 : Int, ∃ n33_0_1 : Int, ∃ s33_0_2 : ByteArray, ∃ n33_1 : Int, e = .returned (.tuple #[.agg #[.int .i64 n33_0_0, .int .i64 n33_0_1, .string s33_0_2], .int .i64 n33_1]) ∧
 alE (.cells #[.int .i64 0, .int .i64 0, .string (⟨#[]⟩ : ByteArray)] 25) w8 fun r9 w9 =>
 stA Tryz.prog 25 (⟨r9, 0, none⟩ : Addr) #[.int .i64 n33_0_0, .int .i64 n33_0_1, .string s33_0_2] w9 fun w10 =>
 ∃ n36_0 : Int, w10.cell? ((⟨r7, 0, none⟩ : Addr).add 0) = some (.int .i64 n36_0) ∧
 ∃ n36_1 : Int, w10.cell? ((⟨r7, 0, none⟩ : Addr).add 1) = some (.int .i64 n36_1) ∧
 ∃ s36_2 : ByteArray, w10.cell? ((⟨r7, 0, none⟩ : Addr).add 2) = some (.string s36_2) ∧
 ∃ n37_0 : Int, w10.cell? ((⟨r9, 0, none⟩ : Addr).add 0) = some (.int .i64 n37_0) ∧
 ∃ n37_1 : Int, w10.cell? ((⟨r9, 0, none⟩ : Addr).add 1) = some (.int .i64 n37_1) ∧
 ∃ s37_2 : ByteArray, w10.cell? ((⟨r9, 0, none⟩ : Addr).add 2) = some (.string s37_2) ∧
 Calls Tryz.prog 15 #[.agg #[.int .i64 n36_0, .int .i64 n36_1, .string s36_2], .agg #[.int .i64 n37_0, .int .i64 n37_1, .string s37_2]] w10 fun e w11 =>
 ∃ b38 : Bool, e = .returned (.bool b38) ∧
 Br (!b38) (
 runD Tryz.prog ds w11 fun w12 =>
 R (.returned (.bool false)) w12) (
 Br (n26_1 != n33_1) (
 runD Tryz.prog ds w11 fun w13 =>
 R (.returned (.bool false)) w13) (
 Br (n26_1 != 0) (
 Calls Tryz.prog 12 #[] w11 fun e w14 =>
 ∃ b47 : Bool, e = .returned (.bool b47) ∧
 runD Tryz.prog ds w14 fun w15 =>
 R (.returned (.bool b47)) w15) (
 ∃ s49_0 : ByteArray, w11.cell? ((⟨r3, 0, none⟩ : Addr).add 0) = some (.string s49_0) ∧
 ∃ n49_1 : Int, w11.cell? ((⟨r3, 0, none⟩ : Addr).add 1) = some (.int .i64 n49_1) ∧
 ∃ n49_2 : Int, w11.cell? ((⟨r3, 0, none⟩ : Addr).add 2) = some (.int .i64 n49_2) ∧
 ∃ b49_3 : Bool, w11.cell? ((⟨r3, 0, none⟩ : Addr).add 3) = some (.bool b49_3) ∧
 ∃ n51_0 : Int, w11.cell? ((⟨r7, 0, none⟩ : Addr).add 0) = some (.int .i64 n51_0) ∧
 ∃ n51_1 : Int, w11.cell? ((⟨r7, 0, none⟩ : Addr).add 1) = some (.int .i64 n51_1) ∧
 ∃ s51_2 : ByteArray, w11.cell? ((⟨r7, 0, none⟩ : Addr).add 2) = some (.string s51_2) ∧
 Calls Tryz.prog 13 #[.agg #[.string s49_0, .int .i64 n49_1, .int .i64 n49_2, .bool b49_3], .int .i64 n1, .agg #[.int .i64 n51_0, .int .i64 n51_1, .string s51_2]] w11 fun e w16 =>
 ∃ n52_0_0 : Int, ∃ n52_0_1 : Int, ∃ s52_0_2 : ByteArray, ∃ n52_1 : Int, e = .returned (.tuple #[.agg #[.int .i64 n52_0_0, .int .i64 n52_0_1, .string s52_0_2], .int .i64 n52_1]) ∧
 alE (.cells #[.int .i64 0, .int .i64 0, .string (⟨#[]⟩ : ByteArray)] 25) w16 fun r11 w17 =>
 stA Tryz.prog 25 (⟨r11, 0, none⟩ : Addr) #[.int .i64 n52_0_0, .int .i64 n52_0_1, .string s52_0_2] w17 fun w18 =>
 ∃ n55_0 : Int, w18.cell? ((⟨r7, 0, none⟩ : Addr).add 0) = some (.int .i64 n55_0) ∧
 ∃ n55_1 : Int, w18.cell? ((⟨r7, 0, none⟩ : Addr).add 1) = some (.int .i64 n55_1) ∧
 ∃ s55_2 : ByteArray, w18.cell? ((⟨r7, 0, none⟩ : Addr).add 2) = some (.string s55_2) ∧
 ∃ n56_0 : Int, w18.cell? ((⟨r11, 0, none⟩ : Addr).add 0) = some (.int .i64 n56_0) ∧
 ∃ n56_1 : Int, w18.cell? ((⟨r11, 0, none⟩ : Addr).add 1) = some (.int .i64 n56_1) ∧
 ∃ s56_2 : ByteArray, w18.cell? ((⟨r11, 0, none⟩ : Addr).add 2) = some (.string s56_2) ∧
 Calls Tryz.prog 15 #[.agg #[.int .i64 n55_0, .int .i64 n55_1, .string s55_2], .agg #[.int .i64 n56_0, .int .i64 n56_1, .string s56_2]] w18 fun e w19 =>
 ∃ b57 : Bool, e = .returned (.bool b57) ∧
 Br b57 (
 Br (n52_1 == 0) (
 Calls Tryz.prog 12 #[] w19 fun e w20 =>
 ∃ b63 : Bool, e = .returned (.bool b63) ∧
 runD Tryz.prog ds w20 fun w21 =>
 R (.returned (.bool b63)) w21) (
 runD Tryz.prog ds w19 fun w22 =>
 R (.returned (.bool false)) w22)) (
 runD Tryz.prog ds w19 fun w23 =>
 R (.returned (.bool false)) w23)))))
theorem c3_l : flat (bodyOf Tryz.f3) = [c3_0, c3_1, c3_2, c3_3, c3_4, c3_5, c3_6, c3_7, c3_8, c3_9, c3_10, c3_11] := by kernel_rfl
theorem F3_1_ok (R : Rt) (s0_0 : ByteArray) (n0_1 : Int) (n0_2 : Int) (b0_3 : Bool) (n1 : Int) (n2_0 : Int) (n2_1 : Int) (s2_2 : ByteArray) (ds : Ds) (w : World) (ρ : Env) (e0 : ρ 0 = .agg #[.string s0_0, .int .i64 n0_1, .int .i64 n0_2, .bool b0_3]) (e1 : ρ 1 = .int .i64 n1) (e2 : ρ 2 = .agg #[.int .i64 n2_0, .int .i64 n2_1, .string s2_2]) (h : F3_1 R s0_0 n0_1 n0_2 b0_3 n1 n2_0 n2_1 s2_2 ds w) :
    TrL Tryz.prog Tryz.f3.ntmps [c3_0, c3_1, c3_2, c3_3, c3_4, c3_5, c3_6, c3_7, c3_8, c3_9, c3_10, c3_11] (F3_q1 R) ρ ds w :=
  TrL_leaf (X := F3_1 R s0_0 n0_1 n0_2 b0_3 n1 n2_0 n2_1 s2_2 ds w) (setAll_cons e0 (setAll_cons e1 (setAll_cons e2 setAll_nil))) (by kernel_rfl) (by kernel_rfl) h
theorem F3_calls (s0_0 : ByteArray) (n0_1 : Int) (n0_2 : Int) (b0_3 : Bool) (n1 : Int) (n2_0 : Int) (n2_1 : Int) (s2_2 : ByteArray) (w : World) (R : Rt) (h : F3_1 R s0_0 n0_1 n0_2 b0_3 n1 n2_0 n2_1 s2_2 [] w) : Calls Tryz.prog 3 #[.agg #[.string s0_0, .int .i64 n0_1, .int .i64 n0_2, .bool b0_3], .int .i64 n1, .agg #[.int .i64 n2_0, .int .i64 n2_1, .string s2_2]] w R :=
  calls_of_L (l := [c3_0, c3_1, c3_2, c3_3, c3_4, c3_5, c3_6, c3_7, c3_8, c3_9, c3_10, c3_11]) Tryz.func3 (by kernel_rfl) (by rw [Tryz.ntmps3]; exact Nat.le_of_ble_eq_true (by kernel_rfl)) c3_l
    (F3_1_ok R s0_0 n0_1 n0_2 b0_3 n1 n2_0 n2_1 s2_2 [] w _ rfl rfl rfl h)
theorem F3_callsD (s0_0 : ByteArray) (n0_1 : Int) (n0_2 : Int) (b0_3 : Bool) (n1 : Int) (n2_0 : Int) (n2_1 : Int) (s2_2 : ByteArray) (w : World) (R : Rt) (u : FrameMode) (h : F3_1 R s0_0 n0_1 n0_2 b0_3 n1 n2_0 n2_1 s2_2 [] w) : CallsD Tryz.prog 3 #[.agg #[.string s0_0, .int .i64 n0_1, .int .i64 n0_2, .bool b0_3], .int .i64 n1, .agg #[.int .i64 n2_0, .int .i64 n2_1, .string s2_2]] u w fun e u' w' => u' = u ∧ R e w' :=
  callsD_of_L (l := [c3_0, c3_1, c3_2, c3_3, c3_4, c3_5, c3_6, c3_7, c3_8, c3_9, c3_10, c3_11]) Tryz.func3 (by kernel_rfl) (by rw [Tryz.ntmps3]; exact Nat.le_of_ble_eq_true (by kernel_rfl)) (by kernel_rfl) c3_l
    (F3_1_ok R s0_0 n0_1 n0_2 b0_3 n1 n2_0 n2_1 s2_2 [] w _ rfl rfl rfl h) u

/-! function 12: cabinetry/cabinetrylaw03.known -/
noncomputable def c12_0 : Code := itemAt (flat (bodyOf Tryz.f12)) 0
noncomputable def c12_1 : Code := itemAt (flat (bodyOf Tryz.f12)) 1
noncomputable def c12_2 : Code := itemAt (flat (bodyOf Tryz.f12)) 2
noncomputable def c12_3 : Code := itemAt (flat (bodyOf Tryz.f12)) 3
noncomputable def c12_4 : Code := itemAt (flat (bodyOf Tryz.f12)) 4
noncomputable def c12_5 : Code := itemAt (flat (bodyOf Tryz.f12)) 5
noncomputable def c12_6 : Code := itemAt (flat (bodyOf Tryz.f12)) 6
def F12_q1 (R : Rt) : EQ := endQ Tryz.prog Tryz.f12.results.toList R
def F12_1 (R : Rt) (ds : Ds) (w : World) : Prop :=
 alE (.cells #[.string (⟨#[65]⟩ : ByteArray), .int .i64 4, .int .i64 3, .bool false] 23) w fun r9 w1 =>
 Calls Tryz.prog 46 #[.string (⟨#[97, 98]⟩ : ByteArray)] w1 fun e w2 =>
 ∃ n10_0 : Int, ∃ n10_1 : Int, ∃ s10_2 : ByteArray, e = .returned (.agg #[.int .i64 n10_0, .int .i64 n10_1, .string s10_2]) ∧
 alE (.cells #[.int .i64 n10_0, .int .i64 n10_1, .string s10_2] 25) w2 fun r11 w3 =>
 alE (.cells #[.bool false, .slice (some ⟨r11, 0, none⟩) 1 1] 46) w3 fun r13 w4 =>
 alE (.cells #[.int .i64 0, .slice none 0 0, .slice none 0 0] 35) w4 fun r1 w5 =>
 stA Tryz.prog 35 (⟨r1, 0, none⟩ : Addr) #[.int .i64 0, .slice (some ⟨r9, 0, none⟩) 1 1, .slice (some ⟨r13, 0, none⟩) 1 1] w5 fun w6 =>
 ∃ n16_0 : Int, w6.cell? ((⟨r1, 0, none⟩ : Addr).add 0) = some (.int .i64 n16_0) ∧
 ∃ l16_1 : SV, w6.cell? ((⟨r1, 0, none⟩ : Addr).add 1) = some (.slice l16_1.a l16_1.len l16_1.cap) ∧
 ∃ l16_2 : SV, w6.cell? ((⟨r1, 0, none⟩ : Addr).add 2) = some (.slice l16_2.a l16_2.len l16_2.cap) ∧
 Calls Tryz.prog 19 #[.agg #[.int .i64 n16_0, .slice l16_1.a l16_1.len l16_1.cap, .slice l16_2.a l16_2.len l16_2.cap]] w6 fun e w7 =>
 ∃ l17_0 : SV, ∃ n17_1 : Int, e = .returned (.tuple #[.slice l17_0.a l17_0.len l17_0.cap, .int .i64 n17_1]) ∧
 ∃ n21_0 : Int, w7.cell? ((⟨r1, 0, none⟩ : Addr).add 0) = some (.int .i64 n21_0) ∧
 ∃ l21_1 : SV, w7.cell? ((⟨r1, 0, none⟩ : Addr).add 1) = some (.slice l21_1.a l21_1.len l21_1.cap) ∧
 ∃ l21_2 : SV, w7.cell? ((⟨r1, 0, none⟩ : Addr).add 2) = some (.slice l21_2.a l21_2.len l21_2.cap) ∧
 Calls Tryz.prog 21 #[.agg #[.int .i64 n21_0, .slice l21_1.a l21_1.len l21_1.cap, .slice l21_2.a l21_2.len l21_2.cap], .int .i64 1] w7 fun e w8 =>
 ∃ l22_0 : SV, ∃ n22_1 : Int, e = .returned (.tuple #[.slice l22_0.a l22_0.len l22_0.cap, .int .i64 n22_1]) ∧
 Calls Tryz.prog 46 #[.string (⟨#[97, 98, 32]⟩ : ByteArray)] w8 fun e w9 =>
 ∃ n27_0 : Int, ∃ n27_1 : Int, ∃ s27_2 : ByteArray, e = .returned (.agg #[.int .i64 n27_0, .int .i64 n27_1, .string s27_2]) ∧
 Calls Tryz.prog 13 #[.agg #[.string (⟨#[65]⟩ : ByteArray), .int .i64 4, .int .i64 2, .bool false], .int .i64 0, .agg #[.int .i64 n27_0, .int .i64 n27_1, .string s27_2]] w9 fun e w10 =>
 ∃ n28_0_0 : Int, ∃ n28_0_1 : Int, ∃ s28_0_2 : ByteArray, ∃ n28_1 : Int, e = .returned (.tuple #[.agg #[.int .i64 n28_0_0, .int .i64 n28_0_1, .string s28_0_2], .int .i64 n28_1]) ∧
 alE (.cells #[.int .i64 0, .int .i64 0, .string (⟨#[]⟩ : ByteArray)] 25) w10 fun r6 w11 =>
 stA Tryz.prog 25 (⟨r6, 0, none⟩ : Addr) #[.int .i64 n28_0_0, .int .i64 n28_0_1, .string s28_0_2] w11 fun w12 =>
 Br (n17_1 == 0) (
 Br (((l17_0.len : Nat) : Int) == 29) (
 Br (n22_1 == 0) (
 ∃ s44 : ByteArray, ∃ w13 : World, (convert 37 9 (.slice l22_0.a l22_0.len l22_0.cap)).run Tryz.prog w12 = .ok (.string s44) w13 ∧
 Br (s44.toList == (⟨#[32, 97, 98, 32]⟩ : ByteArray).toList) (
 Br (n28_1 == 0) (
 ∃ s53 : ByteArray, w13.cell? ((⟨r6, 0, none⟩ : Addr).add 2) = some (.string s53) ∧
 runD Tryz.prog ds w13 fun w14 =>
 R (.returned (.bool (s53.toList == (⟨#[97, 98]⟩ : ByteArray).toList))) w14) (
 runD Tryz.prog ds w13 fun w15 =>
 R (.returned (.bool false)) w15)) (
 runD Tryz.prog ds w13 fun w16 =>
 R (.returned (.bool false)) w16)) (
 runD Tryz.prog ds w12 fun w17 =>
 R (.returned (.bool false)) w17)) (
 runD Tryz.prog ds w12 fun w18 =>
 R (.returned (.bool false)) w18)) (
 runD Tryz.prog ds w12 fun w19 =>
 R (.returned (.bool false)) w19)
theorem c12_l : flat (bodyOf Tryz.f12) = [c12_0, c12_1, c12_2, c12_3, c12_4, c12_5, c12_6] := by kernel_rfl
theorem F12_1_ok (R : Rt) (ds : Ds) (w : World) (ρ : Env) (h : F12_1 R ds w) :
    TrL Tryz.prog Tryz.f12.ntmps [c12_0, c12_1, c12_2, c12_3, c12_4, c12_5, c12_6] (F12_q1 R) ρ ds w :=
  TrL_leaf (X := F12_1 R ds w) setAll_nil (by kernel_rfl) (by kernel_rfl) h
theorem F12_calls  (w : World) (R : Rt) (h : F12_1 R [] w) : Calls Tryz.prog 12 #[] w R :=
  calls_of_L (l := [c12_0, c12_1, c12_2, c12_3, c12_4, c12_5, c12_6]) Tryz.func12 (by kernel_rfl) (by rw [Tryz.ntmps12]; exact Nat.le_of_ble_eq_true (by kernel_rfl)) c12_l
    (F12_1_ok R [] w _  h)
theorem F12_callsD  (w : World) (R : Rt) (u : FrameMode) (h : F12_1 R [] w) : CallsD Tryz.prog 12 #[] u w fun e u' w' => u' = u ∧ R e w' :=
  callsD_of_L (l := [c12_0, c12_1, c12_2, c12_3, c12_4, c12_5, c12_6]) Tryz.func12 (by kernel_rfl) (by rw [Tryz.ntmps12]; exact Nat.le_of_ble_eq_true (by kernel_rfl)) (by kernel_rfl) c12_l
    (F12_1_ok R [] w _  h) u

/-! function 15: cabinetry/cabinetryref01.SameValue -/
noncomputable def c15_0 : Code := itemAt (flat (bodyOf Tryz.f15)) 0
noncomputable def c15_1 : Code := itemAt (flat (bodyOf Tryz.f15)) 1
noncomputable def c15_2 : Code := itemAt (flat (bodyOf Tryz.f15)) 2
def F15_q1 (R : Rt) : EQ := endQ Tryz.prog Tryz.f15.results.toList R
def F15_1 (R : Rt) (n0_0 : Int) (n0_1 : Int) (s0_2 : ByteArray) (n1_0 : Int) (n1_1 : Int) (s1_2 : ByteArray) (ds : Ds) (w : World) : Prop :=
 alE (.cells #[.int .i64 n0_0, .int .i64 n0_1, .string s0_2] 25) w fun r2 w1 =>
 alE (.cells #[.int .i64 n1_0, .int .i64 n1_1, .string s1_2] 25) w1 fun r3 w2 =>
 ∃ n6 : Int, w2.cell? (⟨r2, 0, none⟩ : Addr) = some (.int .i64 n6) ∧
 ∃ n8 : Int, w2.cell? (⟨r3, 0, none⟩ : Addr) = some (.int .i64 n8) ∧
 Br (n6 == n8) (
 ∃ n12 : Int, w2.cell? ((⟨r2, 0, none⟩ : Addr).add 1) = some (.int .i64 n12) ∧
 ∃ n14 : Int, w2.cell? ((⟨r3, 0, none⟩ : Addr).add 1) = some (.int .i64 n14) ∧
 Br (n12 == n14) (
 ∃ s19 : ByteArray, w2.cell? ((⟨r2, 0, none⟩ : Addr).add 2) = some (.string s19) ∧
 ∃ s21 : ByteArray, w2.cell? ((⟨r3, 0, none⟩ : Addr).add 2) = some (.string s21) ∧
 runD Tryz.prog ds w2 fun w3 =>
 R (.returned (.bool (s19.toList == s21.toList))) w3) (
 runD Tryz.prog ds w2 fun w4 =>
 R (.returned (.bool false)) w4)) (
 runD Tryz.prog ds w2 fun w5 =>
 R (.returned (.bool false)) w5)
theorem c15_l : flat (bodyOf Tryz.f15) = [c15_0, c15_1, c15_2] := by kernel_rfl
theorem F15_1_ok (R : Rt) (n0_0 : Int) (n0_1 : Int) (s0_2 : ByteArray) (n1_0 : Int) (n1_1 : Int) (s1_2 : ByteArray) (ds : Ds) (w : World) (ρ : Env) (e0 : ρ 0 = .agg #[.int .i64 n0_0, .int .i64 n0_1, .string s0_2]) (e1 : ρ 1 = .agg #[.int .i64 n1_0, .int .i64 n1_1, .string s1_2]) (h : F15_1 R n0_0 n0_1 s0_2 n1_0 n1_1 s1_2 ds w) :
    TrL Tryz.prog Tryz.f15.ntmps [c15_0, c15_1, c15_2] (F15_q1 R) ρ ds w :=
  TrL_leaf (X := F15_1 R n0_0 n0_1 s0_2 n1_0 n1_1 s1_2 ds w) (setAll_cons e0 (setAll_cons e1 setAll_nil)) (by kernel_rfl) (by kernel_rfl) h
theorem F15_calls (n0_0 : Int) (n0_1 : Int) (s0_2 : ByteArray) (n1_0 : Int) (n1_1 : Int) (s1_2 : ByteArray) (w : World) (R : Rt) (h : F15_1 R n0_0 n0_1 s0_2 n1_0 n1_1 s1_2 [] w) : Calls Tryz.prog 15 #[.agg #[.int .i64 n0_0, .int .i64 n0_1, .string s0_2], .agg #[.int .i64 n1_0, .int .i64 n1_1, .string s1_2]] w R :=
  calls_of_L (l := [c15_0, c15_1, c15_2]) Tryz.func15 (by kernel_rfl) (by rw [Tryz.ntmps15]; exact Nat.le_of_ble_eq_true (by kernel_rfl)) c15_l
    (F15_1_ok R n0_0 n0_1 s0_2 n1_0 n1_1 s1_2 [] w _ rfl rfl h)
theorem F15_callsD (n0_0 : Int) (n0_1 : Int) (s0_2 : ByteArray) (n1_0 : Int) (n1_1 : Int) (s1_2 : ByteArray) (w : World) (R : Rt) (u : FrameMode) (h : F15_1 R n0_0 n0_1 s0_2 n1_0 n1_1 s1_2 [] w) : CallsD Tryz.prog 15 #[.agg #[.int .i64 n0_0, .int .i64 n0_1, .string s0_2], .agg #[.int .i64 n1_0, .int .i64 n1_1, .string s1_2]] u w fun e u' w' => u' = u ∧ R e w' :=
  callsD_of_L (l := [c15_0, c15_1, c15_2]) Tryz.func15 (by kernel_rfl) (by rw [Tryz.ntmps15]; exact Nat.le_of_ble_eq_true (by kernel_rfl)) (by kernel_rfl) c15_l
    (F15_1_ok R n0_0 n0_1 s0_2 n1_0 n1_1 s1_2 [] w _ rfl rfl h) u

end Go.Proofs.YtecmfdfhpldmmaaGreatDoor
