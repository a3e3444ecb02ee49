import Derived.Test.YtecmfdfhpldmmaaGreatDoorProg
import Derived.Test.YtecmfdfhpldmmaaGreatDoorShEight
/- Shallow texts of functions, printed by program, each checked by the kernel against the loaded code. No condition. -/
set_option maxRecDepth 100000
set_option linter.unusedVariables false
namespace Go.Proofs.YtecmfdfhpldmmaaGreatDoor
open Go.Sh
/-! function 21: cabinetry/table.Row -/
noncomputable def c21_0 : Code := itemAt (flat (bodyOf Tryz.f21)) 0
noncomputable def c21_1 : Code := itemAt (flat (bodyOf Tryz.f21)) 1
noncomputable def c21_2 : Code := itemAt (flat (bodyOf Tryz.f21)) 2
noncomputable def c21_3 : Code := itemAt (flat (bodyOf Tryz.f21)) 3
noncomputable def c21_4 : Code := itemAt (flat (bodyOf Tryz.f21)) 4
noncomputable def c21_5 : Code := itemAt (flat (bodyOf Tryz.f21)) 5
noncomputable def c21_6 : Code := itemAt (flat (bodyOf Tryz.f21)) 6
noncomputable def c21_7 : Code := itemAt (flat (bodyOf Tryz.f21)) 7
def F21_q1 (R : Rt) : EQ := endQ Tryz.prog Tryz.f21.results.toList R
def F21_1 (R : Rt) (n0_0 : Int) (l0_1 : SV) (l0_2 : SV) (n1 : Int) (ds : Ds) (w : World) : Prop :=
 alE (.cells #[.int .i64 n0_0, .slice l0_1.a l0_1.len l0_1.cap, .slice l0_2.a l0_2.len l0_2.cap] 35) w fun r2 w1 =>
 ∃ n7_0 : Int, w1.cell? ((⟨r2, 0, none⟩ : Addr).add 0) = some (.int .i64 n7_0) ∧
 ∃ l7_1 : SV, w1.cell? ((⟨r2, 0, none⟩ : Addr).add 1) = some (.slice l7_1.a l7_1.len l7_1.cap) ∧
 ∃ l7_2 : SV, w1.cell? ((⟨r2, 0, none⟩ : Addr).add 2) = some (.slice l7_2.a l7_2.len l7_2.cap) ∧
 Calls Tryz.prog 34 #[.agg #[.int .i64 n7_0, .slice l7_1.a l7_1.len l7_1.cap, .slice l7_2.a l7_2.len l7_2.cap]] w1 fun e w2 =>
 ∃ n8 : Int, e = .returned (.int .i64 n8) ∧
 Br (n8 != 0) (
 runD Tryz.prog ds w2 fun w3 =>
 R (.returned (.tuple #[.slice none 0 0, .int .i64 n8])) w3) (
 Br (decide (n1 < 1)) (
 runD Tryz.prog ds w2 fun w4 =>
 R (.returned (.tuple #[.slice none 0 0, .int .i64 4])) w4) (
 ∃ l17 : SV, w2.cell? ((⟨r2, 0, none⟩ : Addr).add 2) = some (.slice l17.a l17.len l17.cap) ∧
 Br (decide (n1 > ((l17.len : Nat) : Int))) (
 runD Tryz.prog ds w2 fun w5 =>
 R (.returned (.tuple #[.slice none 0 0, .int .i64 4])) w5) (
 dwE w2 fun w6 =>
 ∃ l22 : SV, w6.cell? ((⟨r2, 0, none⟩ : Addr).add 1) = some (.slice l22.a l22.len l22.cap) ∧
 ∃ l24 : SV, w6.cell? ((⟨r2, 0, none⟩ : Addr).add 2) = some (.slice l24.a l24.len l24.cap) ∧
 ∃ a7 : Addr, l24.a = some a7 ∧ 0 ≤ (IntKind.i64.wrap (n1 - 1)) ∧ (IntKind.i64.wrap (n1 - 1)) < ((l24.len : Nat) : Int) ∧
 ∃ b28_0 : Bool, w6.cell? ((a7.add ((IntKind.i64.wrap (n1 - 1)).toNat * 2)).add 0) = some (.bool b28_0) ∧
 ∃ l28_1 : SV, w6.cell? ((a7.add ((IntKind.i64.wrap (n1 - 1)).toNat * 2)).add 1) = some (.slice l28_1.a l28_1.len l28_1.cap) ∧
 Calls Tryz.prog 63 #[.slice l22.a l22.len l22.cap, .agg #[.bool b28_0, .slice l28_1.a l28_1.len l28_1.cap]] w6 fun e w8 =>
 ∃ l29 : SV, e = .returned (.slice l29.a l29.len l29.cap) ∧
 runD Tryz.prog ds w8 fun w9 =>
 R (.returned (.tuple #[.slice l29.a l29.len l29.cap, .int .i64 0])) w9)))
theorem c21_l : flat (bodyOf Tryz.f21) = [c21_0, c21_1, c21_2, c21_3, c21_4, c21_5, c21_6, c21_7] := by kernel_rfl
theorem F21_1_ok (R : Rt) (n0_0 : Int) (l0_1 : SV) (l0_2 : SV) (n1 : Int) (ds : Ds) (w : World) (ρ : Env) (e0 : ρ 0 = .agg #[.int .i64 n0_0, .slice l0_1.a l0_1.len l0_1.cap, .slice l0_2.a l0_2.len l0_2.cap]) (e1 : ρ 1 = .int .i64 n1) (h : F21_1 R n0_0 l0_1 l0_2 n1 ds w) :
    TrL Tryz.prog Tryz.f21.ntmps [c21_0, c21_1, c21_2, c21_3, c21_4, c21_5, c21_6, c21_7] (F21_q1 R) ρ ds w :=
  TrL_leaf (X := F21_1 R n0_0 l0_1 l0_2 n1 ds w) (setAll_cons e0 (setAll_cons e1 setAll_nil)) (by kernel_rfl) (by kernel_rfl) h
theorem F21_calls (n0_0 : Int) (l0_1 : SV) (l0_2 : SV) (n1 : Int) (w : World) (R : Rt) (h : F21_1 R n0_0 l0_1 l0_2 n1 [] w) : Calls Tryz.prog 21 #[.agg #[.int .i64 n0_0, .slice l0_1.a l0_1.len l0_1.cap, .slice l0_2.a l0_2.len l0_2.cap], .int .i64 n1] w R :=
  calls_of_L (l := [c21_0, c21_1, c21_2, c21_3, c21_4, c21_5, c21_6, c21_7]) Tryz.func21 (by kernel_rfl) (by rw [Tryz.ntmps21]; exact Nat.le_of_ble_eq_true (by kernel_rfl)) c21_l
    (F21_1_ok R n0_0 l0_1 l0_2 n1 [] w _ rfl rfl h)
theorem F21_callsD (n0_0 : Int) (l0_1 : SV) (l0_2 : SV) (n1 : Int) (w : World) (R : Rt) (u : FrameMode) (h : F21_1 R n0_0 l0_1 l0_2 n1 [] w) : CallsD Tryz.prog 21 #[.agg #[.int .i64 n0_0, .slice l0_1.a l0_1.len l0_1.cap, .slice l0_2.a l0_2.len l0_2.cap], .int .i64 n1] u w fun e u' w' => u' = u ∧ R e w' :=
  callsD_of_L (l := [c21_0, c21_1, c21_2, c21_3, c21_4, c21_5, c21_6, c21_7]) Tryz.func21 (by kernel_rfl) (by rw [Tryz.ntmps21]; exact Nat.le_of_ble_eq_true (by kernel_rfl)) (by kernel_rfl) c21_l
    (F21_1_ok R n0_0 l0_1 l0_2 n1 [] w _ rfl rfl h) u

/-! function 63: cabinetry/table.row -/
noncomputable def c63_0 : Code := itemAt (flat (bodyOf Tryz.f63)) 0
noncomputable def c63_1 : Code := itemAt (flat (bodyOf Tryz.f63)) 1
noncomputable def c63_2 : Code := itemAt (flat (bodyOf Tryz.f63)) 2
noncomputable def c63_3 : Code := itemAt (flat (bodyOf Tryz.f63)) 3
noncomputable def c63_4 : Code := itemAt (flat (bodyOf Tryz.f63)) 4
noncomputable def c63_5 : Code := itemAt (flat (bodyOf Tryz.f63)) 5
noncomputable def c63_6 : Code := itemAt (flat (bodyOf Tryz.f63)) 6
noncomputable def c63_7 : Code := itemAt (flat (bodyOf Tryz.f63)) 7
noncomputable def c63_8 : Code := itemAt (flat (bodyOf Tryz.f63)) 8
noncomputable def c63_9 : Code := itemAt (flat (bodyOf Tryz.f63)) 9
noncomputable def c63_10 : Code := itemAt (flat (bodyOf Tryz.f63)) 10
noncomputable def c63_8_0 : Code := itemAt (flat (innerC c63_8)) 0
noncomputable def c63_8_0_0 : Code := itemAt (flat (innerC c63_8_0)) 0
noncomputable def c63_8_0_1 : Code := itemAt (flat (innerC c63_8_0)) 1
noncomputable def c63_8_0_2 : Code := itemAt (flat (innerC c63_8_0)) 2
noncomputable def c63_8_0_3 : Code := itemAt (flat (innerC c63_8_0)) 3
def F63_q1 (R : Rt) : EQ := endQ Tryz.prog Tryz.f63.results.toList R
def F63_1 (R : Rt) (l5 : SV) (l6 : SV) (p7 : Option Addr) (ds : Ds) (w : World) : Prop :=
 ∃ l68 : SV, ∃ w1 : World, (Builtin.append_ #[37, 37] 37 #[.slice l5.a l5.len l5.cap, .slice l6.a l6.len l6.cap]).run Tryz.prog w = .ok (.slice l68.a l68.len l68.cap) w1 ∧
 Calls Tryz.prog 112 #[.pointer p7] w1 fun e w2 =>
 ∃ s69 : ByteArray, e = .returned (.string s69) ∧
 ∃ l70 : SV, ∃ w3 : World, (Builtin.append_ #[37, 9] 37 #[.slice l68.a l68.len l68.cap, .string s69]).run Tryz.prog w2 = .ok (.slice l70.a l70.len l70.cap) w3 ∧
 runD Tryz.prog ds w3 fun w4 =>
 R (.returned (.slice l70.a l70.len l70.cap)) w4
def F63_k2 (R : Rt) : EP := (fun ρ ds w => dSl (ρ 5) fun l5 => dSl (ρ 6) fun l6 => dPtr (ρ 7) fun p7 => F63_1 R l5 l6 p7 ds w)
def F63_q3 (R : Rt) : EQ := (thenQ (F63_k2 R) (F63_q1 R))
def F63_q4 (R : Rt) : EQ := (blockQ 0 (F63_q3 R))
def F63_q5 (R : Rt) (J1 : (Int × Int) → World → Prop) : EQ := (thenQ (fun ρ _ w => dInt .i64 (ρ 8) fun n8 => dInt .i64 (ρ 22) fun n22 => J1 (n8, n22) w) (F63_q4 R))
def F63_2 (R : Rt) (J1 : (Int × Int) → World → Prop) (p3 : Option Addr) (l5 : SV) (l6 : SV) (p7 : Option Addr) (n8 : Int) (l20 : SV) (n21 : Int) (n22 : Int) (ds : Ds) (w : World) : Prop :=
 Br (decide (n22 < n21)) (
 ∃ a5 : Addr, l20.a = some a5 ∧ 0 ≤ n22 ∧ n22 < ((l20.len : Nat) : Int) ∧
 ∃ s26_0 : ByteArray, w.cell? ((a5.add (n22.toNat * 4)).add 0) = some (.string s26_0) ∧
 ∃ n26_1 : Int, w.cell? ((a5.add (n22.toNat * 4)).add 1) = some (.int .i64 n26_1) ∧
 ∃ n26_2 : Int, w.cell? ((a5.add (n22.toNat * 4)).add 2) = some (.int .i64 n26_2) ∧
 ∃ b26_3 : Bool, w.cell? ((a5.add (n22.toNat * 4)).add 3) = some (.bool b26_3) ∧
 alE (.cells #[.string (⟨#[]⟩ : ByteArray), .int .i64 0, .int .i64 0, .bool false] 23) w fun r10 w6 =>
 stA Tryz.prog 23 (⟨r10, 0, none⟩ : Addr) #[.string s26_0, .int .i64 n26_1, .int .i64 n26_2, .bool b26_3] w6 fun w7 =>
 ptrE p3 fun a8 =>
 ∃ l28 : SV, w7.cell? (a8.add 1) = some (.slice l28.a l28.len l28.cap) ∧
 ∃ a9 : Addr, l28.a = some a9 ∧ 0 ≤ n22 ∧ n22 < ((l28.len : Nat) : Int) ∧
 ∃ n31_0 : Int, w7.cell? ((a9.add (n22.toNat * 3)).add 0) = some (.int .i64 n31_0) ∧
 ∃ n31_1 : Int, w7.cell? ((a9.add (n22.toNat * 3)).add 1) = some (.int .i64 n31_1) ∧
 ∃ s31_2 : ByteArray, w7.cell? ((a9.add (n22.toNat * 3)).add 2) = some (.string s31_2) ∧
 alE (.cells #[.int .i64 0, .int .i64 0, .string (⟨#[]⟩ : ByteArray)] 25) w7 fun r11 w10 =>
 stA Tryz.prog 25 (⟨r11, 0, none⟩ : Addr) #[.int .i64 n31_0, .int .i64 n31_1, .string s31_2] w10 fun w11 =>
 ∃ b33 : Bool, w11.cell? ((⟨r10, 0, none⟩ : Addr).add 3) = some (.bool b33) ∧
 Br b33 (
 ∃ n35 : Int, w11.cell? (⟨r11, 0, none⟩ : Addr) = some (.int .i64 n35) ∧
 Br (n35 == 0) (
 dwE w11 fun w12 =>
 IntKind.i64 = IntKind.i64 ∧ (8 : Int) ≠ 0 ∧
 ∃ a13 : Addr, l6.a = some a13 ∧ 0 ≤ (IntKind.i64.wrap (n8.tdiv 8)) ∧ (IntKind.i64.wrap (n8.tdiv 8)) < ((l6.len : Nat) : Int) ∧
 ∃ n41 : Int, w12.cell? (a13.add ((IntKind.i64.wrap (n8.tdiv 8)).toNat * 1)) = some (.int .u8 n41) ∧
 IntKind.i64 = IntKind.i64 ∧ (8 : Int) ≠ 0 ∧
 0 ≤ (n8.tmod 8) ∧
 ∃ a14 : Addr, l6.a = some a14 ∧ 0 ≤ (IntKind.i64.wrap (n8.tdiv 8)) ∧ (IntKind.i64.wrap (n8.tdiv 8)) < ((l6.len : Nat) : Int) ∧
 st1 (a14.add ((IntKind.i64.wrap (n8.tdiv 8)).toNat * 1)) (.int .u8 (IntKind.u8.wrap ((BitVec.ofInt 8 n41 ||| BitVec.ofInt 8 (IntKind.u8.wrap ((1 : Int) * 2 ^ (min (n8.tmod 8).toNat 8)))).toNat : Nat))) w12 fun w15 =>
 ∃ n50 : Int, w15.cell? (⟨r11, 0, none⟩ : Addr) = some (.int .i64 n50) ∧
 Br (n50 == 0) (
 ∃ n53 : Int, w15.cell? ((⟨r10, 0, none⟩ : Addr).add 2) = some (.int .i64 n53) ∧
 Calls Tryz.prog 99 #[.string (⟨#[32]⟩ : ByteArray), .int .i64 n53] w15 fun e w16 =>
 ∃ s54 : ByteArray, e = .returned (.string s54) ∧
 Calls Tryz.prog 111 #[.pointer p7, .string s54] w16 fun e w17 =>
 ∃ n55_0 : Int, ∃ v55_1 : Value, e = .returned (.tuple #[.int .i64 n55_0, v55_1]) ∧
 J1 ((IntKind.i64.wrap (n8 + 1)), (IntKind.i64.wrap (n22 + 1))) w17) (
 dwE w15 fun w18 =>
 ∃ S2 : World → Prop, S2 w18 ∧
 ∃ n58 : Int, (∀ w', S2 w' → w'.cell? ((⟨r10, 0, none⟩ : Addr).add 1) = some (.int .i64 n58)) ∧
 ∃ s61_0 : ByteArray, (∀ w', S2 w' → w'.cell? ((⟨r10, 0, none⟩ : Addr).add 0) = some (.string s61_0)) ∧
 ∃ n61_1 : Int, (∀ w', S2 w' → w'.cell? ((⟨r10, 0, none⟩ : Addr).add 1) = some (.int .i64 n61_1)) ∧
 ∃ n61_2 : Int, (∀ w', S2 w' → w'.cell? ((⟨r10, 0, none⟩ : Addr).add 2) = some (.int .i64 n61_2)) ∧
 ∃ b61_3 : Bool, (∀ w', S2 w' → w'.cell? ((⟨r10, 0, none⟩ : Addr).add 3) = some (.bool b61_3)) ∧
 ∃ n62_0 : Int, (∀ w', S2 w' → w'.cell? ((⟨r11, 0, none⟩ : Addr).add 0) = some (.int .i64 n62_0)) ∧
 ∃ n62_1 : Int, (∀ w', S2 w' → w'.cell? ((⟨r11, 0, none⟩ : Addr).add 1) = some (.int .i64 n62_1)) ∧
 ∃ s62_2 : ByteArray, (∀ w', S2 w' → w'.cell? ((⟨r11, 0, none⟩ : Addr).add 2) = some (.string s62_2)) ∧
 Calls Tryz.prog 89 #[] w18 fun e w19 =>
 ∃ m56 : Option Nat, e = .returned (.map m56) ∧
 ∃ S3 : World → Prop, S3 w19 ∧ (∀ u, S3 u → S2 u) ∧
 ∃ n59_0 : Int, ∃ n59_1 : Int, ∃ n59_2 : Int, ∃ v59_3 : Value, ∃ v59_4 : Value, (∀ w', S3 w' → (Instr.lookup 104 (.map m56) (.int .i64 n58) false).run Tryz.prog w' = .ok (.agg #[.int .u8 n59_0, .int .i64 n59_1, .int .i64 n59_2, v59_3, v59_4]) w') ∧
 fnE v59_3 fun f63 first63 cap63 =>
 hasBody Tryz.prog f63 = true ∧ Calls Tryz.prog f63 (first63.toList ++ (([.agg #[.string s61_0, .int .i64 n61_1, .int .i64 n61_2, .bool b61_3], .agg #[.int .i64 n62_0, .int .i64 n62_1, .string s62_2]] : List Value) ++ cap63.toList)).toArray w19 fun e w20 =>
 ∃ s63 : ByteArray, e = .returned (.string s63) ∧
 Calls Tryz.prog 111 #[.pointer p7, .string s63] w20 fun e w21 =>
 ∃ n64_0 : Int, ∃ v64_1 : Value, e = .returned (.tuple #[.int .i64 n64_0, v64_1]) ∧
 J1 ((IntKind.i64.wrap (n8 + 1)), (IntKind.i64.wrap (n22 + 1))) w21)) (
 ∃ n50 : Int, w11.cell? (⟨r11, 0, none⟩ : Addr) = some (.int .i64 n50) ∧
 Br (n50 == 0) (
 ∃ n53 : Int, w11.cell? ((⟨r10, 0, none⟩ : Addr).add 2) = some (.int .i64 n53) ∧
 Calls Tryz.prog 99 #[.string (⟨#[32]⟩ : ByteArray), .int .i64 n53] w11 fun e w22 =>
 ∃ s54 : ByteArray, e = .returned (.string s54) ∧
 Calls Tryz.prog 111 #[.pointer p7, .string s54] w22 fun e w23 =>
 ∃ n55_0 : Int, ∃ v55_1 : Value, e = .returned (.tuple #[.int .i64 n55_0, v55_1]) ∧
 J1 ((IntKind.i64.wrap (n8 + 1)), (IntKind.i64.wrap (n22 + 1))) w23) (
 dwE w11 fun w24 =>
 ∃ S4 : World → Prop, S4 w24 ∧
 ∃ n58 : Int, (∀ w', S4 w' → w'.cell? ((⟨r10, 0, none⟩ : Addr).add 1) = some (.int .i64 n58)) ∧
 ∃ s61_0 : ByteArray, (∀ w', S4 w' → w'.cell? ((⟨r10, 0, none⟩ : Addr).add 0) = some (.string s61_0)) ∧
 ∃ n61_1 : Int, (∀ w', S4 w' → w'.cell? ((⟨r10, 0, none⟩ : Addr).add 1) = some (.int .i64 n61_1)) ∧
 ∃ n61_2 : Int, (∀ w', S4 w' → w'.cell? ((⟨r10, 0, none⟩ : Addr).add 2) = some (.int .i64 n61_2)) ∧
 ∃ b61_3 : Bool, (∀ w', S4 w' → w'.cell? ((⟨r10, 0, none⟩ : Addr).add 3) = some (.bool b61_3)) ∧
 ∃ n62_0 : Int, (∀ w', S4 w' → w'.cell? ((⟨r11, 0, none⟩ : Addr).add 0) = some (.int .i64 n62_0)) ∧
 ∃ n62_1 : Int, (∀ w', S4 w' → w'.cell? ((⟨r11, 0, none⟩ : Addr).add 1) = some (.int .i64 n62_1)) ∧
 ∃ s62_2 : ByteArray, (∀ w', S4 w' → w'.cell? ((⟨r11, 0, none⟩ : Addr).add 2) = some (.string s62_2)) ∧
 Calls Tryz.prog 89 #[] w24 fun e w25 =>
 ∃ m56 : Option Nat, e = .returned (.map m56) ∧
 ∃ S5 : World → Prop, S5 w25 ∧ (∀ u, S5 u → S4 u) ∧
 ∃ n59_0 : Int, ∃ n59_1 : Int, ∃ n59_2 : Int, ∃ v59_3 : Value, ∃ v59_4 : Value, (∀ w', S5 w' → (Instr.lookup 104 (.map m56) (.int .i64 n58) false).run Tryz.prog w' = .ok (.agg #[.int .u8 n59_0, .int .i64 n59_1, .int .i64 n59_2, v59_3, v59_4]) w') ∧
 fnE v59_3 fun f63 first63 cap63 =>
 hasBody Tryz.prog f63 = true ∧ Calls Tryz.prog f63 (first63.toList ++ (([.agg #[.string s61_0, .int .i64 n61_1, .int .i64 n61_2, .bool b61_3], .agg #[.int .i64 n62_0, .int .i64 n62_1, .string s62_2]] : List Value) ++ cap63.toList)).toArray w25 fun e w26 =>
 ∃ s63 : ByteArray, e = .returned (.string s63) ∧
 Calls Tryz.prog 111 #[.pointer p7, .string s63] w26 fun e w27 =>
 ∃ n64_0 : Int, ∃ v64_1 : Value, e = .returned (.tuple #[.int .i64 n64_0, v64_1]) ∧
 J1 ((IntKind.i64.wrap (n8 + 1)), (IntKind.i64.wrap (n22 + 1))) w27))) (
 ∃ n50 : Int, w11.cell? (⟨r11, 0, none⟩ : Addr) = some (.int .i64 n50) ∧
 Br (n50 == 0) (
 ∃ n53 : Int, w11.cell? ((⟨r10, 0, none⟩ : Addr).add 2) = some (.int .i64 n53) ∧
 Calls Tryz.prog 99 #[.string (⟨#[32]⟩ : ByteArray), .int .i64 n53] w11 fun e w28 =>
 ∃ s54 : ByteArray, e = .returned (.string s54) ∧
 Calls Tryz.prog 111 #[.pointer p7, .string s54] w28 fun e w29 =>
 ∃ n55_0 : Int, ∃ v55_1 : Value, e = .returned (.tuple #[.int .i64 n55_0, v55_1]) ∧
 J1 (n8, (IntKind.i64.wrap (n22 + 1))) w29) (
 dwE w11 fun w30 =>
 ∃ S6 : World → Prop, S6 w30 ∧
 ∃ n58 : Int, (∀ w', S6 w' → w'.cell? ((⟨r10, 0, none⟩ : Addr).add 1) = some (.int .i64 n58)) ∧
 ∃ s61_0 : ByteArray, (∀ w', S6 w' → w'.cell? ((⟨r10, 0, none⟩ : Addr).add 0) = some (.string s61_0)) ∧
 ∃ n61_1 : Int, (∀ w', S6 w' → w'.cell? ((⟨r10, 0, none⟩ : Addr).add 1) = some (.int .i64 n61_1)) ∧
 ∃ n61_2 : Int, (∀ w', S6 w' → w'.cell? ((⟨r10, 0, none⟩ : Addr).add 2) = some (.int .i64 n61_2)) ∧
 ∃ b61_3 : Bool, (∀ w', S6 w' → w'.cell? ((⟨r10, 0, none⟩ : Addr).add 3) = some (.bool b61_3)) ∧
 ∃ n62_0 : Int, (∀ w', S6 w' → w'.cell? ((⟨r11, 0, none⟩ : Addr).add 0) = some (.int .i64 n62_0)) ∧
 ∃ n62_1 : Int, (∀ w', S6 w' → w'.cell? ((⟨r11, 0, none⟩ : Addr).add 1) = some (.int .i64 n62_1)) ∧
 ∃ s62_2 : ByteArray, (∀ w', S6 w' → w'.cell? ((⟨r11, 0, none⟩ : Addr).add 2) = some (.string s62_2)) ∧
 Calls Tryz.prog 89 #[] w30 fun e w31 =>
 ∃ m56 : Option Nat, e = .returned (.map m56) ∧
 ∃ S7 : World → Prop, S7 w31 ∧ (∀ u, S7 u → S6 u) ∧
 ∃ n59_0 : Int, ∃ n59_1 : Int, ∃ n59_2 : Int, ∃ v59_3 : Value, ∃ v59_4 : Value, (∀ w', S7 w' → (Instr.lookup 104 (.map m56) (.int .i64 n58) false).run Tryz.prog w' = .ok (.agg #[.int .u8 n59_0, .int .i64 n59_1, .int .i64 n59_2, v59_3, v59_4]) w') ∧
 fnE v59_3 fun f63 first63 cap63 =>
 hasBody Tryz.prog f63 = true ∧ Calls Tryz.prog f63 (first63.toList ++ (([.agg #[.string s61_0, .int .i64 n61_1, .int .i64 n61_2, .bool b61_3], .agg #[.int .i64 n62_0, .int .i64 n62_1, .string s62_2]] : List Value) ++ cap63.toList)).toArray w31 fun e w32 =>
 ∃ s63 : ByteArray, e = .returned (.string s63) ∧
 Calls Tryz.prog 111 #[.pointer p7, .string s63] w32 fun e w33 =>
 ∃ n64_0 : Int, ∃ v64_1 : Value, e = .returned (.tuple #[.int .i64 n64_0, v64_1]) ∧
 J1 (n8, (IntKind.i64.wrap (n22 + 1))) w33))) (
 F63_1 R l5 l6 p7 ds w)
def F63_3 (R : Rt) (p3 : Option Addr) (l5 : SV) (l6 : SV) (p7 : Option Addr) (n8 : Int) (l20 : SV) (n21 : Int) (n22 : Int) (ds : Ds) (w : World) : Prop :=
 loopT (fun (J1 : (Int × Int) → World → Prop) (s : Int × Int) (w : World) => F63_2 R J1 p3 l5 l6 p7 s.1 l20 n21 s.2 ds w) (n8, n22) w
@[reducible] def F63_4 (R : Rt) (p3 : Option Addr) (l5 : SV) (l6 : SV) (p7 : Option Addr) (n8 : Int) (l20 : SV) (n21 : Int) (n22 : Int) (ds : Ds) (w : World) : Prop := F63_3 R p3 l5 l6 p7 n8 l20 n21 n22 ds w
def F63_k6 (R : Rt) : EP := (fun ρ ds w => dPtr (ρ 3) fun p3 => dSl (ρ 5) fun l5 => dSl (ρ 6) fun l6 => dPtr (ρ 7) fun p7 => dInt .i64 (ρ 8) fun n8 => dSl (ρ 20) fun l20 => dInt .i64 (ρ 21) fun n21 => dInt .i64 (ρ 22) fun n22 => F63_4 R p3 l5 l6 p7 n8 l20 n21 n22 ds w)
def F63_5 (R : Rt) (l0 : SV) (b1_0 : Bool) (l1_1 : SV) (ds : Ds) (w : World) : Prop :=
 alE (.cells #[.bool b1_0, .slice l1_1.a l1_1.len l1_1.cap] 46) w fun r3 w34 =>
 alE (.cells #[.int .u8 32] 5) w34 fun r12 w35 =>
 ∃ b14 : Bool, w35.cell? (⟨r3, 0, none⟩ : Addr) = some (.bool b14) ∧
 Br b14 (
 ∃ a36 : Addr, (some ⟨r12, 0, none⟩) = some a36 ∧ 0 ≤ (0 : Int) ∧ (0 : Int) < ((1 : Nat) : Int) ∧
 st1 (a36.add ((0 : Int).toNat * 1)) (.int .u8 42) w35 fun w37 =>
 Calls Tryz.prog 71 #[.slice l0.a l0.len l0.cap] w37 fun e w38 =>
 ∃ n18 : Int, e = .returned (.int .i64 n18) ∧
 ∃ l19 : SV, ∃ w39 : World, (Instr.makeSlice 37 (.int .i64 n18) (.int .i64 n18)).run Tryz.prog w38 = .ok (.slice l19.a l19.len l19.cap) w39 ∧
 alE (.cells #[.pointer none, .slice none 0 0] 126) w39 fun r7 w40 =>
 F63_4 R (some (⟨r3, 0, none⟩ : Addr)) ⟨(some ⟨r12, 0, none⟩), 1, 1⟩ l19 (some (⟨r7, 0, none⟩ : Addr)) 0 l0 ((l0.len : Nat) : Int) 0 ds w40) (
 Calls Tryz.prog 71 #[.slice l0.a l0.len l0.cap] w35 fun e w41 =>
 ∃ n18 : Int, e = .returned (.int .i64 n18) ∧
 ∃ l19 : SV, ∃ w42 : World, (Instr.makeSlice 37 (.int .i64 n18) (.int .i64 n18)).run Tryz.prog w41 = .ok (.slice l19.a l19.len l19.cap) w42 ∧
 alE (.cells #[.pointer none, .slice none 0 0] 126) w42 fun r7 w43 =>
 F63_4 R (some (⟨r3, 0, none⟩ : Addr)) ⟨(some ⟨r12, 0, none⟩), 1, 1⟩ l19 (some (⟨r7, 0, none⟩ : Addr)) 0 l0 ((l0.len : Nat) : Int) 0 ds w43)
theorem c63_l : flat (bodyOf Tryz.f63) = [c63_0, c63_1, c63_2, c63_3, c63_4, c63_5, c63_6, c63_7, c63_8, c63_9, c63_10] := by kernel_rfl
theorem c63_8_l : flat (innerC c63_8) = [c63_8_0] := by kernel_rfl
theorem c63_8_0_l : flat (innerC c63_8_0) = [c63_8_0_0, c63_8_0_1, c63_8_0_2, c63_8_0_3] := by kernel_rfl
theorem F63_1_ok (R : Rt) (l5 : SV) (l6 : SV) (p7 : Option Addr) (ds : Ds) (w : World) (ρ : Env) (e5 : ρ 5 = .slice l5.a l5.len l5.cap) (e6 : ρ 6 = .slice l6.a l6.len l6.cap) (e7 : ρ 7 = .pointer p7) (h : F63_1 R l5 l6 p7 ds w) :
    TrL Tryz.prog Tryz.f63.ntmps [c63_9, c63_10] (F63_q1 R) ρ ds w :=
  TrL_leaf (X := F63_1 R l5 l6 p7 ds w) (setAll_cons e5 (setAll_cons e6 (setAll_cons e7 setAll_nil))) (by kernel_rfl) (by kernel_rfl) h
theorem F63_2_ok (R : Rt) (J1 : (Int × Int) → World → Prop) (p3 : Option Addr) (l5 : SV) (l6 : SV) (p7 : Option Addr) (n8 : Int) (l20 : SV) (n21 : Int) (n22 : Int) (ds : Ds) (w : World) (ρ : Env) (e3 : ρ 3 = .pointer p3) (e5 : ρ 5 = .slice l5.a l5.len l5.cap) (e6 : ρ 6 = .slice l6.a l6.len l6.cap) (e7 : ρ 7 = .pointer p7) (e8 : ρ 8 = .int .i64 n8) (e20 : ρ 20 = .slice l20.a l20.len l20.cap) (e21 : ρ 21 = .int .i64 n21) (e22 : ρ 22 = .int .i64 n22) (h : F63_2 R J1 p3 l5 l6 p7 n8 l20 n21 n22 ds w) :
    TrL Tryz.prog Tryz.f63.ntmps [c63_8_0_0, c63_8_0_1, c63_8_0_2, c63_8_0_3] (F63_q5 R J1) ρ ds w :=
  TrL_leaf (X := F63_2 R J1 p3 l5 l6 p7 n8 l20 n21 n22 ds w) (setAll_cons e3 (setAll_cons e5 (setAll_cons e6 (setAll_cons e7 (setAll_cons e8 (setAll_cons e20 (setAll_cons e21 (setAll_cons e22 setAll_nil)))))))) (by kernel_rfl) (by kernel_rfl) h
theorem F63_3_ok (R : Rt) (p3 : Option Addr) (l5 : SV) (l6 : SV) (p7 : Option Addr) (n8 : Int) (l20 : SV) (n21 : Int) (n22 : Int) (ds : Ds) (w : World) (ρ : Env) (e3 : ρ 3 = .pointer p3) (e5 : ρ 5 = .slice l5.a l5.len l5.cap) (e6 : ρ 6 = .slice l6.a l6.len l6.cap) (e7 : ρ 7 = .pointer p7) (e8 : ρ 8 = .int .i64 n8) (e20 : ρ 20 = .slice l20.a l20.len l20.cap) (e21 : ρ 21 = .int .i64 n21) (e22 : ρ 22 = .int .i64 n22) (h : F63_3 R p3 l5 l6 p7 n8 l20 n21 n22 ds w) :
    TrL Tryz.prog Tryz.f63.ntmps [c63_8_0] (F63_q4 R) ρ ds w :=
  TrL_one (Tr_loop' (c := innerC c63_8_0) (σ := Int × Int) (enc := (fun (s : Int × Int) (ρ : Env) => ρ 8 = .int .i64 s.1 ∧ ρ 22 = .int .i64 s.2)) (D := (fun ρ K => dInt .i64 (ρ 8) fun n8 => dInt .i64 (ρ 22) fun n22 => K (n8, n22))) (F := (fun (J1 : (Int × Int) → World → Prop) (s : Int × Int) (w : World) => F63_2 R J1 p3 l5 l6 p7 s.1 l20 n21 s.2 ds w)) (s0 := (n8, n22)) (by kernel_rfl) c63_8_0_l ⟨e8, e22⟩ (by kernel_rfl) (fun ρ K hD => by obtain ⟨n8, e8, hD⟩ := dInt_elim hD; obtain ⟨n22, e22, hD⟩ := dInt_elim hD; exact ⟨(n8, n22), ⟨e8, e22⟩, hD⟩)
      (fun J1 s ρ' w' he ha hF => by
      obtain ⟨e8', e22'⟩ := he
      exact F63_2_ok R J1 p3 l5 l6 p7 s.1 l20 n21 s.2 ds w' ρ' ((ha 3 (by kernel_rfl)).trans e3) ((ha 5 (by kernel_rfl)).trans e5) ((ha 6 (by kernel_rfl)).trans e6) ((ha 7 (by kernel_rfl)).trans e7) e8' ((ha 20 (by kernel_rfl)).trans e20) ((ha 21 (by kernel_rfl)).trans e21) e22' hF) h)
theorem F63_4_ok (R : Rt) (p3 : Option Addr) (l5 : SV) (l6 : SV) (p7 : Option Addr) (n8 : Int) (l20 : SV) (n21 : Int) (n22 : Int) (ds : Ds) (w : World) (ρ : Env) (e3 : ρ 3 = .pointer p3) (e5 : ρ 5 = .slice l5.a l5.len l5.cap) (e6 : ρ 6 = .slice l6.a l6.len l6.cap) (e7 : ρ 7 = .pointer p7) (e8 : ρ 8 = .int .i64 n8) (e20 : ρ 20 = .slice l20.a l20.len l20.cap) (e21 : ρ 21 = .int .i64 n21) (e22 : ρ 22 = .int .i64 n22) (h : F63_4 R p3 l5 l6 p7 n8 l20 n21 n22 ds w) :
    TrL Tryz.prog Tryz.f63.ntmps [c63_8, c63_9, c63_10] (F63_q1 R) ρ ds w :=
  TrL_head (K := (F63_k2 R)) (Tr_block' (c := innerC c63_8) (by kernel_rfl) c63_8_l (F63_3_ok R p3 l5 l6 p7 n8 l20 n21 n22 ds w ρ e3 e5 e6 e7 e8 e20 e21 e22 h))
    (fun ρ' ds' w' hD => by
      obtain ⟨l5, e5, hD⟩ := dSl_elim hD; obtain ⟨l6, e6, hD⟩ := dSl_elim hD; obtain ⟨p7, e7, hD⟩ := dPtr_elim hD; exact F63_1_ok R l5 l6 p7 ds' w' ρ' e5 e6 e7 hD)
theorem F63_5_ok (R : Rt) (l0 : SV) (b1_0 : Bool) (l1_1 : SV) (ds : Ds) (w : World) (ρ : Env) (e0 : ρ 0 = .slice l0.a l0.len l0.cap) (e1 : ρ 1 = .agg #[.bool b1_0, .slice l1_1.a l1_1.len l1_1.cap]) (h : F63_5 R l0 b1_0 l1_1 ds w) :
    TrL Tryz.prog Tryz.f63.ntmps [c63_0, c63_1, c63_2, c63_3, c63_4, c63_5, c63_6, c63_7, c63_8, c63_9, c63_10] (F63_q1 R) ρ ds w :=
  TrL_piece (pre := [c63_0, c63_1, c63_2, c63_3, c63_4, c63_5, c63_6, c63_7]) (K := (F63_k6 R)) (X := F63_5 R l0 b1_0 l1_1 ds w) (setAll_cons e0 (setAll_cons e1 setAll_nil)) (by kernel_rfl) (by kernel_rfl)
    (fun ρ' ds' w' hD => by
      obtain ⟨p3, e3, hD⟩ := dPtr_elim hD; obtain ⟨l5, e5, hD⟩ := dSl_elim hD; obtain ⟨l6, e6, hD⟩ := dSl_elim hD; obtain ⟨p7, e7, hD⟩ := dPtr_elim hD; obtain ⟨n8, e8, hD⟩ := dInt_elim hD; obtain ⟨l20, e20, hD⟩ := dSl_elim hD; obtain ⟨n21, e21, hD⟩ := dInt_elim hD; obtain ⟨n22, e22, hD⟩ := dInt_elim hD; exact F63_4_ok R p3 l5 l6 p7 n8 l20 n21 n22 ds' w' ρ' e3 e5 e6 e7 e8 e20 e21 e22 hD) h
theorem F63_calls (l0 : SV) (b1_0 : Bool) (l1_1 : SV) (w : World) (R : Rt) (h : F63_5 R l0 b1_0 l1_1 [] w) : Calls Tryz.prog 63 #[.slice l0.a l0.len l0.cap, .agg #[.bool b1_0, .slice l1_1.a l1_1.len l1_1.cap]] w R :=
  calls_of_L (l := [c63_0, c63_1, c63_2, c63_3, c63_4, c63_5, c63_6, c63_7, c63_8, c63_9, c63_10]) Tryz.func63 (by kernel_rfl) (by rw [Tryz.ntmps63]; exact Nat.le_of_ble_eq_true (by kernel_rfl)) c63_l
    (F63_5_ok R l0 b1_0 l1_1 [] w _ rfl rfl h)
theorem F63_callsD (l0 : SV) (b1_0 : Bool) (l1_1 : SV) (w : World) (R : Rt) (u : FrameMode) (h : F63_5 R l0 b1_0 l1_1 [] w) : CallsD Tryz.prog 63 #[.slice l0.a l0.len l0.cap, .agg #[.bool b1_0, .slice l1_1.a l1_1.len l1_1.cap]] u w fun e u' w' => u' = u ∧ R e w' :=
  callsD_of_L (l := [c63_0, c63_1, c63_2, c63_3, c63_4, c63_5, c63_6, c63_7, c63_8, c63_9, c63_10]) Tryz.func63 (by kernel_rfl) (by rw [Tryz.ntmps63]; exact Nat.le_of_ble_eq_true (by kernel_rfl)) (by kernel_rfl) c63_l
    (F63_5_ok R l0 b1_0 l1_1 [] w _ rfl rfl h) u

/-! function 131: cabinetry/table.writeText -/
noncomputable def c131_0 : Code := itemAt (flat (bodyOf Tryz.f131)) 0
noncomputable def c131_1 : Code := itemAt (flat (bodyOf Tryz.f131)) 1
noncomputable def c131_2 : Code := itemAt (flat (bodyOf Tryz.f131)) 2
def F131_q1 (R : Rt) : EQ := endQ Tryz.prog Tryz.f131.results.toList R
def F131_1 (R : Rt) (s0_0 : ByteArray) (n0_1 : Int) (n0_2 : Int) (b0_3 : Bool) (n1_0 : Int) (n1_1 : Int) (s1_2 : ByteArray) (ds : Ds) (w : World) : Prop :=
 alE (.cells #[.string s0_0, .int .i64 n0_1, .int .i64 n0_2, .bool b0_3] 23) w fun r2 w1 =>
 alE (.cells #[.int .i64 n1_0, .int .i64 n1_1, .string s1_2] 25) w1 fun r3 w2 =>
 dwE w2 fun w3 =>
 ∃ S1 : World → Prop, S1 w3 ∧
 ∃ s6 : ByteArray, (∀ w', S1 w' → w'.cell? ((⟨r3, 0, none⟩ : Addr).add 2) = some (.string s6)) ∧
 ∃ n8 : Int, (∀ w', S1 w' → w'.cell? ((⟨r2, 0, none⟩ : Addr).add 2) = some (.int .i64 n8)) ∧
 ∃ s10 : ByteArray, (∀ w', S1 w' → w'.cell? ((⟨r3, 0, none⟩ : Addr).add 2) = some (.string s10)) ∧
 Calls Tryz.prog 99 #[.string (⟨#[32]⟩ : ByteArray), .int .i64 (IntKind.i64.wrap (n8 - ((s10.size : Nat) : Int)))] w3 fun e w4 =>
 ∃ s13 : ByteArray, e = .returned (.string s13) ∧
 S1 w4 ∧
 ((s6.size + s13.size : Nat) : Int) ≤ 9223372036854775807 ∧
 runD Tryz.prog ds w4 fun w5 =>
 R (.returned (.string (s6 ++ s13))) w5
theorem c131_l : flat (bodyOf Tryz.f131) = [c131_0, c131_1, c131_2] := by kernel_rfl
theorem F131_1_ok (R : Rt) (s0_0 : ByteArray) (n0_1 : Int) (n0_2 : Int) (b0_3 : Bool) (n1_0 : Int) (n1_1 : Int) (s1_2 : ByteArray) (ds : Ds) (w : World) (ρ : Env) (e0 : ρ 0 = .agg #[.string s0_0, .int .i64 n0_1, .int .i64 n0_2, .bool b0_3]) (e1 : ρ 1 = .agg #[.int .i64 n1_0, .int .i64 n1_1, .string s1_2]) (h : F131_1 R s0_0 n0_1 n0_2 b0_3 n1_0 n1_1 s1_2 ds w) :
    TrL Tryz.prog Tryz.f131.ntmps [c131_0, c131_1, c131_2] (F131_q1 R) ρ ds w :=
  TrL_leaf (X := F131_1 R s0_0 n0_1 n0_2 b0_3 n1_0 n1_1 s1_2 ds w) (setAll_cons e0 (setAll_cons e1 setAll_nil)) (by kernel_rfl) (by kernel_rfl) h
theorem F131_calls (s0_0 : ByteArray) (n0_1 : Int) (n0_2 : Int) (b0_3 : Bool) (n1_0 : Int) (n1_1 : Int) (s1_2 : ByteArray) (w : World) (R : Rt) (h : F131_1 R s0_0 n0_1 n0_2 b0_3 n1_0 n1_1 s1_2 [] w) : Calls Tryz.prog 131 #[.agg #[.string s0_0, .int .i64 n0_1, .int .i64 n0_2, .bool b0_3], .agg #[.int .i64 n1_0, .int .i64 n1_1, .string s1_2]] w R :=
  calls_of_L (l := [c131_0, c131_1, c131_2]) Tryz.func131 (by kernel_rfl) (by rw [Tryz.ntmps131]; exact Nat.le_of_ble_eq_true (by kernel_rfl)) c131_l
    (F131_1_ok R s0_0 n0_1 n0_2 b0_3 n1_0 n1_1 s1_2 [] w _ rfl rfl h)
theorem F131_callsD (s0_0 : ByteArray) (n0_1 : Int) (n0_2 : Int) (b0_3 : Bool) (n1_0 : Int) (n1_1 : Int) (s1_2 : ByteArray) (w : World) (R : Rt) (u : FrameMode) (h : F131_1 R s0_0 n0_1 n0_2 b0_3 n1_0 n1_1 s1_2 [] w) : CallsD Tryz.prog 131 #[.agg #[.string s0_0, .int .i64 n0_1, .int .i64 n0_2, .bool b0_3], .agg #[.int .i64 n1_0, .int .i64 n1_1, .string s1_2]] u w fun e u' w' => u' = u ∧ R e w' :=
  callsD_of_L (l := [c131_0, c131_1, c131_2]) Tryz.func131 (by kernel_rfl) (by rw [Tryz.ntmps131]; exact Nat.le_of_ble_eq_true (by kernel_rfl)) (by kernel_rfl) c131_l
    (F131_1_ok R s0_0 n0_1 n0_2 b0_3 n1_0 n1_1 s1_2 [] w _ rfl rfl h) u

end Go.Proofs.YtecmfdfhpldmmaaGreatDoor
