import Derived.Test.YtecmfdfhpldmmaaGreatDoorProg
import Derived.Test.YtecmfdfhpldmmaaGreatDoorShEight
/- Shallow texts of functions, printed by program, each checked by the kernel against the loaded code. No condition. -/
set_option maxRecDepth 100000
set_option linter.unusedVariables false
namespace Go.Proofs.YtecmfdfhpldmmaaGreatDoor
open Go.Sh
/-! function 7: cabinetry/cabinetrylaw03.TableDiffers -/
noncomputable def c7_0 : Code := itemAt (flat (bodyOf Tryz.f7)) 0
noncomputable def c7_1 : Code := itemAt (flat (bodyOf Tryz.f7)) 1
noncomputable def c7_2 : Code := itemAt (flat (bodyOf Tryz.f7)) 2
noncomputable def c7_3 : Code := itemAt (flat (bodyOf Tryz.f7)) 3
noncomputable def c7_4 : Code := itemAt (flat (bodyOf Tryz.f7)) 4
noncomputable def c7_5 : Code := itemAt (flat (bodyOf Tryz.f7)) 5
noncomputable def c7_6 : Code := itemAt (flat (bodyOf Tryz.f7)) 6
def F7_q1 (R : Rt) : EQ := endQ Tryz.prog Tryz.f7.results.toList R
def F7_1 (R : Rt) (n0_0 : Int) (l0_1 : SV) (l0_2 : SV) (n1_0 : Int) (l1_1 : SV) (l1_2 : SV) (ds : Ds) (w : World) : Prop :=
 alE (.cells #[.int .i64 n0_0, .slice l0_1.a l0_1.len l0_1.cap, .slice l0_2.a l0_2.len l0_2.cap] 35) w fun r2 w1 =>
 alE (.cells #[.int .i64 n1_0, .slice l1_1.a l1_1.len l1_1.cap, .slice l1_2.a l1_2.len l1_2.cap] 35) w1 fun r3 w2 =>
 ∃ n9_0 : Int, w2.cell? ((⟨r2, 0, none⟩ : Addr).add 0) = some (.int .i64 n9_0) ∧
 ∃ l9_1 : SV, w2.cell? ((⟨r2, 0, none⟩ : Addr).add 1) = some (.slice l9_1.a l9_1.len l9_1.cap) ∧
 ∃ l9_2 : SV, w2.cell? ((⟨r2, 0, none⟩ : Addr).add 2) = some (.slice l9_2.a l9_2.len l9_2.cap) ∧
 Calls Tryz.prog 16 #[.agg #[.int .i64 n9_0, .slice l9_1.a l9_1.len l9_1.cap, .slice l9_2.a l9_2.len l9_2.cap]] w2 fun e w3 =>
 ∃ b10 : Bool, e = .returned (.bool b10) ∧
 Br b10 (
 Calls Tryz.prog 12 #[] w3 fun e w4 =>
 ∃ b15 : Bool, e = .returned (.bool b15) ∧
 runD Tryz.prog ds w4 fun w5 =>
 R (.returned (.bool b15)) w5) (
 ∃ n12_0 : Int, w3.cell? ((⟨r3, 0, none⟩ : Addr).add 0) = some (.int .i64 n12_0) ∧
 ∃ l12_1 : SV, w3.cell? ((⟨r3, 0, none⟩ : Addr).add 1) = some (.slice l12_1.a l12_1.len l12_1.cap) ∧
 ∃ l12_2 : SV, w3.cell? ((⟨r3, 0, none⟩ : Addr).add 2) = some (.slice l12_2.a l12_2.len l12_2.cap) ∧
 Calls Tryz.prog 16 #[.agg #[.int .i64 n12_0, .slice l12_1.a l12_1.len l12_1.cap, .slice l12_2.a l12_2.len l12_2.cap]] w3 fun e w6 =>
 ∃ b13 : Bool, e = .returned (.bool b13) ∧
 Br b13 (
 Calls Tryz.prog 12 #[] w6 fun e w7 =>
 ∃ b15 : Bool, e = .returned (.bool b15) ∧
 runD Tryz.prog ds w7 fun w8 =>
 R (.returned (.bool b15)) w8) (
 ∃ n17_0 : Int, w6.cell? ((⟨r2, 0, none⟩ : Addr).add 0) = some (.int .i64 n17_0) ∧
 ∃ l17_1 : SV, w6.cell? ((⟨r2, 0, none⟩ : Addr).add 1) = some (.slice l17_1.a l17_1.len l17_1.cap) ∧
 ∃ l17_2 : SV, w6.cell? ((⟨r2, 0, none⟩ : Addr).add 2) = some (.slice l17_2.a l17_2.len l17_2.cap) ∧
 ∃ n18_0 : Int, w6.cell? ((⟨r3, 0, none⟩ : Addr).add 0) = some (.int .i64 n18_0) ∧
 ∃ l18_1 : SV, w6.cell? ((⟨r3, 0, none⟩ : Addr).add 1) = some (.slice l18_1.a l18_1.len l18_1.cap) ∧
 ∃ l18_2 : SV, w6.cell? ((⟨r3, 0, none⟩ : Addr).add 2) = some (.slice l18_2.a l18_2.len l18_2.cap) ∧
 Calls Tryz.prog 39 #[.agg #[.int .i64 n17_0, .slice l17_1.a l17_1.len l17_1.cap, .slice l17_2.a l17_2.len l17_2.cap], .agg #[.int .i64 n18_0, .slice l18_1.a l18_1.len l18_1.cap, .slice l18_2.a l18_2.len l18_2.cap]] w6 fun e w9 =>
 ∃ l19_0 : SV, ∃ n19_1 : Int, e = .returned (.tuple #[.slice l19_0.a l19_0.len l19_0.cap, .int .i64 n19_1]) ∧
 ∃ n23_0 : Int, w9.cell? ((⟨r2, 0, none⟩ : Addr).add 0) = some (.int .i64 n23_0) ∧
 ∃ l23_1 : SV, w9.cell? ((⟨r2, 0, none⟩ : Addr).add 1) = some (.slice l23_1.a l23_1.len l23_1.cap) ∧
 ∃ l23_2 : SV, w9.cell? ((⟨r2, 0, none⟩ : Addr).add 2) = some (.slice l23_2.a l23_2.len l23_2.cap) ∧
 ∃ n24_0 : Int, w9.cell? ((⟨r3, 0, none⟩ : Addr).add 0) = some (.int .i64 n24_0) ∧
 ∃ l24_1 : SV, w9.cell? ((⟨r3, 0, none⟩ : Addr).add 1) = some (.slice l24_1.a l24_1.len l24_1.cap) ∧
 ∃ l24_2 : SV, w9.cell? ((⟨r3, 0, none⟩ : Addr).add 2) = some (.slice l24_2.a l24_2.len l24_2.cap) ∧
 Calls Tryz.prog 40 #[.agg #[.int .i64 n23_0, .slice l23_1.a l23_1.len l23_1.cap, .slice l23_2.a l23_2.len l23_2.cap], .agg #[.int .i64 n24_0, .slice l24_1.a l24_1.len l24_1.cap, .slice l24_2.a l24_2.len l24_2.cap]] w9 fun e w10 =>
 ∃ l25_0 : SV, ∃ n25_1 : Int, e = .returned (.tuple #[.slice l25_0.a l25_0.len l25_0.cap, .int .i64 n25_1]) ∧
 Calls Tryz.prog 38 #[.slice l19_0.a l19_0.len l19_0.cap, .slice l25_0.a l25_0.len l25_0.cap] w10 fun e w11 =>
 ∃ b30 : Bool, e = .returned (.bool b30) ∧
 Br b30 (
 Br (n19_1 == n25_1) (
 Calls Tryz.prog 12 #[] w11 fun e w12 =>
 ∃ b37 : Bool, e = .returned (.bool b37) ∧
 runD Tryz.prog ds w12 fun w13 =>
 R (.returned (.bool b37)) w13) (
 runD Tryz.prog ds w11 fun w14 =>
 R (.returned (.bool false)) w14)) (
 runD Tryz.prog ds w11 fun w15 =>
 R (.returned (.bool false)) w15)))
theorem c7_l : flat (bodyOf Tryz.f7) = [c7_0, c7_1, c7_2, c7_3, c7_4, c7_5, c7_6] := by kernel_rfl
theorem F7_1_ok (R : Rt) (n0_0 : Int) (l0_1 : SV) (l0_2 : SV) (n1_0 : Int) (l1_1 : SV) (l1_2 : SV) (ds : Ds) (w : World) (ρ : Env) (e0 : ρ 0 = .agg #[.int .i64 n0_0, .slice l0_1.a l0_1.len l0_1.cap, .slice l0_2.a l0_2.len l0_2.cap]) (e1 : ρ 1 = .agg #[.int .i64 n1_0, .slice l1_1.a l1_1.len l1_1.cap, .slice l1_2.a l1_2.len l1_2.cap]) (h : F7_1 R n0_0 l0_1 l0_2 n1_0 l1_1 l1_2 ds w) :
    TrL Tryz.prog Tryz.f7.ntmps [c7_0, c7_1, c7_2, c7_3, c7_4, c7_5, c7_6] (F7_q1 R) ρ ds w :=
  TrL_leaf (X := F7_1 R n0_0 l0_1 l0_2 n1_0 l1_1 l1_2 ds w) (setAll_cons e0 (setAll_cons e1 setAll_nil)) (by kernel_rfl) (by kernel_rfl) h
theorem F7_calls (n0_0 : Int) (l0_1 : SV) (l0_2 : SV) (n1_0 : Int) (l1_1 : SV) (l1_2 : SV) (w : World) (R : Rt) (h : F7_1 R n0_0 l0_1 l0_2 n1_0 l1_1 l1_2 [] w) : Calls Tryz.prog 7 #[.agg #[.int .i64 n0_0, .slice l0_1.a l0_1.len l0_1.cap, .slice l0_2.a l0_2.len l0_2.cap], .agg #[.int .i64 n1_0, .slice l1_1.a l1_1.len l1_1.cap, .slice l1_2.a l1_2.len l1_2.cap]] w R :=
  calls_of_L (l := [c7_0, c7_1, c7_2, c7_3, c7_4, c7_5, c7_6]) Tryz.func7 (by kernel_rfl) (by rw [Tryz.ntmps7]; exact Nat.le_of_ble_eq_true (by kernel_rfl)) c7_l
    (F7_1_ok R n0_0 l0_1 l0_2 n1_0 l1_1 l1_2 [] w _ rfl rfl h)
theorem F7_callsD (n0_0 : Int) (l0_1 : SV) (l0_2 : SV) (n1_0 : Int) (l1_1 : SV) (l1_2 : SV) (w : World) (R : Rt) (u : FrameMode) (h : F7_1 R n0_0 l0_1 l0_2 n1_0 l1_1 l1_2 [] w) : CallsD Tryz.prog 7 #[.agg #[.int .i64 n0_0, .slice l0_1.a l0_1.len l0_1.cap, .slice l0_2.a l0_2.len l0_2.cap], .agg #[.int .i64 n1_0, .slice l1_1.a l1_1.len l1_1.cap, .slice l1_2.a l1_2.len l1_2.cap]] u w fun e u' w' => u' = u ∧ R e w' :=
  callsD_of_L (l := [c7_0, c7_1, c7_2, c7_3, c7_4, c7_5, c7_6]) Tryz.func7 (by kernel_rfl) (by rw [Tryz.ntmps7]; exact Nat.le_of_ble_eq_true (by kernel_rfl)) (by kernel_rfl) c7_l
    (F7_1_ok R n0_0 l0_1 l0_2 n1_0 l1_1 l1_2 [] w _ rfl rfl h) u

/-! function 39: cabinetry/table.Differ -/
noncomputable def c39_0 : Code := itemAt (flat (bodyOf Tryz.f39)) 0
noncomputable def c39_1 : Code := itemAt (flat (bodyOf Tryz.f39)) 1
noncomputable def c39_2 : Code := itemAt (flat (bodyOf Tryz.f39)) 2
noncomputable def c39_3 : Code := itemAt (flat (bodyOf Tryz.f39)) 3
noncomputable def c39_4 : Code := itemAt (flat (bodyOf Tryz.f39)) 4
noncomputable def c39_5 : Code := itemAt (flat (bodyOf Tryz.f39)) 5
noncomputable def c39_6 : Code := itemAt (flat (bodyOf Tryz.f39)) 6
noncomputable def c39_7 : Code := itemAt (flat (bodyOf Tryz.f39)) 7
noncomputable def c39_8 : Code := itemAt (flat (bodyOf Tryz.f39)) 8
noncomputable def c39_9 : Code := itemAt (flat (bodyOf Tryz.f39)) 9
noncomputable def c39_10 : Code := itemAt (flat (bodyOf Tryz.f39)) 10
noncomputable def c39_11 : Code := itemAt (flat (bodyOf Tryz.f39)) 11
noncomputable def c39_12 : Code := itemAt (flat (bodyOf Tryz.f39)) 12
noncomputable def c39_13 : Code := itemAt (flat (bodyOf Tryz.f39)) 13
noncomputable def c39_11_0 : Code := itemAt (flat (innerC c39_11)) 0
noncomputable def c39_11_0_0 : Code := itemAt (flat (innerC c39_11_0)) 0
noncomputable def c39_11_0_1 : Code := itemAt (flat (innerC c39_11_0)) 1
noncomputable def c39_11_0_2 : Code := itemAt (flat (innerC c39_11_0)) 2
noncomputable def c39_11_0_3 : Code := itemAt (flat (innerC c39_11_0)) 3
def F39_q1 (R : Rt) : EQ := endQ Tryz.prog Tryz.f39.results.toList R
def F39_1 (R : Rt) (l8 : SV) (ds : Ds) (w : World) : Prop :=
 runD Tryz.prog ds w fun w1 =>
 R (.returned (.tuple #[.slice l8.a l8.len l8.cap, .int .i64 0])) w1
def F39_k2 (R : Rt) : EP := (fun ρ ds w => dSl (ρ 8) fun l8 => F39_1 R l8 ds w)
def F39_q3 (R : Rt) : EQ := (thenQ (F39_k2 R) (F39_q1 R))
def F39_q4 (R : Rt) : EQ := (blockQ 0 (F39_q3 R))
def F39_q5 (R : Rt) (J1 : (SV × Int) → World → Prop) : EQ := (thenQ (fun ρ _ w => dSl (ρ 8) fun l8 => dInt .i64 (ρ 40) fun n40 => J1 (l8, n40) w) (F39_q4 R))
def F39_2 (R : Rt) (J1 : (SV × Int) → World → Prop) (p2 : Option Addr) (p3 : Option Addr) (l8 : SV) (n39 : Int) (n40 : Int) (ds : Ds) (w : World) : Prop :=
 J1 (l8, (IntKind.i64.wrap (n40 + 1))) w
def F39_k6 (R : Rt) (J1 : (SV × Int) → World → Prop) : EP := (fun ρ ds w => dPtr (ρ 2) fun p2 => dPtr (ρ 3) fun p3 => dSl (ρ 8) fun l8 => dInt .i64 (ρ 39) fun n39 => dInt .i64 (ρ 40) fun n40 => F39_2 R J1 p2 p3 l8 n39 n40 ds w)
def F39_3 (R : Rt) (J1 : (SV × Int) → World → Prop) (p2 : Option Addr) (p3 : Option Addr) (l8 : SV) (n39 : Int) (n40 : Int) (ds : Ds) (w : World) : Prop :=
 Br (decide (n40 < n39)) (
 dwE w fun w2 =>
 ptrE p2 fun a3 =>
 ∃ l45 : SV, w2.cell? (a3.add 2) = some (.slice l45.a l45.len l45.cap) ∧
 Br (decide (n40 ≥ ((l45.len : Nat) : Int))) (
 alE (.cells #[.int .i64 (IntKind.i64.wrap (n40 + 1))] 3) w2 fun r89 w4 =>
 ∃ l90 : SV, ∃ w5 : World, (Builtin.append_ #[55, 55] 55 #[.slice l8.a l8.len l8.cap, .slice (some ⟨r89, 0, none⟩) 1 1]).run Tryz.prog w4 = .ok (.slice l90.a l90.len l90.cap) w5 ∧
 F39_2 R J1 p2 p3 l90 n39 n40 ds w5) (
 ptrE p3 fun a6 =>
 ∃ l51 : SV, w2.cell? (a6.add 2) = some (.slice l51.a l51.len l51.cap) ∧
 Br (decide (n40 ≥ ((l51.len : Nat) : Int))) (
 alE (.cells #[.int .i64 (IntKind.i64.wrap (n40 + 1))] 3) w2 fun r89 w7 =>
 ∃ l90 : SV, ∃ w8 : World, (Builtin.append_ #[55, 55] 55 #[.slice l8.a l8.len l8.cap, .slice (some ⟨r89, 0, none⟩) 1 1]).run Tryz.prog w7 = .ok (.slice l90.a l90.len l90.cap) w8 ∧
 F39_2 R J1 p2 p3 l90 n39 n40 ds w8) (
 ptrE p2 fun a9 =>
 ∃ l57 : SV, w2.cell? (a9.add 2) = some (.slice l57.a l57.len l57.cap) ∧
 ∃ a10 : Addr, l57.a = some a10 ∧ 0 ≤ n40 ∧ n40 < ((l57.len : Nat) : Int) ∧
 ∃ b61 : Bool, w2.cell? (a10.add (n40.toNat * 2)) = some (.bool b61) ∧
 ptrE p3 fun a11 =>
 ∃ l63 : SV, w2.cell? (a11.add 2) = some (.slice l63.a l63.len l63.cap) ∧
 ∃ a12 : Addr, l63.a = some a12 ∧ 0 ≤ n40 ∧ n40 < ((l63.len : Nat) : Int) ∧
 ∃ b67 : Bool, w2.cell? (a12.add (n40.toNat * 2)) = some (.bool b67) ∧
 ∃ b68 : Bool, (∀ w, (eqS .neq 4 (.tmp 61) (.tmp 67) (.bool b61) (.bool b67)).run Tryz.prog w = .ok (.bool b68) w) ∧
 Br b68 (
 alE (.cells #[.int .i64 (IntKind.i64.wrap (n40 + 1))] 3) w2 fun r89 w13 =>
 ∃ l90 : SV, ∃ w14 : World, (Builtin.append_ #[55, 55] 55 #[.slice l8.a l8.len l8.cap, .slice (some ⟨r89, 0, none⟩) 1 1]).run Tryz.prog w13 = .ok (.slice l90.a l90.len l90.cap) w14 ∧
 F39_2 R J1 p2 p3 l90 n39 n40 ds w14) (
 ptrE p2 fun a15 =>
 ∃ l72 : SV, w2.cell? (a15.add 2) = some (.slice l72.a l72.len l72.cap) ∧
 ∃ a16 : Addr, l72.a = some a16 ∧ 0 ≤ n40 ∧ n40 < ((l72.len : Nat) : Int) ∧
 ∃ l76 : SV, w2.cell? ((a16.add (n40.toNat * 2)).add 1) = some (.slice l76.a l76.len l76.cap) ∧
 ptrE p3 fun a17 =>
 ∃ l78 : SV, w2.cell? (a17.add 2) = some (.slice l78.a l78.len l78.cap) ∧
 ∃ a18 : Addr, l78.a = some a18 ∧ 0 ≤ n40 ∧ n40 < ((l78.len : Nat) : Int) ∧
 ∃ l82 : SV, w2.cell? ((a18.add (n40.toNat * 2)).add 1) = some (.slice l82.a l82.len l82.cap) ∧
 Calls Tryz.prog 78 #[.slice l76.a l76.len l76.cap, .slice l82.a l82.len l82.cap] w2 fun e w19 =>
 ∃ b83 : Bool, e = .returned (.bool b83) ∧
 Br (!b83) (
 alE (.cells #[.int .i64 (IntKind.i64.wrap (n40 + 1))] 3) w19 fun r89 w20 =>
 ∃ l90 : SV, ∃ w21 : World, (Builtin.append_ #[55, 55] 55 #[.slice l8.a l8.len l8.cap, .slice (some ⟨r89, 0, none⟩) 1 1]).run Tryz.prog w20 = .ok (.slice l90.a l90.len l90.cap) w21 ∧
 F39_2 R J1 p2 p3 l90 n39 n40 ds w21) (
 F39_2 R J1 p2 p3 l8 n39 n40 ds w19))))) (
 F39_1 R l8 ds w)
def F39_4 (R : Rt) (p2 : Option Addr) (p3 : Option Addr) (l8 : SV) (n39 : Int) (n40 : Int) (ds : Ds) (w : World) : Prop :=
 loopT (fun (J1 : (SV × Int) → World → Prop) (s : SV × Int) (w : World) => F39_3 R J1 p2 p3 s.1 n39 s.2 ds w) (l8, n40) w
@[reducible] def F39_5 (R : Rt) (p2 : Option Addr) (p3 : Option Addr) (l8 : SV) (n39 : Int) (n40 : Int) (ds : Ds) (w : World) : Prop := F39_4 R p2 p3 l8 n39 n40 ds w
def F39_k7 (R : Rt) : EP := (fun ρ ds w => dPtr (ρ 2) fun p2 => dPtr (ρ 3) fun p3 => dSl (ρ 8) fun l8 => dInt .i64 (ρ 39) fun n39 => dInt .i64 (ρ 40) fun n40 => F39_5 R p2 p3 l8 n39 n40 ds w)
def F39_6 (R : Rt) (n0_0 : Int) (l0_1 : SV) (l0_2 : SV) (n1_0 : Int) (l1_1 : SV) (l1_2 : SV) (ds : Ds) (w : World) : Prop :=
 alE (.cells #[.int .i64 n0_0, .slice l0_1.a l0_1.len l0_1.cap, .slice l0_2.a l0_2.len l0_2.cap] 35) w fun r2 w22 =>
 alE (.cells #[.int .i64 n1_0, .slice l1_1.a l1_1.len l1_1.cap, .slice l1_2.a l1_2.len l1_2.cap] 35) w22 fun r3 w23 =>
 ∃ n10_0 : Int, w23.cell? ((⟨r2, 0, none⟩ : Addr).add 0) = some (.int .i64 n10_0) ∧
 ∃ l10_1 : SV, w23.cell? ((⟨r2, 0, none⟩ : Addr).add 1) = some (.slice l10_1.a l10_1.len l10_1.cap) ∧
 ∃ l10_2 : SV, w23.cell? ((⟨r2, 0, none⟩ : Addr).add 2) = some (.slice l10_2.a l10_2.len l10_2.cap) ∧
 Calls Tryz.prog 34 #[.agg #[.int .i64 n10_0, .slice l10_1.a l10_1.len l10_1.cap, .slice l10_2.a l10_2.len l10_2.cap]] w23 fun e w24 =>
 ∃ n11 : Int, e = .returned (.int .i64 n11) ∧
 Br (n11 != 0) (
 runD Tryz.prog ds w24 fun w25 =>
 R (.returned (.tuple #[.slice none 0 0, .int .i64 n11])) w25) (
 ∃ n15_0 : Int, w24.cell? ((⟨r3, 0, none⟩ : Addr).add 0) = some (.int .i64 n15_0) ∧
 ∃ l15_1 : SV, w24.cell? ((⟨r3, 0, none⟩ : Addr).add 1) = some (.slice l15_1.a l15_1.len l15_1.cap) ∧
 ∃ l15_2 : SV, w24.cell? ((⟨r3, 0, none⟩ : Addr).add 2) = some (.slice l15_2.a l15_2.len l15_2.cap) ∧
 Calls Tryz.prog 34 #[.agg #[.int .i64 n15_0, .slice l15_1.a l15_1.len l15_1.cap, .slice l15_2.a l15_2.len l15_2.cap]] w24 fun e w26 =>
 ∃ n16 : Int, e = .returned (.int .i64 n16) ∧
 Br (n16 != 0) (
 runD Tryz.prog ds w26 fun w27 =>
 R (.returned (.tuple #[.slice none 0 0, .int .i64 n16])) w27) (
 ∃ n21 : Int, w26.cell? (⟨r2, 0, none⟩ : Addr) = some (.int .i64 n21) ∧
 ∃ n23 : Int, w26.cell? (⟨r3, 0, none⟩ : Addr) = some (.int .i64 n23) ∧
 Br (n21 != n23) (
 runD Tryz.prog ds w26 fun w28 =>
 R (.returned (.tuple #[.slice none 0 0, .int .i64 10])) w28) (
 ∃ l27 : SV, w26.cell? ((⟨r2, 0, none⟩ : Addr).add 1) = some (.slice l27.a l27.len l27.cap) ∧
 ∃ l29 : SV, w26.cell? ((⟨r3, 0, none⟩ : Addr).add 1) = some (.slice l29.a l29.len l29.cap) ∧
 Calls Tryz.prog 77 #[.slice l27.a l27.len l27.cap, .slice l29.a l29.len l29.cap] w26 fun e w29 =>
 ∃ b30 : Bool, e = .returned (.bool b30) ∧
 Br (!b30) (
 runD Tryz.prog ds w29 fun w30 =>
 R (.returned (.tuple #[.slice none 0 0, .int .i64 10])) w30) (
 ∃ l34 : SV, w29.cell? ((⟨r2, 0, none⟩ : Addr).add 2) = some (.slice l34.a l34.len l34.cap) ∧
 ∃ l37 : SV, w29.cell? ((⟨r3, 0, none⟩ : Addr).add 2) = some (.slice l37.a l37.len l37.cap) ∧
 ∃ n39 : Int, ∃ w31 : World, (Builtin.max_ #[3, 3] 3 #[.int .i64 ((l34.len : Nat) : Int), .int .i64 ((l37.len : Nat) : Int)]).run Tryz.prog w29 = .ok (.int .i64 n39) w31 ∧
 F39_5 R (some (⟨r2, 0, none⟩ : Addr)) (some (⟨r3, 0, none⟩ : Addr)) ⟨none, 0, 0⟩ n39 0 ds w31))))
theorem c39_l : flat (bodyOf Tryz.f39) = [c39_0, c39_1, c39_2, c39_3, c39_4, c39_5, c39_6, c39_7, c39_8, c39_9, c39_10, c39_11, c39_12, c39_13] := by kernel_rfl
theorem c39_11_l : flat (innerC c39_11) = [c39_11_0] := by kernel_rfl
theorem c39_11_0_l : flat (innerC c39_11_0) = [c39_11_0_0, c39_11_0_1, c39_11_0_2, c39_11_0_3] := by kernel_rfl
theorem F39_1_ok (R : Rt) (l8 : SV) (ds : Ds) (w : World) (ρ : Env) (e8 : ρ 8 = .slice l8.a l8.len l8.cap) (h : F39_1 R l8 ds w) :
    TrL Tryz.prog Tryz.f39.ntmps [c39_12, c39_13] (F39_q1 R) ρ ds w :=
  TrL_leaf (X := F39_1 R l8 ds w) (setAll_cons e8 setAll_nil) (by kernel_rfl) (by kernel_rfl) h
theorem F39_2_ok (R : Rt) (J1 : (SV × Int) → World → Prop) (p2 : Option Addr) (p3 : Option Addr) (l8 : SV) (n39 : Int) (n40 : Int) (ds : Ds) (w : World) (ρ : Env) (e2 : ρ 2 = .pointer p2) (e3 : ρ 3 = .pointer p3) (e8 : ρ 8 = .slice l8.a l8.len l8.cap) (e39 : ρ 39 = .int .i64 n39) (e40 : ρ 40 = .int .i64 n40) (h : F39_2 R J1 p2 p3 l8 n39 n40 ds w) :
    TrL Tryz.prog Tryz.f39.ntmps [c39_11_0_3] (F39_q5 R J1) ρ ds w :=
  TrL_leaf (X := F39_2 R J1 p2 p3 l8 n39 n40 ds w) (setAll_cons e2 (setAll_cons e3 (setAll_cons e8 (setAll_cons e39 (setAll_cons e40 setAll_nil))))) (by kernel_rfl) (by kernel_rfl) h
theorem F39_3_ok (R : Rt) (J1 : (SV × Int) → World → Prop) (p2 : Option Addr) (p3 : Option Addr) (l8 : SV) (n39 : Int) (n40 : Int) (ds : Ds) (w : World) (ρ : Env) (e2 : ρ 2 = .pointer p2) (e3 : ρ 3 = .pointer p3) (e8 : ρ 8 = .slice l8.a l8.len l8.cap) (e39 : ρ 39 = .int .i64 n39) (e40 : ρ 40 = .int .i64 n40) (h : F39_3 R J1 p2 p3 l8 n39 n40 ds w) :
    TrL Tryz.prog Tryz.f39.ntmps [c39_11_0_0, c39_11_0_1, c39_11_0_2, c39_11_0_3] (F39_q5 R J1) ρ ds w :=
  TrL_piece (pre := [c39_11_0_0, c39_11_0_1, c39_11_0_2]) (K := (F39_k6 R J1)) (X := F39_3 R J1 p2 p3 l8 n39 n40 ds w) (setAll_cons e2 (setAll_cons e3 (setAll_cons e8 (setAll_cons e39 (setAll_cons e40 setAll_nil))))) (by kernel_rfl) (by kernel_rfl)
    (fun ρ' ds' w' hD => by
      obtain ⟨p2, e2, hD⟩ := dPtr_elim hD; obtain ⟨p3, e3, hD⟩ := dPtr_elim hD; obtain ⟨l8, e8, hD⟩ := dSl_elim hD; obtain ⟨n39, e39, hD⟩ := dInt_elim hD; obtain ⟨n40, e40, hD⟩ := dInt_elim hD; exact F39_2_ok R J1 p2 p3 l8 n39 n40 ds' w' ρ' e2 e3 e8 e39 e40 hD) h
theorem F39_4_ok (R : Rt) (p2 : Option Addr) (p3 : Option Addr) (l8 : SV) (n39 : Int) (n40 : Int) (ds : Ds) (w : World) (ρ : Env) (e2 : ρ 2 = .pointer p2) (e3 : ρ 3 = .pointer p3) (e8 : ρ 8 = .slice l8.a l8.len l8.cap) (e39 : ρ 39 = .int .i64 n39) (e40 : ρ 40 = .int .i64 n40) (h : F39_4 R p2 p3 l8 n39 n40 ds w) :
    TrL Tryz.prog Tryz.f39.ntmps [c39_11_0] (F39_q4 R) ρ ds w :=
  TrL_one (Tr_loop' (c := innerC c39_11_0) (σ := SV × Int) (enc := (fun (s : SV × Int) (ρ : Env) => ρ 8 = .slice s.1.a s.1.len s.1.cap ∧ ρ 40 = .int .i64 s.2)) (D := (fun ρ K => dSl (ρ 8) fun l8 => dInt .i64 (ρ 40) fun n40 => K (l8, n40))) (F := (fun (J1 : (SV × Int) → World → Prop) (s : SV × Int) (w : World) => F39_3 R J1 p2 p3 s.1 n39 s.2 ds w)) (s0 := (l8, n40)) (by kernel_rfl) c39_11_0_l ⟨e8, e40⟩ (by kernel_rfl) (fun ρ K hD => by obtain ⟨l8, e8, hD⟩ := dSl_elim hD; obtain ⟨n40, e40, hD⟩ := dInt_elim hD; exact ⟨(l8, n40), ⟨e8, e40⟩, hD⟩)
      (fun J1 s ρ' w' he ha hF => by
      obtain ⟨e8', e40'⟩ := he
      exact F39_3_ok R J1 p2 p3 s.1 n39 s.2 ds w' ρ' ((ha 2 (by kernel_rfl)).trans e2) ((ha 3 (by kernel_rfl)).trans e3) e8' ((ha 39 (by kernel_rfl)).trans e39) e40' hF) h)
theorem F39_5_ok (R : Rt) (p2 : Option Addr) (p3 : Option Addr) (l8 : SV) (n39 : Int) (n40 : Int) (ds : Ds) (w : World) (ρ : Env) (e2 : ρ 2 = .pointer p2) (e3 : ρ 3 = .pointer p3) (e8 : ρ 8 = .slice l8.a l8.len l8.cap) (e39 : ρ 39 = .int .i64 n39) (e40 : ρ 40 = .int .i64 n40) (h : F39_5 R p2 p3 l8 n39 n40 ds w) :
    TrL Tryz.prog Tryz.f39.ntmps [c39_11, c39_12, c39_13] (F39_q1 R) ρ ds w :=
  TrL_head (K := (F39_k2 R)) (Tr_block' (c := innerC c39_11) (by kernel_rfl) c39_11_l (F39_4_ok R p2 p3 l8 n39 n40 ds w ρ e2 e3 e8 e39 e40 h))
    (fun ρ' ds' w' hD => by
      obtain ⟨l8, e8, hD⟩ := dSl_elim hD; exact F39_1_ok R l8 ds' w' ρ' e8 hD)
theorem F39_6_ok (R : Rt) (n0_0 : Int) (l0_1 : SV) (l0_2 : SV) (n1_0 : Int) (l1_1 : SV) (l1_2 : SV) (ds : Ds) (w : World) (ρ : Env) (e0 : ρ 0 = .agg #[.int .i64 n0_0, .slice l0_1.a l0_1.len l0_1.cap, .slice l0_2.a l0_2.len l0_2.cap]) (e1 : ρ 1 = .agg #[.int .i64 n1_0, .slice l1_1.a l1_1.len l1_1.cap, .slice l1_2.a l1_2.len l1_2.cap]) (h : F39_6 R n0_0 l0_1 l0_2 n1_0 l1_1 l1_2 ds w) :
    TrL Tryz.prog Tryz.f39.ntmps [c39_0, c39_1, c39_2, c39_3, c39_4, c39_5, c39_6, c39_7, c39_8, c39_9, c39_10, c39_11, c39_12, c39_13] (F39_q1 R) ρ ds w :=
  TrL_piece (pre := [c39_0, c39_1, c39_2, c39_3, c39_4, c39_5, c39_6, c39_7, c39_8, c39_9, c39_10]) (K := (F39_k7 R)) (X := F39_6 R n0_0 l0_1 l0_2 n1_0 l1_1 l1_2 ds w) (setAll_cons e0 (setAll_cons e1 setAll_nil)) (by kernel_rfl) (by kernel_rfl)
    (fun ρ' ds' w' hD => by
      obtain ⟨p2, e2, hD⟩ := dPtr_elim hD; obtain ⟨p3, e3, hD⟩ := dPtr_elim hD; obtain ⟨l8, e8, hD⟩ := dSl_elim hD; obtain ⟨n39, e39, hD⟩ := dInt_elim hD; obtain ⟨n40, e40, hD⟩ := dInt_elim hD; exact F39_5_ok R p2 p3 l8 n39 n40 ds' w' ρ' e2 e3 e8 e39 e40 hD) h
theorem F39_calls (n0_0 : Int) (l0_1 : SV) (l0_2 : SV) (n1_0 : Int) (l1_1 : SV) (l1_2 : SV) (w : World) (R : Rt) (h : F39_6 R n0_0 l0_1 l0_2 n1_0 l1_1 l1_2 [] w) : Calls Tryz.prog 39 #[.agg #[.int .i64 n0_0, .slice l0_1.a l0_1.len l0_1.cap, .slice l0_2.a l0_2.len l0_2.cap], .agg #[.int .i64 n1_0, .slice l1_1.a l1_1.len l1_1.cap, .slice l1_2.a l1_2.len l1_2.cap]] w R :=
  calls_of_L (l := [c39_0, c39_1, c39_2, c39_3, c39_4, c39_5, c39_6, c39_7, c39_8, c39_9, c39_10, c39_11, c39_12, c39_13]) Tryz.func39 (by kernel_rfl) (by rw [Tryz.ntmps39]; exact Nat.le_of_ble_eq_true (by kernel_rfl)) c39_l
    (F39_6_ok R n0_0 l0_1 l0_2 n1_0 l1_1 l1_2 [] w _ rfl rfl h)
theorem F39_callsD (n0_0 : Int) (l0_1 : SV) (l0_2 : SV) (n1_0 : Int) (l1_1 : SV) (l1_2 : SV) (w : World) (R : Rt) (u : FrameMode) (h : F39_6 R n0_0 l0_1 l0_2 n1_0 l1_1 l1_2 [] w) : CallsD Tryz.prog 39 #[.agg #[.int .i64 n0_0, .slice l0_1.a l0_1.len l0_1.cap, .slice l0_2.a l0_2.len l0_2.cap], .agg #[.int .i64 n1_0, .slice l1_1.a l1_1.len l1_1.cap, .slice l1_2.a l1_2.len l1_2.cap]] u w fun e u' w' => u' = u ∧ R e w' :=
  callsD_of_L (l := [c39_0, c39_1, c39_2, c39_3, c39_4, c39_5, c39_6, c39_7, c39_8, c39_9, c39_10, c39_11, c39_12, c39_13]) Tryz.func39 (by kernel_rfl) (by rw [Tryz.ntmps39]; exact Nat.le_of_ble_eq_true (by kernel_rfl)) (by kernel_rfl) c39_l
    (F39_6_ok R n0_0 l0_1 l0_2 n1_0 l1_1 l1_2 [] w _ rfl rfl h) u

/-! function 40: cabinetry/cabinetryref03.Differ -/
noncomputable def c40_0 : Code := itemAt (flat (bodyOf Tryz.f40)) 0
noncomputable def c40_1 : Code := itemAt (flat (bodyOf Tryz.f40)) 1
noncomputable def c40_2 : Code := itemAt (flat (bodyOf Tryz.f40)) 2
noncomputable def c40_3 : Code := itemAt (flat (bodyOf Tryz.f40)) 3
noncomputable def c40_4 : Code := itemAt (flat (bodyOf Tryz.f40)) 4
noncomputable def c40_5 : Code := itemAt (flat (bodyOf Tryz.f40)) 5
noncomputable def c40_6 : Code := itemAt (flat (bodyOf Tryz.f40)) 6
noncomputable def c40_7 : Code := itemAt (flat (bodyOf Tryz.f40)) 7
noncomputable def c40_8 : Code := itemAt (flat (bodyOf Tryz.f40)) 8
noncomputable def c40_9 : Code := itemAt (flat (bodyOf Tryz.f40)) 9
noncomputable def c40_10 : Code := itemAt (flat (bodyOf Tryz.f40)) 10
noncomputable def c40_11 : Code := itemAt (flat (bodyOf Tryz.f40)) 11
noncomputable def c40_12 : Code := itemAt (flat (bodyOf Tryz.f40)) 12
noncomputable def c40_13 : Code := itemAt (flat (bodyOf Tryz.f40)) 13
noncomputable def c40_11_0 : Code := itemAt (flat (innerC c40_11)) 0
noncomputable def c40_11_0_0 : Code := itemAt (flat (innerC c40_11_0)) 0
noncomputable def c40_11_0_1 : Code := itemAt (flat (innerC c40_11_0)) 1
noncomputable def c40_11_0_2 : Code := itemAt (flat (innerC c40_11_0)) 2
noncomputable def c40_11_0_3 : Code := itemAt (flat (innerC c40_11_0)) 3
def F40_q1 (R : Rt) : EQ := endQ Tryz.prog Tryz.f40.results.toList R
def F40_1 (R : Rt) (l8 : SV) (ds : Ds) (w : World) : Prop :=
 runD Tryz.prog ds w fun w1 =>
 R (.returned (.tuple #[.slice l8.a l8.len l8.cap, .int .i64 0])) w1
def F40_k2 (R : Rt) : EP := (fun ρ ds w => dSl (ρ 8) fun l8 => F40_1 R l8 ds w)
def F40_q3 (R : Rt) : EQ := (thenQ (F40_k2 R) (F40_q1 R))
def F40_q4 (R : Rt) : EQ := (blockQ 0 (F40_q3 R))
def F40_q5 (R : Rt) (J1 : (SV × Int) → World → Prop) : EQ := (thenQ (fun ρ _ w => dSl (ρ 8) fun l8 => dInt .i64 (ρ 9) fun n9 => J1 (l8, n9) w) (F40_q4 R))
def F40_2 (R : Rt) (J1 : (SV × Int) → World → Prop) (p2 : Option Addr) (p3 : Option Addr) (l8 : SV) (n9 : Int) (ds : Ds) (w : World) : Prop :=
 dwE w fun w2 =>
 ptrE p2 fun a3 =>
 ∃ l49 : SV, w2.cell? (a3.add 2) = some (.slice l49.a l49.len l49.cap) ∧
 Br (decide (n9 ≥ ((l49.len : Nat) : Int))) (
 alE (.cells #[.int .i64 (IntKind.i64.wrap (n9 + 1))] 3) w2 fun r76 w4 =>
 ∃ l77 : SV, ∃ w5 : World, (Builtin.append_ #[55, 55] 55 #[.slice l8.a l8.len l8.cap, .slice (some ⟨r76, 0, none⟩) 1 1]).run Tryz.prog w4 = .ok (.slice l77.a l77.len l77.cap) w5 ∧
 J1 (l77, (IntKind.i64.wrap (n9 + 1))) w5) (
 ptrE p3 fun a6 =>
 ∃ l55 : SV, w2.cell? (a6.add 2) = some (.slice l55.a l55.len l55.cap) ∧
 Br (decide (n9 ≥ ((l55.len : Nat) : Int))) (
 alE (.cells #[.int .i64 (IntKind.i64.wrap (n9 + 1))] 3) w2 fun r76 w7 =>
 ∃ l77 : SV, ∃ w8 : World, (Builtin.append_ #[55, 55] 55 #[.slice l8.a l8.len l8.cap, .slice (some ⟨r76, 0, none⟩) 1 1]).run Tryz.prog w7 = .ok (.slice l77.a l77.len l77.cap) w8 ∧
 J1 (l77, (IntKind.i64.wrap (n9 + 1))) w8) (
 ptrE p2 fun a9 =>
 ∃ l61 : SV, w2.cell? (a9.add 2) = some (.slice l61.a l61.len l61.cap) ∧
 ∃ a10 : Addr, l61.a = some a10 ∧ 0 ≤ n9 ∧ n9 < ((l61.len : Nat) : Int) ∧
 ∃ b64_0 : Bool, w2.cell? ((a10.add (n9.toNat * 2)).add 0) = some (.bool b64_0) ∧
 ∃ l64_1 : SV, w2.cell? ((a10.add (n9.toNat * 2)).add 1) = some (.slice l64_1.a l64_1.len l64_1.cap) ∧
 ptrE p3 fun a11 =>
 ∃ l66 : SV, w2.cell? (a11.add 2) = some (.slice l66.a l66.len l66.cap) ∧
 ∃ a12 : Addr, l66.a = some a12 ∧ 0 ≤ n9 ∧ n9 < ((l66.len : Nat) : Int) ∧
 ∃ b69_0 : Bool, w2.cell? ((a12.add (n9.toNat * 2)).add 0) = some (.bool b69_0) ∧
 ∃ l69_1 : SV, w2.cell? ((a12.add (n9.toNat * 2)).add 1) = some (.slice l69_1.a l69_1.len l69_1.cap) ∧
 Calls Tryz.prog 29 #[.agg #[.bool b64_0, .slice l64_1.a l64_1.len l64_1.cap], .agg #[.bool b69_0, .slice l69_1.a l69_1.len l69_1.cap]] w2 fun e w13 =>
 ∃ b70 : Bool, e = .returned (.bool b70) ∧
 Br (!b70) (
 alE (.cells #[.int .i64 (IntKind.i64.wrap (n9 + 1))] 3) w13 fun r76 w14 =>
 ∃ l77 : SV, ∃ w15 : World, (Builtin.append_ #[55, 55] 55 #[.slice l8.a l8.len l8.cap, .slice (some ⟨r76, 0, none⟩) 1 1]).run Tryz.prog w14 = .ok (.slice l77.a l77.len l77.cap) w15 ∧
 J1 (l77, (IntKind.i64.wrap (n9 + 1))) w15) (
 J1 (l8, (IntKind.i64.wrap (n9 + 1))) w13)))
def F40_k6 (R : Rt) (J1 : (SV × Int) → World → Prop) : EP := (fun ρ ds w => dPtr (ρ 2) fun p2 => dPtr (ρ 3) fun p3 => dSl (ρ 8) fun l8 => dInt .i64 (ρ 9) fun n9 => F40_2 R J1 p2 p3 l8 n9 ds w)
def F40_3 (R : Rt) (J1 : (SV × Int) → World → Prop) (p2 : Option Addr) (p3 : Option Addr) (l8 : SV) (n9 : Int) (ds : Ds) (w : World) : Prop :=
 ptrE p2 fun a16 =>
 ∃ l35 : SV, w.cell? (a16.add 2) = some (.slice l35.a l35.len l35.cap) ∧
 Br (decide (n9 < ((l35.len : Nat) : Int))) (
 F40_2 R J1 p2 p3 l8 n9 ds w) (
 ptrE p3 fun a17 =>
 ∃ l41 : SV, w.cell? (a17.add 2) = some (.slice l41.a l41.len l41.cap) ∧
 Br (decide (n9 < ((l41.len : Nat) : Int))) (
 F40_2 R J1 p2 p3 l8 n9 ds w) (
 F40_1 R l8 ds w))
def F40_4 (R : Rt) (p2 : Option Addr) (p3 : Option Addr) (l8 : SV) (n9 : Int) (ds : Ds) (w : World) : Prop :=
 loopT (fun (J1 : (SV × Int) → World → Prop) (s : SV × Int) (w : World) => F40_3 R J1 p2 p3 s.1 s.2 ds w) (l8, n9) w
@[reducible] def F40_5 (R : Rt) (p2 : Option Addr) (p3 : Option Addr) (l8 : SV) (n9 : Int) (ds : Ds) (w : World) : Prop := F40_4 R p2 p3 l8 n9 ds w
def F40_k7 (R : Rt) : EP := (fun ρ ds w => dPtr (ρ 2) fun p2 => dPtr (ρ 3) fun p3 => dSl (ρ 8) fun l8 => dInt .i64 (ρ 9) fun n9 => F40_5 R p2 p3 l8 n9 ds w)
def F40_6 (R : Rt) (n0_0 : Int) (l0_1 : SV) (l0_2 : SV) (n1_0 : Int) (l1_1 : SV) (l1_2 : SV) (ds : Ds) (w : World) : Prop :=
 alE (.cells #[.int .i64 n0_0, .slice l0_1.a l0_1.len l0_1.cap, .slice l0_2.a l0_2.len l0_2.cap] 35) w fun r2 w18 =>
 alE (.cells #[.int .i64 n1_0, .slice l1_1.a l1_1.len l1_1.cap, .slice l1_2.a l1_2.len l1_2.cap] 35) w18 fun r3 w19 =>
 ∃ n10_0 : Int, w19.cell? ((⟨r2, 0, none⟩ : Addr).add 0) = some (.int .i64 n10_0) ∧
 ∃ l10_1 : SV, w19.cell? ((⟨r2, 0, none⟩ : Addr).add 1) = some (.slice l10_1.a l10_1.len l10_1.cap) ∧
 ∃ l10_2 : SV, w19.cell? ((⟨r2, 0, none⟩ : Addr).add 2) = some (.slice l10_2.a l10_2.len l10_2.cap) ∧
 Calls Tryz.prog 35 #[.agg #[.int .i64 n10_0, .slice l10_1.a l10_1.len l10_1.cap, .slice l10_2.a l10_2.len l10_2.cap]] w19 fun e w20 =>
 ∃ n11 : Int, e = .returned (.int .i64 n11) ∧
 Br (n11 != 0) (
 runD Tryz.prog ds w20 fun w21 =>
 R (.returned (.tuple #[.slice none 0 0, .int .i64 n11])) w21) (
 ∃ n15_0 : Int, w20.cell? ((⟨r3, 0, none⟩ : Addr).add 0) = some (.int .i64 n15_0) ∧
 ∃ l15_1 : SV, w20.cell? ((⟨r3, 0, none⟩ : Addr).add 1) = some (.slice l15_1.a l15_1.len l15_1.cap) ∧
 ∃ l15_2 : SV, w20.cell? ((⟨r3, 0, none⟩ : Addr).add 2) = some (.slice l15_2.a l15_2.len l15_2.cap) ∧
 Calls Tryz.prog 35 #[.agg #[.int .i64 n15_0, .slice l15_1.a l15_1.len l15_1.cap, .slice l15_2.a l15_2.len l15_2.cap]] w20 fun e w22 =>
 ∃ n16 : Int, e = .returned (.int .i64 n16) ∧
 Br (n16 != 0) (
 runD Tryz.prog ds w22 fun w23 =>
 R (.returned (.tuple #[.slice none 0 0, .int .i64 n16])) w23) (
 ∃ n21 : Int, w22.cell? (⟨r2, 0, none⟩ : Addr) = some (.int .i64 n21) ∧
 ∃ n23 : Int, w22.cell? (⟨r3, 0, none⟩ : Addr) = some (.int .i64 n23) ∧
 Br (n21 != n23) (
 runD Tryz.prog ds w22 fun w24 =>
 R (.returned (.tuple #[.slice none 0 0, .int .i64 10])) w24) (
 ∃ l27 : SV, w22.cell? ((⟨r2, 0, none⟩ : Addr).add 1) = some (.slice l27.a l27.len l27.cap) ∧
 ∃ l29 : SV, w22.cell? ((⟨r3, 0, none⟩ : Addr).add 1) = some (.slice l29.a l29.len l29.cap) ∧
 Calls Tryz.prog 79 #[.slice l27.a l27.len l27.cap, .slice l29.a l29.len l29.cap] w22 fun e w25 =>
 ∃ b30 : Bool, e = .returned (.bool b30) ∧
 Br (!b30) (
 runD Tryz.prog ds w25 fun w26 =>
 R (.returned (.tuple #[.slice none 0 0, .int .i64 10])) w26) (
 F40_5 R (some (⟨r2, 0, none⟩ : Addr)) (some (⟨r3, 0, none⟩ : Addr)) ⟨none, 0, 0⟩ 0 ds w25))))
theorem c40_l : flat (bodyOf Tryz.f40) = [c40_0, c40_1, c40_2, c40_3, c40_4, c40_5, c40_6, c40_7, c40_8, c40_9, c40_10, c40_11, c40_12, c40_13] := by kernel_rfl
theorem c40_11_l : flat (innerC c40_11) = [c40_11_0] := by kernel_rfl
theorem c40_11_0_l : flat (innerC c40_11_0) = [c40_11_0_0, c40_11_0_1, c40_11_0_2, c40_11_0_3] := by kernel_rfl
theorem F40_1_ok (R : Rt) (l8 : SV) (ds : Ds) (w : World) (ρ : Env) (e8 : ρ 8 = .slice l8.a l8.len l8.cap) (h : F40_1 R l8 ds w) :
    TrL Tryz.prog Tryz.f40.ntmps [c40_12, c40_13] (F40_q1 R) ρ ds w :=
  TrL_leaf (X := F40_1 R l8 ds w) (setAll_cons e8 setAll_nil) (by kernel_rfl) (by kernel_rfl) h
theorem F40_2_ok (R : Rt) (J1 : (SV × Int) → World → Prop) (p2 : Option Addr) (p3 : Option Addr) (l8 : SV) (n9 : Int) (ds : Ds) (w : World) (ρ : Env) (e2 : ρ 2 = .pointer p2) (e3 : ρ 3 = .pointer p3) (e8 : ρ 8 = .slice l8.a l8.len l8.cap) (e9 : ρ 9 = .int .i64 n9) (h : F40_2 R J1 p2 p3 l8 n9 ds w) :
    TrL Tryz.prog Tryz.f40.ntmps [c40_11_0_2, c40_11_0_3] (F40_q5 R J1) ρ ds w :=
  TrL_leaf (X := F40_2 R J1 p2 p3 l8 n9 ds w) (setAll_cons e2 (setAll_cons e3 (setAll_cons e8 (setAll_cons e9 setAll_nil)))) (by kernel_rfl) (by kernel_rfl) h
theorem F40_3_ok (R : Rt) (J1 : (SV × Int) → World → Prop) (p2 : Option Addr) (p3 : Option Addr) (l8 : SV) (n9 : Int) (ds : Ds) (w : World) (ρ : Env) (e2 : ρ 2 = .pointer p2) (e3 : ρ 3 = .pointer p3) (e8 : ρ 8 = .slice l8.a l8.len l8.cap) (e9 : ρ 9 = .int .i64 n9) (h : F40_3 R J1 p2 p3 l8 n9 ds w) :
    TrL Tryz.prog Tryz.f40.ntmps [c40_11_0_0, c40_11_0_1, c40_11_0_2, c40_11_0_3] (F40_q5 R J1) ρ ds w :=
  TrL_piece (pre := [c40_11_0_0, c40_11_0_1]) (K := (F40_k6 R J1)) (X := F40_3 R J1 p2 p3 l8 n9 ds w) (setAll_cons e2 (setAll_cons e3 (setAll_cons e8 (setAll_cons e9 setAll_nil)))) (by kernel_rfl) (by kernel_rfl)
    (fun ρ' ds' w' hD => by
      obtain ⟨p2, e2, hD⟩ := dPtr_elim hD; obtain ⟨p3, e3, hD⟩ := dPtr_elim hD; obtain ⟨l8, e8, hD⟩ := dSl_elim hD; obtain ⟨n9, e9, hD⟩ := dInt_elim hD; exact F40_2_ok R J1 p2 p3 l8 n9 ds' w' ρ' e2 e3 e8 e9 hD) h
theorem F40_4_ok (R : Rt) (p2 : Option Addr) (p3 : Option Addr) (l8 : SV) (n9 : Int) (ds : Ds) (w : World) (ρ : Env) (e2 : ρ 2 = .pointer p2) (e3 : ρ 3 = .pointer p3) (e8 : ρ 8 = .slice l8.a l8.len l8.cap) (e9 : ρ 9 = .int .i64 n9) (h : F40_4 R p2 p3 l8 n9 ds w) :
    TrL Tryz.prog Tryz.f40.ntmps [c40_11_0] (F40_q4 R) ρ ds w :=
  TrL_one (Tr_loop' (c := innerC c40_11_0) (σ := SV × Int) (enc := (fun (s : SV × Int) (ρ : Env) => ρ 8 = .slice s.1.a s.1.len s.1.cap ∧ ρ 9 = .int .i64 s.2)) (D := (fun ρ K => dSl (ρ 8) fun l8 => dInt .i64 (ρ 9) fun n9 => K (l8, n9))) (F := (fun (J1 : (SV × Int) → World → Prop) (s : SV × Int) (w : World) => F40_3 R J1 p2 p3 s.1 s.2 ds w)) (s0 := (l8, n9)) (by kernel_rfl) c40_11_0_l ⟨e8, e9⟩ (by kernel_rfl) (fun ρ K hD => by obtain ⟨l8, e8, hD⟩ := dSl_elim hD; obtain ⟨n9, e9, hD⟩ := dInt_elim hD; exact ⟨(l8, n9), ⟨e8, e9⟩, hD⟩)
      (fun J1 s ρ' w' he ha hF => by
      obtain ⟨e8', e9'⟩ := he
      exact F40_3_ok R J1 p2 p3 s.1 s.2 ds w' ρ' ((ha 2 (by kernel_rfl)).trans e2) ((ha 3 (by kernel_rfl)).trans e3) e8' e9' hF) h)
theorem F40_5_ok (R : Rt) (p2 : Option Addr) (p3 : Option Addr) (l8 : SV) (n9 : Int) (ds : Ds) (w : World) (ρ : Env) (e2 : ρ 2 = .pointer p2) (e3 : ρ 3 = .pointer p3) (e8 : ρ 8 = .slice l8.a l8.len l8.cap) (e9 : ρ 9 = .int .i64 n9) (h : F40_5 R p2 p3 l8 n9 ds w) :
    TrL Tryz.prog Tryz.f40.ntmps [c40_11, c40_12, c40_13] (F40_q1 R) ρ ds w :=
  TrL_head (K := (F40_k2 R)) (Tr_block' (c := innerC c40_11) (by kernel_rfl) c40_11_l (F40_4_ok R p2 p3 l8 n9 ds w ρ e2 e3 e8 e9 h))
    (fun ρ' ds' w' hD => by
      obtain ⟨l8, e8, hD⟩ := dSl_elim hD; exact F40_1_ok R l8 ds' w' ρ' e8 hD)
theorem F40_6_ok (R : Rt) (n0_0 : Int) (l0_1 : SV) (l0_2 : SV) (n1_0 : Int) (l1_1 : SV) (l1_2 : SV) (ds : Ds) (w : World) (ρ : Env) (e0 : ρ 0 = .agg #[.int .i64 n0_0, .slice l0_1.a l0_1.len l0_1.cap, .slice l0_2.a l0_2.len l0_2.cap]) (e1 : ρ 1 = .agg #[.int .i64 n1_0, .slice l1_1.a l1_1.len l1_1.cap, .slice l1_2.a l1_2.len l1_2.cap]) (h : F40_6 R n0_0 l0_1 l0_2 n1_0 l1_1 l1_2 ds w) :
    TrL Tryz.prog Tryz.f40.ntmps [c40_0, c40_1, c40_2, c40_3, c40_4, c40_5, c40_6, c40_7, c40_8, c40_9, c40_10, c40_11, c40_12, c40_13] (F40_q1 R) ρ ds w :=
  TrL_piece (pre := [c40_0, c40_1, c40_2, c40_3, c40_4, c40_5, c40_6, c40_7, c40_8, c40_9, c40_10]) (K := (F40_k7 R)) (X := F40_6 R n0_0 l0_1 l0_2 n1_0 l1_1 l1_2 ds w) (setAll_cons e0 (setAll_cons e1 setAll_nil)) (by kernel_rfl) (by kernel_rfl)
    (fun ρ' ds' w' hD => by
      obtain ⟨p2, e2, hD⟩ := dPtr_elim hD; obtain ⟨p3, e3, hD⟩ := dPtr_elim hD; obtain ⟨l8, e8, hD⟩ := dSl_elim hD; obtain ⟨n9, e9, hD⟩ := dInt_elim hD; exact F40_5_ok R p2 p3 l8 n9 ds' w' ρ' e2 e3 e8 e9 hD) h
theorem F40_calls (n0_0 : Int) (l0_1 : SV) (l0_2 : SV) (n1_0 : Int) (l1_1 : SV) (l1_2 : SV) (w : World) (R : Rt) (h : F40_6 R n0_0 l0_1 l0_2 n1_0 l1_1 l1_2 [] w) : Calls Tryz.prog 40 #[.agg #[.int .i64 n0_0, .slice l0_1.a l0_1.len l0_1.cap, .slice l0_2.a l0_2.len l0_2.cap], .agg #[.int .i64 n1_0, .slice l1_1.a l1_1.len l1_1.cap, .slice l1_2.a l1_2.len l1_2.cap]] w R :=
  calls_of_L (l := [c40_0, c40_1, c40_2, c40_3, c40_4, c40_5, c40_6, c40_7, c40_8, c40_9, c40_10, c40_11, c40_12, c40_13]) Tryz.func40 (by kernel_rfl) (by rw [Tryz.ntmps40]; exact Nat.le_of_ble_eq_true (by kernel_rfl)) c40_l
    (F40_6_ok R n0_0 l0_1 l0_2 n1_0 l1_1 l1_2 [] w _ rfl rfl h)
theorem F40_callsD (n0_0 : Int) (l0_1 : SV) (l0_2 : SV) (n1_0 : Int) (l1_1 : SV) (l1_2 : SV) (w : World) (R : Rt) (u : FrameMode) (h : F40_6 R n0_0 l0_1 l0_2 n1_0 l1_1 l1_2 [] w) : CallsD Tryz.prog 40 #[.agg #[.int .i64 n0_0, .slice l0_1.a l0_1.len l0_1.cap, .slice l0_2.a l0_2.len l0_2.cap], .agg #[.int .i64 n1_0, .slice l1_1.a l1_1.len l1_1.cap, .slice l1_2.a l1_2.len l1_2.cap]] u w fun e u' w' => u' = u ∧ R e w' :=
  callsD_of_L (l := [c40_0, c40_1, c40_2, c40_3, c40_4, c40_5, c40_6, c40_7, c40_8, c40_9, c40_10, c40_11, c40_12, c40_13]) Tryz.func40 (by kernel_rfl) (by rw [Tryz.ntmps40]; exact Nat.le_of_ble_eq_true (by kernel_rfl)) (by kernel_rfl) c40_l
    (F40_6_ok R n0_0 l0_1 l0_2 n1_0 l1_1 l1_2 [] w _ rfl rfl h) u

/-! function 77: slices.Equal[[]cabinetry/api.Field,cabinetry/api.Field] -/
noncomputable def c77_0 : Code := itemAt (flat (bodyOf Tryz.f77)) 0
noncomputable def c77_1 : Code := itemAt (flat (bodyOf Tryz.f77)) 1
noncomputable def c77_2 : Code := itemAt (flat (bodyOf Tryz.f77)) 2
noncomputable def c77_3 : Code := itemAt (flat (bodyOf Tryz.f77)) 3
noncomputable def c77_4 : Code := itemAt (flat (bodyOf Tryz.f77)) 4
noncomputable def c77_5 : Code := itemAt (flat (bodyOf Tryz.f77)) 5
noncomputable def c77_6 : Code := itemAt (flat (bodyOf Tryz.f77)) 6
noncomputable def c77_4_0 : Code := itemAt (flat (innerC c77_4)) 0
noncomputable def c77_4_0_0 : Code := itemAt (flat (innerC c77_4_0)) 0
noncomputable def c77_4_0_1 : Code := itemAt (flat (innerC c77_4_0)) 1
noncomputable def c77_4_0_2 : Code := itemAt (flat (innerC c77_4_0)) 2
noncomputable def c77_4_0_3 : Code := itemAt (flat (innerC c77_4_0)) 3
def F77_q1 (R : Rt) : EQ := endQ Tryz.prog Tryz.f77.results.toList R
def F77_1 (R : Rt) (ds : Ds) (w : World) : Prop :=
 runD Tryz.prog ds w fun w1 =>
 R (.returned (.bool true)) w1
def F77_k2 (R : Rt) : EP := (fun ρ ds w => F77_1 R ds w)
def F77_q3 (R : Rt) : EQ := (thenQ (F77_k2 R) (F77_q1 R))
def F77_q4 (R : Rt) : EQ := (blockQ 0 (F77_q3 R))
def F77_q5 (R : Rt) (J1 : (Int) → World → Prop) : EQ := (thenQ (fun ρ _ w => dInt .i64 (ρ 13) fun n13 => J1 n13 w) (F77_q4 R))
def F77_2 (R : Rt) (J1 : (Int) → World → Prop) (l0 : SV) (l1 : SV) (n12 : Int) (n13 : Int) (ds : Ds) (w : World) : Prop :=
 Br (decide (n13 < n12)) (
 dwE w fun w2 =>
 ∃ a3 : Addr, l0.a = some a3 ∧ 0 ≤ n13 ∧ n13 < ((l0.len : Nat) : Int) ∧
 ∃ s19_0 : ByteArray, w2.cell? ((a3.add (n13.toNat * 4)).add 0) = some (.string s19_0) ∧
 ∃ n19_1 : Int, w2.cell? ((a3.add (n13.toNat * 4)).add 1) = some (.int .i64 n19_1) ∧
 ∃ n19_2 : Int, w2.cell? ((a3.add (n13.toNat * 4)).add 2) = some (.int .i64 n19_2) ∧
 ∃ b19_3 : Bool, w2.cell? ((a3.add (n13.toNat * 4)).add 3) = some (.bool b19_3) ∧
 ∃ a4 : Addr, l1.a = some a4 ∧ 0 ≤ n13 ∧ n13 < ((l1.len : Nat) : Int) ∧
 ∃ s23_0 : ByteArray, w2.cell? ((a4.add (n13.toNat * 4)).add 0) = some (.string s23_0) ∧
 ∃ n23_1 : Int, w2.cell? ((a4.add (n13.toNat * 4)).add 1) = some (.int .i64 n23_1) ∧
 ∃ n23_2 : Int, w2.cell? ((a4.add (n13.toNat * 4)).add 2) = some (.int .i64 n23_2) ∧
 ∃ b23_3 : Bool, w2.cell? ((a4.add (n13.toNat * 4)).add 3) = some (.bool b23_3) ∧
 ∃ b24 : Bool, (∀ w, (eqS .neq 23 (.tmp 19) (.tmp 23) (.agg #[.string s19_0, .int .i64 n19_1, .int .i64 n19_2, .bool b19_3]) (.agg #[.string s23_0, .int .i64 n23_1, .int .i64 n23_2, .bool b23_3])).run Tryz.prog w = .ok (.bool b24) w) ∧
 Br b24 (
 runD Tryz.prog ds w2 fun w5 =>
 R (.returned (.bool false)) w5) (
 J1 (IntKind.i64.wrap (n13 + 1)) w2)) (
 F77_1 R ds w)
def F77_3 (R : Rt) (l0 : SV) (l1 : SV) (n12 : Int) (n13 : Int) (ds : Ds) (w : World) : Prop :=
 loopT (fun (J1 : (Int) → World → Prop) (s : Int) (w : World) => F77_2 R J1 l0 l1 n12 s ds w) n13 w
@[reducible] def F77_4 (R : Rt) (l0 : SV) (l1 : SV) (n12 : Int) (n13 : Int) (ds : Ds) (w : World) : Prop := F77_3 R l0 l1 n12 n13 ds w
def F77_k6 (R : Rt) : EP := (fun ρ ds w => dSl (ρ 0) fun l0 => dSl (ρ 1) fun l1 => dInt .i64 (ρ 12) fun n12 => dInt .i64 (ρ 13) fun n13 => F77_4 R l0 l1 n12 n13 ds w)
def F77_5 (R : Rt) (l0 : SV) (l1 : SV) (ds : Ds) (w : World) : Prop :=
 Br (((l0.len : Nat) : Int) != ((l1.len : Nat) : Int)) (
 runD Tryz.prog ds w fun w6 =>
 R (.returned (.bool false)) w6) (
 F77_4 R l0 l1 ((l0.len : Nat) : Int) 0 ds w)
theorem c77_l : flat (bodyOf Tryz.f77) = [c77_0, c77_1, c77_2, c77_3, c77_4, c77_5, c77_6] := by kernel_rfl
theorem c77_4_l : flat (innerC c77_4) = [c77_4_0] := by kernel_rfl
theorem c77_4_0_l : flat (innerC c77_4_0) = [c77_4_0_0, c77_4_0_1, c77_4_0_2, c77_4_0_3] := by kernel_rfl
theorem F77_1_ok (R : Rt) (ds : Ds) (w : World) (ρ : Env) (h : F77_1 R ds w) :
    TrL Tryz.prog Tryz.f77.ntmps [c77_5, c77_6] (F77_q1 R) ρ ds w :=
  TrL_leaf (X := F77_1 R ds w) setAll_nil (by kernel_rfl) (by kernel_rfl) h
theorem F77_2_ok (R : Rt) (J1 : (Int) → World → Prop) (l0 : SV) (l1 : SV) (n12 : Int) (n13 : Int) (ds : Ds) (w : World) (ρ : Env) (e0 : ρ 0 = .slice l0.a l0.len l0.cap) (e1 : ρ 1 = .slice l1.a l1.len l1.cap) (e12 : ρ 12 = .int .i64 n12) (e13 : ρ 13 = .int .i64 n13) (h : F77_2 R J1 l0 l1 n12 n13 ds w) :
    TrL Tryz.prog Tryz.f77.ntmps [c77_4_0_0, c77_4_0_1, c77_4_0_2, c77_4_0_3] (F77_q5 R J1) ρ ds w :=
  TrL_leaf (X := F77_2 R J1 l0 l1 n12 n13 ds w) (setAll_cons e0 (setAll_cons e1 (setAll_cons e12 (setAll_cons e13 setAll_nil)))) (by kernel_rfl) (by kernel_rfl) h
theorem F77_3_ok (R : Rt) (l0 : SV) (l1 : SV) (n12 : Int) (n13 : Int) (ds : Ds) (w : World) (ρ : Env) (e0 : ρ 0 = .slice l0.a l0.len l0.cap) (e1 : ρ 1 = .slice l1.a l1.len l1.cap) (e12 : ρ 12 = .int .i64 n12) (e13 : ρ 13 = .int .i64 n13) (h : F77_3 R l0 l1 n12 n13 ds w) :
    TrL Tryz.prog Tryz.f77.ntmps [c77_4_0] (F77_q4 R) ρ ds w :=
  TrL_one (Tr_loop' (c := innerC c77_4_0) (σ := Int) (enc := (fun (s : Int) (ρ : Env) => ρ 13 = .int .i64 s)) (D := (fun ρ K => dInt .i64 (ρ 13) fun n13 => K n13)) (F := (fun (J1 : (Int) → World → Prop) (s : Int) (w : World) => F77_2 R J1 l0 l1 n12 s ds w)) (s0 := n13) (by kernel_rfl) c77_4_0_l e13 (by kernel_rfl) (fun ρ K hD => by obtain ⟨n13, e13, hD⟩ := dInt_elim hD; exact ⟨n13, e13, hD⟩)
      (fun J1 s ρ' w' he ha hF => by
      have e13' := he
      exact F77_2_ok R J1 l0 l1 n12 s ds w' ρ' ((ha 0 (by kernel_rfl)).trans e0) ((ha 1 (by kernel_rfl)).trans e1) ((ha 12 (by kernel_rfl)).trans e12) e13' hF) h)
theorem F77_4_ok (R : Rt) (l0 : SV) (l1 : SV) (n12 : Int) (n13 : Int) (ds : Ds) (w : World) (ρ : Env) (e0 : ρ 0 = .slice l0.a l0.len l0.cap) (e1 : ρ 1 = .slice l1.a l1.len l1.cap) (e12 : ρ 12 = .int .i64 n12) (e13 : ρ 13 = .int .i64 n13) (h : F77_4 R l0 l1 n12 n13 ds w) :
    TrL Tryz.prog Tryz.f77.ntmps [c77_4, c77_5, c77_6] (F77_q1 R) ρ ds w :=
  TrL_head (K := (F77_k2 R)) (Tr_block' (c := innerC c77_4) (by kernel_rfl) c77_4_l (F77_3_ok R l0 l1 n12 n13 ds w ρ e0 e1 e12 e13 h))
    (fun ρ' ds' w' hD => by
      exact F77_1_ok R ds' w' ρ'  hD)
theorem F77_5_ok (R : Rt) (l0 : SV) (l1 : SV) (ds : Ds) (w : World) (ρ : Env) (e0 : ρ 0 = .slice l0.a l0.len l0.cap) (e1 : ρ 1 = .slice l1.a l1.len l1.cap) (h : F77_5 R l0 l1 ds w) :
    TrL Tryz.prog Tryz.f77.ntmps [c77_0, c77_1, c77_2, c77_3, c77_4, c77_5, c77_6] (F77_q1 R) ρ ds w :=
  TrL_piece (pre := [c77_0, c77_1, c77_2, c77_3]) (K := (F77_k6 R)) (X := F77_5 R l0 l1 ds w) (setAll_cons e0 (setAll_cons e1 setAll_nil)) (by kernel_rfl) (by kernel_rfl)
    (fun ρ' ds' w' hD => by
      obtain ⟨l0, e0, hD⟩ := dSl_elim hD; obtain ⟨l1, e1, hD⟩ := dSl_elim hD; obtain ⟨n12, e12, hD⟩ := dInt_elim hD; obtain ⟨n13, e13, hD⟩ := dInt_elim hD; exact F77_4_ok R l0 l1 n12 n13 ds' w' ρ' e0 e1 e12 e13 hD) h
theorem F77_calls (l0 : SV) (l1 : SV) (w : World) (R : Rt) (h : F77_5 R l0 l1 [] w) : Calls Tryz.prog 77 #[.slice l0.a l0.len l0.cap, .slice l1.a l1.len l1.cap] w R :=
  calls_of_L (l := [c77_0, c77_1, c77_2, c77_3, c77_4, c77_5, c77_6]) Tryz.func77 (by kernel_rfl) (by rw [Tryz.ntmps77]; exact Nat.le_of_ble_eq_true (by kernel_rfl)) c77_l
    (F77_5_ok R l0 l1 [] w _ rfl rfl h)
theorem F77_callsD (l0 : SV) (l1 : SV) (w : World) (R : Rt) (u : FrameMode) (h : F77_5 R l0 l1 [] w) : CallsD Tryz.prog 77 #[.slice l0.a l0.len l0.cap, .slice l1.a l1.len l1.cap] u w fun e u' w' => u' = u ∧ R e w' :=
  callsD_of_L (l := [c77_0, c77_1, c77_2, c77_3, c77_4, c77_5, c77_6]) Tryz.func77 (by kernel_rfl) (by rw [Tryz.ntmps77]; exact Nat.le_of_ble_eq_true (by kernel_rfl)) (by kernel_rfl) c77_l
    (F77_5_ok R l0 l1 [] w _ rfl rfl h) u

/-! function 78: slices.Equal[[]cabinetry/api.Value,cabinetry/api.Value] -/
noncomputable def c78_0 : Code := itemAt (flat (bodyOf Tryz.f78)) 0
noncomputable def c78_1 : Code := itemAt (flat (bodyOf Tryz.f78)) 1
noncomputable def c78_2 : Code := itemAt (flat (bodyOf Tryz.f78)) 2
noncomputable def c78_3 : Code := itemAt (flat (bodyOf Tryz.f78)) 3
noncomputable def c78_4 : Code := itemAt (flat (bodyOf Tryz.f78)) 4
noncomputable def c78_5 : Code := itemAt (flat (bodyOf Tryz.f78)) 5
noncomputable def c78_6 : Code := itemAt (flat (bodyOf Tryz.f78)) 6
noncomputable def c78_4_0 : Code := itemAt (flat (innerC c78_4)) 0
noncomputable def c78_4_0_0 : Code := itemAt (flat (innerC c78_4_0)) 0
noncomputable def c78_4_0_1 : Code := itemAt (flat (innerC c78_4_0)) 1
noncomputable def c78_4_0_2 : Code := itemAt (flat (innerC c78_4_0)) 2
noncomputable def c78_4_0_3 : Code := itemAt (flat (innerC c78_4_0)) 3
def F78_q1 (R : Rt) : EQ := endQ Tryz.prog Tryz.f78.results.toList R
def F78_1 (R : Rt) (ds : Ds) (w : World) : Prop :=
 runD Tryz.prog ds w fun w1 =>
 R (.returned (.bool true)) w1
def F78_k2 (R : Rt) : EP := (fun ρ ds w => F78_1 R ds w)
def F78_q3 (R : Rt) : EQ := (thenQ (F78_k2 R) (F78_q1 R))
def F78_q4 (R : Rt) : EQ := (blockQ 0 (F78_q3 R))
def F78_q5 (R : Rt) (J1 : (Int) → World → Prop) : EQ := (thenQ (fun ρ _ w => dInt .i64 (ρ 13) fun n13 => J1 n13 w) (F78_q4 R))
def F78_2 (R : Rt) (J1 : (Int) → World → Prop) (l0 : SV) (l1 : SV) (n12 : Int) (n13 : Int) (ds : Ds) (w : World) : Prop :=
 Br (decide (n13 < n12)) (
 dwE w fun w2 =>
 ∃ a3 : Addr, l0.a = some a3 ∧ 0 ≤ n13 ∧ n13 < ((l0.len : Nat) : Int) ∧
 ∃ n19_0 : Int, w2.cell? ((a3.add (n13.toNat * 3)).add 0) = some (.int .i64 n19_0) ∧
 ∃ n19_1 : Int, w2.cell? ((a3.add (n13.toNat * 3)).add 1) = some (.int .i64 n19_1) ∧
 ∃ s19_2 : ByteArray, w2.cell? ((a3.add (n13.toNat * 3)).add 2) = some (.string s19_2) ∧
 ∃ a4 : Addr, l1.a = some a4 ∧ 0 ≤ n13 ∧ n13 < ((l1.len : Nat) : Int) ∧
 ∃ n23_0 : Int, w2.cell? ((a4.add (n13.toNat * 3)).add 0) = some (.int .i64 n23_0) ∧
 ∃ n23_1 : Int, w2.cell? ((a4.add (n13.toNat * 3)).add 1) = some (.int .i64 n23_1) ∧
 ∃ s23_2 : ByteArray, w2.cell? ((a4.add (n13.toNat * 3)).add 2) = some (.string s23_2) ∧
 ∃ b24 : Bool, (∀ w, (eqS .neq 25 (.tmp 19) (.tmp 23) (.agg #[.int .i64 n19_0, .int .i64 n19_1, .string s19_2]) (.agg #[.int .i64 n23_0, .int .i64 n23_1, .string s23_2])).run Tryz.prog w = .ok (.bool b24) w) ∧
 Br b24 (
 runD Tryz.prog ds w2 fun w5 =>
 R (.returned (.bool false)) w5) (
 J1 (IntKind.i64.wrap (n13 + 1)) w2)) (
 F78_1 R ds w)
def F78_3 (R : Rt) (l0 : SV) (l1 : SV) (n12 : Int) (n13 : Int) (ds : Ds) (w : World) : Prop :=
 loopT (fun (J1 : (Int) → World → Prop) (s : Int) (w : World) => F78_2 R J1 l0 l1 n12 s ds w) n13 w
@[reducible] def F78_4 (R : Rt) (l0 : SV) (l1 : SV) (n12 : Int) (n13 : Int) (ds : Ds) (w : World) : Prop := F78_3 R l0 l1 n12 n13 ds w
def F78_k6 (R : Rt) : EP := (fun ρ ds w => dSl (ρ 0) fun l0 => dSl (ρ 1) fun l1 => dInt .i64 (ρ 12) fun n12 => dInt .i64 (ρ 13) fun n13 => F78_4 R l0 l1 n12 n13 ds w)
def F78_5 (R : Rt) (l0 : SV) (l1 : SV) (ds : Ds) (w : World) : Prop :=
 Br (((l0.len : Nat) : Int) != ((l1.len : Nat) : Int)) (
 runD Tryz.prog ds w fun w6 =>
 R (.returned (.bool false)) w6) (
 F78_4 R l0 l1 ((l0.len : Nat) : Int) 0 ds w)
theorem c78_l : flat (bodyOf Tryz.f78) = [c78_0, c78_1, c78_2, c78_3, c78_4, c78_5, c78_6] := by kernel_rfl
theorem c78_4_l : flat (innerC c78_4) = [c78_4_0] := by kernel_rfl
theorem c78_4_0_l : flat (innerC c78_4_0) = [c78_4_0_0, c78_4_0_1, c78_4_0_2, c78_4_0_3] := by kernel_rfl
theorem F78_1_ok (R : Rt) (ds : Ds) (w : World) (ρ : Env) (h : F78_1 R ds w) :
    TrL Tryz.prog Tryz.f78.ntmps [c78_5, c78_6] (F78_q1 R) ρ ds w :=
  TrL_leaf (X := F78_1 R ds w) setAll_nil (by kernel_rfl) (by kernel_rfl) h
theorem F78_2_ok (R : Rt) (J1 : (Int) → World → Prop) (l0 : SV) (l1 : SV) (n12 : Int) (n13 : Int) (ds : Ds) (w : World) (ρ : Env) (e0 : ρ 0 = .slice l0.a l0.len l0.cap) (e1 : ρ 1 = .slice l1.a l1.len l1.cap) (e12 : ρ 12 = .int .i64 n12) (e13 : ρ 13 = .int .i64 n13) (h : F78_2 R J1 l0 l1 n12 n13 ds w) :
    TrL Tryz.prog Tryz.f78.ntmps [c78_4_0_0, c78_4_0_1, c78_4_0_2, c78_4_0_3] (F78_q5 R J1) ρ ds w :=
  TrL_leaf (X := F78_2 R J1 l0 l1 n12 n13 ds w) (setAll_cons e0 (setAll_cons e1 (setAll_cons e12 (setAll_cons e13 setAll_nil)))) (by kernel_rfl) (by kernel_rfl) h
theorem F78_3_ok (R : Rt) (l0 : SV) (l1 : SV) (n12 : Int) (n13 : Int) (ds : Ds) (w : World) (ρ : Env) (e0 : ρ 0 = .slice l0.a l0.len l0.cap) (e1 : ρ 1 = .slice l1.a l1.len l1.cap) (e12 : ρ 12 = .int .i64 n12) (e13 : ρ 13 = .int .i64 n13) (h : F78_3 R l0 l1 n12 n13 ds w) :
    TrL Tryz.prog Tryz.f78.ntmps [c78_4_0] (F78_q4 R) ρ ds w :=
  TrL_one (Tr_loop' (c := innerC c78_4_0) (σ := Int) (enc := (fun (s : Int) (ρ : Env) => ρ 13 = .int .i64 s)) (D := (fun ρ K => dInt .i64 (ρ 13) fun n13 => K n13)) (F := (fun (J1 : (Int) → World → Prop) (s : Int) (w : World) => F78_2 R J1 l0 l1 n12 s ds w)) (s0 := n13) (by kernel_rfl) c78_4_0_l e13 (by kernel_rfl) (fun ρ K hD => by obtain ⟨n13, e13, hD⟩ := dInt_elim hD; exact ⟨n13, e13, hD⟩)
      (fun J1 s ρ' w' he ha hF => by
      have e13' := he
      exact F78_2_ok R J1 l0 l1 n12 s ds w' ρ' ((ha 0 (by kernel_rfl)).trans e0) ((ha 1 (by kernel_rfl)).trans e1) ((ha 12 (by kernel_rfl)).trans e12) e13' hF) h)
theorem F78_4_ok (R : Rt) (l0 : SV) (l1 : SV) (n12 : Int) (n13 : Int) (ds : Ds) (w : World) (ρ : Env) (e0 : ρ 0 = .slice l0.a l0.len l0.cap) (e1 : ρ 1 = .slice l1.a l1.len l1.cap) (e12 : ρ 12 = .int .i64 n12) (e13 : ρ 13 = .int .i64 n13) (h : F78_4 R l0 l1 n12 n13 ds w) :
    TrL Tryz.prog Tryz.f78.ntmps [c78_4, c78_5, c78_6] (F78_q1 R) ρ ds w :=
  TrL_head (K := (F78_k2 R)) (Tr_block' (c := innerC c78_4) (by kernel_rfl) c78_4_l (F78_3_ok R l0 l1 n12 n13 ds w ρ e0 e1 e12 e13 h))
    (fun ρ' ds' w' hD => by
      exact F78_1_ok R ds' w' ρ'  hD)
theorem F78_5_ok (R : Rt) (l0 : SV) (l1 : SV) (ds : Ds) (w : World) (ρ : Env) (e0 : ρ 0 = .slice l0.a l0.len l0.cap) (e1 : ρ 1 = .slice l1.a l1.len l1.cap) (h : F78_5 R l0 l1 ds w) :
    TrL Tryz.prog Tryz.f78.ntmps [c78_0, c78_1, c78_2, c78_3, c78_4, c78_5, c78_6] (F78_q1 R) ρ ds w :=
  TrL_piece (pre := [c78_0, c78_1, c78_2, c78_3]) (K := (F78_k6 R)) (X := F78_5 R l0 l1 ds w) (setAll_cons e0 (setAll_cons e1 setAll_nil)) (by kernel_rfl) (by kernel_rfl)
    (fun ρ' ds' w' hD => by
      obtain ⟨l0, e0, hD⟩ := dSl_elim hD; obtain ⟨l1, e1, hD⟩ := dSl_elim hD; obtain ⟨n12, e12, hD⟩ := dInt_elim hD; obtain ⟨n13, e13, hD⟩ := dInt_elim hD; exact F78_4_ok R l0 l1 n12 n13 ds' w' ρ' e0 e1 e12 e13 hD) h
theorem F78_calls (l0 : SV) (l1 : SV) (w : World) (R : Rt) (h : F78_5 R l0 l1 [] w) : Calls Tryz.prog 78 #[.slice l0.a l0.len l0.cap, .slice l1.a l1.len l1.cap] w R :=
  calls_of_L (l := [c78_0, c78_1, c78_2, c78_3, c78_4, c78_5, c78_6]) Tryz.func78 (by kernel_rfl) (by rw [Tryz.ntmps78]; exact Nat.le_of_ble_eq_true (by kernel_rfl)) c78_l
    (F78_5_ok R l0 l1 [] w _ rfl rfl h)
theorem F78_callsD (l0 : SV) (l1 : SV) (w : World) (R : Rt) (u : FrameMode) (h : F78_5 R l0 l1 [] w) : CallsD Tryz.prog 78 #[.slice l0.a l0.len l0.cap, .slice l1.a l1.len l1.cap] u w fun e u' w' => u' = u ∧ R e w' :=
  callsD_of_L (l := [c78_0, c78_1, c78_2, c78_3, c78_4, c78_5, c78_6]) Tryz.func78 (by kernel_rfl) (by rw [Tryz.ntmps78]; exact Nat.le_of_ble_eq_true (by kernel_rfl)) (by kernel_rfl) c78_l
    (F78_5_ok R l0 l1 [] w _ rfl rfl h) u

/-! function 79: cabinetry/cabinetryref03.SameFields -/
noncomputable def c79_0 : Code := itemAt (flat (bodyOf Tryz.f79)) 0
noncomputable def c79_1 : Code := itemAt (flat (bodyOf Tryz.f79)) 1
noncomputable def c79_2 : Code := itemAt (flat (bodyOf Tryz.f79)) 2
noncomputable def c79_3 : Code := itemAt (flat (bodyOf Tryz.f79)) 3
noncomputable def c79_4 : Code := itemAt (flat (bodyOf Tryz.f79)) 4
noncomputable def c79_5 : Code := itemAt (flat (bodyOf Tryz.f79)) 5
noncomputable def c79_6 : Code := itemAt (flat (bodyOf Tryz.f79)) 6
noncomputable def c79_4_0 : Code := itemAt (flat (innerC c79_4)) 0
noncomputable def c79_4_0_0 : Code := itemAt (flat (innerC c79_4_0)) 0
noncomputable def c79_4_0_1 : Code := itemAt (flat (innerC c79_4_0)) 1
noncomputable def c79_4_0_2 : Code := itemAt (flat (innerC c79_4_0)) 2
noncomputable def c79_4_0_3 : Code := itemAt (flat (innerC c79_4_0)) 3
def F79_q1 (R : Rt) : EQ := endQ Tryz.prog Tryz.f79.results.toList R
def F79_1 (R : Rt) (ds : Ds) (w : World) : Prop :=
 runD Tryz.prog ds w fun w1 =>
 R (.returned (.bool true)) w1
def F79_k2 (R : Rt) : EP := (fun ρ ds w => F79_1 R ds w)
def F79_q3 (R : Rt) : EQ := (thenQ (F79_k2 R) (F79_q1 R))
def F79_q4 (R : Rt) : EQ := (blockQ 0 (F79_q3 R))
def F79_q5 (R : Rt) (J1 : (Int) → World → Prop) : EQ := (thenQ (fun ρ _ w => dInt .i64 (ρ 5) fun n5 => J1 n5 w) (F79_q4 R))
def F79_2 (R : Rt) (J1 : (Int) → World → Prop) (l0 : SV) (l1 : SV) (n5 : Int) (ds : Ds) (w : World) : Prop :=
 Br (decide (n5 < ((l0.len : Nat) : Int))) (
 dwE w fun w2 =>
 ∃ a3 : Addr, l0.a = some a3 ∧ 0 ≤ n5 ∧ n5 < ((l0.len : Nat) : Int) ∧
 ∃ s20_0 : ByteArray, w2.cell? ((a3.add (n5.toNat * 4)).add 0) = some (.string s20_0) ∧
 ∃ n20_1 : Int, w2.cell? ((a3.add (n5.toNat * 4)).add 1) = some (.int .i64 n20_1) ∧
 ∃ n20_2 : Int, w2.cell? ((a3.add (n5.toNat * 4)).add 2) = some (.int .i64 n20_2) ∧
 ∃ b20_3 : Bool, w2.cell? ((a3.add (n5.toNat * 4)).add 3) = some (.bool b20_3) ∧
 ∃ a4 : Addr, l1.a = some a4 ∧ 0 ≤ n5 ∧ n5 < ((l1.len : Nat) : Int) ∧
 ∃ s24_0 : ByteArray, w2.cell? ((a4.add (n5.toNat * 4)).add 0) = some (.string s24_0) ∧
 ∃ n24_1 : Int, w2.cell? ((a4.add (n5.toNat * 4)).add 1) = some (.int .i64 n24_1) ∧
 ∃ n24_2 : Int, w2.cell? ((a4.add (n5.toNat * 4)).add 2) = some (.int .i64 n24_2) ∧
 ∃ b24_3 : Bool, w2.cell? ((a4.add (n5.toNat * 4)).add 3) = some (.bool b24_3) ∧
 ∃ b25 : Bool, (∀ w, (eqS .neq 23 (.tmp 20) (.tmp 24) (.agg #[.string s20_0, .int .i64 n20_1, .int .i64 n20_2, .bool b20_3]) (.agg #[.string s24_0, .int .i64 n24_1, .int .i64 n24_2, .bool b24_3])).run Tryz.prog w = .ok (.bool b25) w) ∧
 Br b25 (
 runD Tryz.prog ds w2 fun w5 =>
 R (.returned (.bool false)) w5) (
 J1 (IntKind.i64.wrap (n5 + 1)) w2)) (
 F79_1 R ds w)
def F79_3 (R : Rt) (l0 : SV) (l1 : SV) (n5 : Int) (ds : Ds) (w : World) : Prop :=
 loopT (fun (J1 : (Int) → World → Prop) (s : Int) (w : World) => F79_2 R J1 l0 l1 s ds w) n5 w
@[reducible] def F79_4 (R : Rt) (l0 : SV) (l1 : SV) (n5 : Int) (ds : Ds) (w : World) : Prop := F79_3 R l0 l1 n5 ds w
def F79_k6 (R : Rt) : EP := (fun ρ ds w => dSl (ρ 0) fun l0 => dSl (ρ 1) fun l1 => dInt .i64 (ρ 5) fun n5 => F79_4 R l0 l1 n5 ds w)
def F79_5 (R : Rt) (l0 : SV) (l1 : SV) (ds : Ds) (w : World) : Prop :=
 Br (((l0.len : Nat) : Int) != ((l1.len : Nat) : Int)) (
 runD Tryz.prog ds w fun w6 =>
 R (.returned (.bool false)) w6) (
 F79_4 R l0 l1 0 ds w)
theorem c79_l : flat (bodyOf Tryz.f79) = [c79_0, c79_1, c79_2, c79_3, c79_4, c79_5, c79_6] := by kernel_rfl
theorem c79_4_l : flat (innerC c79_4) = [c79_4_0] := by kernel_rfl
theorem c79_4_0_l : flat (innerC c79_4_0) = [c79_4_0_0, c79_4_0_1, c79_4_0_2, c79_4_0_3] := by kernel_rfl
theorem F79_1_ok (R : Rt) (ds : Ds) (w : World) (ρ : Env) (h : F79_1 R ds w) :
    TrL Tryz.prog Tryz.f79.ntmps [c79_5, c79_6] (F79_q1 R) ρ ds w :=
  TrL_leaf (X := F79_1 R ds w) setAll_nil (by kernel_rfl) (by kernel_rfl) h
theorem F79_2_ok (R : Rt) (J1 : (Int) → World → Prop) (l0 : SV) (l1 : SV) (n5 : Int) (ds : Ds) (w : World) (ρ : Env) (e0 : ρ 0 = .slice l0.a l0.len l0.cap) (e1 : ρ 1 = .slice l1.a l1.len l1.cap) (e5 : ρ 5 = .int .i64 n5) (h : F79_2 R J1 l0 l1 n5 ds w) :
    TrL Tryz.prog Tryz.f79.ntmps [c79_4_0_0, c79_4_0_1, c79_4_0_2, c79_4_0_3] (F79_q5 R J1) ρ ds w :=
  TrL_leaf (X := F79_2 R J1 l0 l1 n5 ds w) (setAll_cons e0 (setAll_cons e1 (setAll_cons e5 setAll_nil))) (by kernel_rfl) (by kernel_rfl) h
theorem F79_3_ok (R : Rt) (l0 : SV) (l1 : SV) (n5 : Int) (ds : Ds) (w : World) (ρ : Env) (e0 : ρ 0 = .slice l0.a l0.len l0.cap) (e1 : ρ 1 = .slice l1.a l1.len l1.cap) (e5 : ρ 5 = .int .i64 n5) (h : F79_3 R l0 l1 n5 ds w) :
    TrL Tryz.prog Tryz.f79.ntmps [c79_4_0] (F79_q4 R) ρ ds w :=
  TrL_one (Tr_loop' (c := innerC c79_4_0) (σ := Int) (enc := (fun (s : Int) (ρ : Env) => ρ 5 = .int .i64 s)) (D := (fun ρ K => dInt .i64 (ρ 5) fun n5 => K n5)) (F := (fun (J1 : (Int) → World → Prop) (s : Int) (w : World) => F79_2 R J1 l0 l1 s ds w)) (s0 := n5) (by kernel_rfl) c79_4_0_l e5 (by kernel_rfl) (fun ρ K hD => by obtain ⟨n5, e5, hD⟩ := dInt_elim hD; exact ⟨n5, e5, hD⟩)
      (fun J1 s ρ' w' he ha hF => by
      have e5' := he
      exact F79_2_ok R J1 l0 l1 s ds w' ρ' ((ha 0 (by kernel_rfl)).trans e0) ((ha 1 (by kernel_rfl)).trans e1) e5' hF) h)
theorem F79_4_ok (R : Rt) (l0 : SV) (l1 : SV) (n5 : Int) (ds : Ds) (w : World) (ρ : Env) (e0 : ρ 0 = .slice l0.a l0.len l0.cap) (e1 : ρ 1 = .slice l1.a l1.len l1.cap) (e5 : ρ 5 = .int .i64 n5) (h : F79_4 R l0 l1 n5 ds w) :
    TrL Tryz.prog Tryz.f79.ntmps [c79_4, c79_5, c79_6] (F79_q1 R) ρ ds w :=
  TrL_head (K := (F79_k2 R)) (Tr_block' (c := innerC c79_4) (by kernel_rfl) c79_4_l (F79_3_ok R l0 l1 n5 ds w ρ e0 e1 e5 h))
    (fun ρ' ds' w' hD => by
      exact F79_1_ok R ds' w' ρ'  hD)
theorem F79_5_ok (R : Rt) (l0 : SV) (l1 : SV) (ds : Ds) (w : World) (ρ : Env) (e0 : ρ 0 = .slice l0.a l0.len l0.cap) (e1 : ρ 1 = .slice l1.a l1.len l1.cap) (h : F79_5 R l0 l1 ds w) :
    TrL Tryz.prog Tryz.f79.ntmps [c79_0, c79_1, c79_2, c79_3, c79_4, c79_5, c79_6] (F79_q1 R) ρ ds w :=
  TrL_piece (pre := [c79_0, c79_1, c79_2, c79_3]) (K := (F79_k6 R)) (X := F79_5 R l0 l1 ds w) (setAll_cons e0 (setAll_cons e1 setAll_nil)) (by kernel_rfl) (by kernel_rfl)
    (fun ρ' ds' w' hD => by
      obtain ⟨l0, e0, hD⟩ := dSl_elim hD; obtain ⟨l1, e1, hD⟩ := dSl_elim hD; obtain ⟨n5, e5, hD⟩ := dInt_elim hD; exact F79_4_ok R l0 l1 n5 ds' w' ρ' e0 e1 e5 hD) h
theorem F79_calls (l0 : SV) (l1 : SV) (w : World) (R : Rt) (h : F79_5 R l0 l1 [] w) : Calls Tryz.prog 79 #[.slice l0.a l0.len l0.cap, .slice l1.a l1.len l1.cap] w R :=
  calls_of_L (l := [c79_0, c79_1, c79_2, c79_3, c79_4, c79_5, c79_6]) Tryz.func79 (by kernel_rfl) (by rw [Tryz.ntmps79]; exact Nat.le_of_ble_eq_true (by kernel_rfl)) c79_l
    (F79_5_ok R l0 l1 [] w _ rfl rfl h)
theorem F79_callsD (l0 : SV) (l1 : SV) (w : World) (R : Rt) (u : FrameMode) (h : F79_5 R l0 l1 [] w) : CallsD Tryz.prog 79 #[.slice l0.a l0.len l0.cap, .slice l1.a l1.len l1.cap] u w fun e u' w' => u' = u ∧ R e w' :=
  callsD_of_L (l := [c79_0, c79_1, c79_2, c79_3, c79_4, c79_5, c79_6]) Tryz.func79 (by kernel_rfl) (by rw [Tryz.ntmps79]; exact Nat.le_of_ble_eq_true (by kernel_rfl)) (by kernel_rfl) c79_l
    (F79_5_ok R l0 l1 [] w _ rfl rfl h) u

end Go.Proofs.YtecmfdfhpldmmaaGreatDoor
