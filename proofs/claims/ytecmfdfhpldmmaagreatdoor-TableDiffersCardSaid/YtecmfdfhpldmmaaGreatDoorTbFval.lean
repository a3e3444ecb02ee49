import Derived.Test.YtecmfdfhpldmmaaGreatDoorProg
import Derived.Test.YtecmfdfhpldmmaaGreatDoorShEight
/- Shallow texts of functions, printed by program, each checked by the kernel against the loaded code. No condition. -/
set_option maxRecDepth 100000
set_option linter.unusedVariables false
namespace Go.Proofs.YtecmfdfhpldmmaaGreatDoor
open Go.Sh
/-! function 49: cabinetry/val.Validate -/
noncomputable def c49_0 : Code := itemAt (flat (bodyOf Tryz.f49)) 0
noncomputable def c49_1 : Code := itemAt (flat (bodyOf Tryz.f49)) 1
noncomputable def c49_2 : Code := itemAt (flat (bodyOf Tryz.f49)) 2
noncomputable def c49_3 : Code := itemAt (flat (bodyOf Tryz.f49)) 3
noncomputable def c49_4 : Code := itemAt (flat (bodyOf Tryz.f49)) 4
noncomputable def c49_5 : Code := itemAt (flat (bodyOf Tryz.f49)) 5
noncomputable def c49_6 : Code := itemAt (flat (bodyOf Tryz.f49)) 6
def F49_q1 (R : Rt) : EQ := endQ Tryz.prog Tryz.f49.results.toList R
def F49_1 (R : Rt) (n0_0 : Int) (n0_1 : Int) (s0_2 : ByteArray) (ds : Ds) (w : World) : Prop :=
 alE (.cells #[.int .i64 n0_0, .int .i64 n0_1, .string s0_2] 25) w fun r1 w1 =>
 ∃ s4 : ByteArray, w1.cell? ((⟨r1, 0, none⟩ : Addr).add 2) = some (.string s4) ∧
 Br (decide (((s4.size : Nat) : Int) > 2048)) (
 runD Tryz.prog ds w1 fun w2 =>
 R (.returned (.int .i64 3)) w2) (
 ∃ n7_0 : Int, w1.cell? ((⟨r1, 0, none⟩ : Addr).add 0) = some (.int .i64 n7_0) ∧
 ∃ n7_1 : Int, w1.cell? ((⟨r1, 0, none⟩ : Addr).add 1) = some (.int .i64 n7_1) ∧
 ∃ s7_2 : ByteArray, w1.cell? ((⟨r1, 0, none⟩ : Addr).add 2) = some (.string s7_2) ∧
 Calls Tryz.prog 91 #[.agg #[.int .i64 n7_0, .int .i64 n7_1, .string s7_2]] w1 fun e w3 =>
 ∃ b8 : Bool, e = .returned (.bool b8) ∧
 Br (!b8) (
 runD Tryz.prog ds w3 fun w4 =>
 R (.returned (.int .i64 1)) w4) (
 runD Tryz.prog ds w3 fun w5 =>
 R (.returned (.int .i64 0)) w5))
theorem c49_l : flat (bodyOf Tryz.f49) = [c49_0, c49_1, c49_2, c49_3, c49_4, c49_5, c49_6] := by kernel_rfl
theorem F49_1_ok (R : Rt) (n0_0 : Int) (n0_1 : Int) (s0_2 : ByteArray) (ds : Ds) (w : World) (ρ : Env) (e0 : ρ 0 = .agg #[.int .i64 n0_0, .int .i64 n0_1, .string s0_2]) (h : F49_1 R n0_0 n0_1 s0_2 ds w) :
    TrL Tryz.prog Tryz.f49.ntmps [c49_0, c49_1, c49_2, c49_3, c49_4, c49_5, c49_6] (F49_q1 R) ρ ds w :=
  TrL_leaf (X := F49_1 R n0_0 n0_1 s0_2 ds w) (setAll_cons e0 setAll_nil) (by kernel_rfl) (by kernel_rfl) h
theorem F49_calls (n0_0 : Int) (n0_1 : Int) (s0_2 : ByteArray) (w : World) (R : Rt) (h : F49_1 R n0_0 n0_1 s0_2 [] w) : Calls Tryz.prog 49 #[.agg #[.int .i64 n0_0, .int .i64 n0_1, .string s0_2]] w R :=
  calls_of_L (l := [c49_0, c49_1, c49_2, c49_3, c49_4, c49_5, c49_6]) Tryz.func49 (by kernel_rfl) (by rw [Tryz.ntmps49]; exact Nat.le_of_ble_eq_true (by kernel_rfl)) c49_l
    (F49_1_ok R n0_0 n0_1 s0_2 [] w _ rfl h)
theorem F49_callsD (n0_0 : Int) (n0_1 : Int) (s0_2 : ByteArray) (w : World) (R : Rt) (u : FrameMode) (h : F49_1 R n0_0 n0_1 s0_2 [] w) : CallsD Tryz.prog 49 #[.agg #[.int .i64 n0_0, .int .i64 n0_1, .string s0_2]] u w fun e u' w' => u' = u ∧ R e w' :=
  callsD_of_L (l := [c49_0, c49_1, c49_2, c49_3, c49_4, c49_5, c49_6]) Tryz.func49 (by kernel_rfl) (by rw [Tryz.ntmps49]; exact Nat.le_of_ble_eq_true (by kernel_rfl)) (by kernel_rfl) c49_l
    (F49_1_ok R n0_0 n0_1 s0_2 [] w _ rfl h) u

/-! function 91: cabinetry/val.isValue -/
noncomputable def c91_0 : Code := itemAt (flat (bodyOf Tryz.f91)) 0
noncomputable def c91_1 : Code := itemAt (flat (bodyOf Tryz.f91)) 1
noncomputable def c91_2 : Code := itemAt (flat (bodyOf Tryz.f91)) 2
noncomputable def c91_3 : Code := itemAt (flat (bodyOf Tryz.f91)) 3
noncomputable def c91_4 : Code := itemAt (flat (bodyOf Tryz.f91)) 4
noncomputable def c91_5 : Code := itemAt (flat (bodyOf Tryz.f91)) 5
noncomputable def c91_6 : Code := itemAt (flat (bodyOf Tryz.f91)) 6
def F91_q1 (R : Rt) : EQ := endQ Tryz.prog Tryz.f91.results.toList R
def F91_1 (R : Rt) (p1 : Option Addr) (n22 : Int) (ds : Ds) (w : World) : Prop :=
 Br (n22 == 0) (
 ptrE p1 fun a1 =>
 ∃ n26 : Int, w.cell? (a1.add 1) = some (.int .i64 n26) ∧
 runD Tryz.prog ds w fun w2 =>
 R (.returned (.bool (n26 == 0))) w2) (
 Br (n22 == 1) (
 ptrE p1 fun a3 =>
 ∃ n31 : Int, w.cell? (a3.add 1) = some (.int .i64 n31) ∧
 Br (n31 == 0) (
 runD Tryz.prog ds w fun w4 =>
 R (.returned (.bool true)) w4) (
 ptrE p1 fun a5 =>
 ∃ n35 : Int, w.cell? (a5.add 1) = some (.int .i64 n35) ∧
 runD Tryz.prog ds w fun w6 =>
 R (.returned (.bool (n35 == 1))) w6)) (
 Br (n22 == 2) (
 ptrE p1 fun a7 =>
 ∃ n41 : Int, w.cell? (a7.add 1) = some (.int .i64 n41) ∧
 Calls Tryz.prog 97 #[.int .i64 n41] w fun e w8 =>
 ∃ b42 : Bool, e = .returned (.bool b42) ∧
 runD Tryz.prog ds w8 fun w9 =>
 R (.returned (.bool b42)) w9) (
 Br (n22 == 3) (
 ptrE p1 fun a10 =>
 ∃ n46 : Int, w.cell? (a10.add 1) = some (.int .i64 n46) ∧
 Calls Tryz.prog 136 #[.int .i64 n46] w fun e w11 =>
 ∃ b47 : Bool, e = .returned (.bool b47) ∧
 runD Tryz.prog ds w11 fun w12 =>
 R (.returned (.bool b47)) w12) (
 ptrE p1 fun a13 =>
 ∃ n49 : Int, w.cell? a13 = some (.int .i64 n49) ∧
 runD Tryz.prog ds w fun w14 =>
 R (.returned (.bool (n49 == 4))) w14))))
def F91_k2 (R : Rt) : EP := (fun ρ ds w => dPtr (ρ 1) fun p1 => dInt .i64 (ρ 22) fun n22 => F91_1 R p1 n22 ds w)
def F91_2 (R : Rt) (n0_0 : Int) (n0_1 : Int) (s0_2 : ByteArray) (ds : Ds) (w : World) : Prop :=
 alE (.cells #[.int .i64 n0_0, .int .i64 n0_1, .string s0_2] 25) w fun r1 w15 =>
 ∃ n4 : Int, w15.cell? (⟨r1, 0, none⟩ : Addr) = some (.int .i64 n4) ∧
 Br (n4 != 4) (
 ∃ s8 : ByteArray, w15.cell? ((⟨r1, 0, none⟩ : Addr).add 2) = some (.string s8) ∧
 Br (!(s8.toList == (⟨#[]⟩ : ByteArray).toList)) (
 runD Tryz.prog ds w15 fun w16 =>
 R (.returned (.bool false)) w16) (
 ∃ n13 : Int, w15.cell? (⟨r1, 0, none⟩ : Addr) = some (.int .i64 n13) ∧
 Br (n13 == 4) (
 ∃ n17 : Int, w15.cell? ((⟨r1, 0, none⟩ : Addr).add 1) = some (.int .i64 n17) ∧
 Br (n17 != 0) (
 runD Tryz.prog ds w15 fun w17 =>
 R (.returned (.bool false)) w17) (
 ∃ n22 : Int, w15.cell? (⟨r1, 0, none⟩ : Addr) = some (.int .i64 n22) ∧
 F91_1 R (some (⟨r1, 0, none⟩ : Addr)) n22 ds w15)) (
 ∃ n22 : Int, w15.cell? (⟨r1, 0, none⟩ : Addr) = some (.int .i64 n22) ∧
 F91_1 R (some (⟨r1, 0, none⟩ : Addr)) n22 ds w15))) (
 ∃ n13 : Int, w15.cell? (⟨r1, 0, none⟩ : Addr) = some (.int .i64 n13) ∧
 Br (n13 == 4) (
 ∃ n17 : Int, w15.cell? ((⟨r1, 0, none⟩ : Addr).add 1) = some (.int .i64 n17) ∧
 Br (n17 != 0) (
 runD Tryz.prog ds w15 fun w18 =>
 R (.returned (.bool false)) w18) (
 ∃ n22 : Int, w15.cell? (⟨r1, 0, none⟩ : Addr) = some (.int .i64 n22) ∧
 F91_1 R (some (⟨r1, 0, none⟩ : Addr)) n22 ds w15)) (
 ∃ n22 : Int, w15.cell? (⟨r1, 0, none⟩ : Addr) = some (.int .i64 n22) ∧
 F91_1 R (some (⟨r1, 0, none⟩ : Addr)) n22 ds w15))
theorem c91_l : flat (bodyOf Tryz.f91) = [c91_0, c91_1, c91_2, c91_3, c91_4, c91_5, c91_6] := by kernel_rfl
theorem F91_1_ok (R : Rt) (p1 : Option Addr) (n22 : Int) (ds : Ds) (w : World) (ρ : Env) (e1 : ρ 1 = .pointer p1) (e22 : ρ 22 = .int .i64 n22) (h : F91_1 R p1 n22 ds w) :
    TrL Tryz.prog Tryz.f91.ntmps [c91_4, c91_5, c91_6] (F91_q1 R) ρ ds w :=
  TrL_leaf (X := F91_1 R p1 n22 ds w) (setAll_cons e1 (setAll_cons e22 setAll_nil)) (by kernel_rfl) (by kernel_rfl) h
theorem F91_2_ok (R : Rt) (n0_0 : Int) (n0_1 : Int) (s0_2 : ByteArray) (ds : Ds) (w : World) (ρ : Env) (e0 : ρ 0 = .agg #[.int .i64 n0_0, .int .i64 n0_1, .string s0_2]) (h : F91_2 R n0_0 n0_1 s0_2 ds w) :
    TrL Tryz.prog Tryz.f91.ntmps [c91_0, c91_1, c91_2, c91_3, c91_4, c91_5, c91_6] (F91_q1 R) ρ ds w :=
  TrL_piece (pre := [c91_0, c91_1, c91_2, c91_3]) (K := (F91_k2 R)) (X := F91_2 R n0_0 n0_1 s0_2 ds w) (setAll_cons e0 setAll_nil) (by kernel_rfl) (by kernel_rfl)
    (fun ρ' ds' w' hD => by
      obtain ⟨p1, e1, hD⟩ := dPtr_elim hD; obtain ⟨n22, e22, hD⟩ := dInt_elim hD; exact F91_1_ok R p1 n22 ds' w' ρ' e1 e22 hD) h
theorem F91_calls (n0_0 : Int) (n0_1 : Int) (s0_2 : ByteArray) (w : World) (R : Rt) (h : F91_2 R n0_0 n0_1 s0_2 [] w) : Calls Tryz.prog 91 #[.agg #[.int .i64 n0_0, .int .i64 n0_1, .string s0_2]] w R :=
  calls_of_L (l := [c91_0, c91_1, c91_2, c91_3, c91_4, c91_5, c91_6]) Tryz.func91 (by kernel_rfl) (by rw [Tryz.ntmps91]; exact Nat.le_of_ble_eq_true (by kernel_rfl)) c91_l
    (F91_2_ok R n0_0 n0_1 s0_2 [] w _ rfl h)
theorem F91_callsD (n0_0 : Int) (n0_1 : Int) (s0_2 : ByteArray) (w : World) (R : Rt) (u : FrameMode) (h : F91_2 R n0_0 n0_1 s0_2 [] w) : CallsD Tryz.prog 91 #[.agg #[.int .i64 n0_0, .int .i64 n0_1, .string s0_2]] u w fun e u' w' => u' = u ∧ R e w' :=
  callsD_of_L (l := [c91_0, c91_1, c91_2, c91_3, c91_4, c91_5, c91_6]) Tryz.func91 (by kernel_rfl) (by rw [Tryz.ntmps91]; exact Nat.le_of_ble_eq_true (by kernel_rfl)) (by kernel_rfl) c91_l
    (F91_2_ok R n0_0 n0_1 s0_2 [] w _ rfl h) u

/-! function 97: cabinetry/val.isNum -/
noncomputable def c97_0 : Code := itemAt (flat (bodyOf Tryz.f97)) 0
noncomputable def c97_1 : Code := itemAt (flat (bodyOf Tryz.f97)) 1
noncomputable def c97_2 : Code := itemAt (flat (bodyOf Tryz.f97)) 2
def F97_q1 (R : Rt) : EQ := endQ Tryz.prog Tryz.f97.results.toList R
def F97_1 (R : Rt) (n0 : Int) (ds : Ds) (w : World) : Prop :=
 Br (decide (n0 ≥ (-1000000000000000))) (
 runD Tryz.prog ds w fun w1 =>
 R (.returned (.bool (decide (n0 ≤ 1000000000000000)))) w1) (
 runD Tryz.prog ds w fun w2 =>
 R (.returned (.bool false)) w2)
theorem c97_l : flat (bodyOf Tryz.f97) = [c97_0, c97_1, c97_2] := by kernel_rfl
theorem F97_1_ok (R : Rt) (n0 : Int) (ds : Ds) (w : World) (ρ : Env) (e0 : ρ 0 = .int .i64 n0) (h : F97_1 R n0 ds w) :
    TrL Tryz.prog Tryz.f97.ntmps [c97_0, c97_1, c97_2] (F97_q1 R) ρ ds w :=
  TrL_leaf (X := F97_1 R n0 ds w) (setAll_cons e0 setAll_nil) (by kernel_rfl) (by kernel_rfl) h
theorem F97_calls (n0 : Int) (w : World) (R : Rt) (h : F97_1 R n0 [] w) : Calls Tryz.prog 97 #[.int .i64 n0] w R :=
  calls_of_L (l := [c97_0, c97_1, c97_2]) Tryz.func97 (by kernel_rfl) (by rw [Tryz.ntmps97]; exact Nat.le_of_ble_eq_true (by kernel_rfl)) c97_l
    (F97_1_ok R n0 [] w _ rfl h)
theorem F97_callsD (n0 : Int) (w : World) (R : Rt) (u : FrameMode) (h : F97_1 R n0 [] w) : CallsD Tryz.prog 97 #[.int .i64 n0] u w fun e u' w' => u' = u ∧ R e w' :=
  callsD_of_L (l := [c97_0, c97_1, c97_2]) Tryz.func97 (by kernel_rfl) (by rw [Tryz.ntmps97]; exact Nat.le_of_ble_eq_true (by kernel_rfl)) (by kernel_rfl) c97_l
    (F97_1_ok R n0 [] w _ rfl h) u

/-! function 136: cabinetry/val.isDay -/
noncomputable def c136_0 : Code := itemAt (flat (bodyOf Tryz.f136)) 0
noncomputable def c136_1 : Code := itemAt (flat (bodyOf Tryz.f136)) 1
noncomputable def c136_2 : Code := itemAt (flat (bodyOf Tryz.f136)) 2
def F136_q1 (R : Rt) : EQ := endQ Tryz.prog Tryz.f136.results.toList R
def F136_1 (R : Rt) (n0 : Int) (ds : Ds) (w : World) : Prop :=
 Br (decide (n0 ≥ 0)) (
 runD Tryz.prog ds w fun w1 =>
 R (.returned (.bool (decide (n0 ≤ 3652059)))) w1) (
 runD Tryz.prog ds w fun w2 =>
 R (.returned (.bool false)) w2)
theorem c136_l : flat (bodyOf Tryz.f136) = [c136_0, c136_1, c136_2] := by kernel_rfl
theorem F136_1_ok (R : Rt) (n0 : Int) (ds : Ds) (w : World) (ρ : Env) (e0 : ρ 0 = .int .i64 n0) (h : F136_1 R n0 ds w) :
    TrL Tryz.prog Tryz.f136.ntmps [c136_0, c136_1, c136_2] (F136_q1 R) ρ ds w :=
  TrL_leaf (X := F136_1 R n0 ds w) (setAll_cons e0 setAll_nil) (by kernel_rfl) (by kernel_rfl) h
theorem F136_calls (n0 : Int) (w : World) (R : Rt) (h : F136_1 R n0 [] w) : Calls Tryz.prog 136 #[.int .i64 n0] w R :=
  calls_of_L (l := [c136_0, c136_1, c136_2]) Tryz.func136 (by kernel_rfl) (by rw [Tryz.ntmps136]; exact Nat.le_of_ble_eq_true (by kernel_rfl)) c136_l
    (F136_1_ok R n0 [] w _ rfl h)
theorem F136_callsD (n0 : Int) (w : World) (R : Rt) (u : FrameMode) (h : F136_1 R n0 [] w) : CallsD Tryz.prog 136 #[.int .i64 n0] u w fun e u' w' => u' = u ∧ R e w' :=
  callsD_of_L (l := [c136_0, c136_1, c136_2]) Tryz.func136 (by kernel_rfl) (by rw [Tryz.ntmps136]; exact Nat.le_of_ble_eq_true (by kernel_rfl)) (by kernel_rfl) c136_l
    (F136_1_ok R n0 [] w _ rfl h) u

/-! function 57: cabinetry/cabinetryref01.Validate -/
noncomputable def c57_0 : Code := itemAt (flat (bodyOf Tryz.f57)) 0
noncomputable def c57_1 : Code := itemAt (flat (bodyOf Tryz.f57)) 1
noncomputable def c57_2 : Code := itemAt (flat (bodyOf Tryz.f57)) 2
noncomputable def c57_3 : Code := itemAt (flat (bodyOf Tryz.f57)) 3
noncomputable def c57_4 : Code := itemAt (flat (bodyOf Tryz.f57)) 4
noncomputable def c57_5 : Code := itemAt (flat (bodyOf Tryz.f57)) 5
noncomputable def c57_6 : Code := itemAt (flat (bodyOf Tryz.f57)) 6
noncomputable def c57_7 : Code := itemAt (flat (bodyOf Tryz.f57)) 7
noncomputable def c57_8 : Code := itemAt (flat (bodyOf Tryz.f57)) 8
noncomputable def c57_9 : Code := itemAt (flat (bodyOf Tryz.f57)) 9
def F57_q1 (R : Rt) : EQ := endQ Tryz.prog Tryz.f57.results.toList R
def F57_1 (R : Rt) (p1 : Option Addr) (b3 : Bool) (ds : Ds) (w : World) : Prop :=
 Br (!b3) (
 runD Tryz.prog ds w fun w1 =>
 R (.returned (.int .i64 1)) w1) (
 ptrE p1 fun a2 =>
 ∃ n49 : Int, w.cell? a2 = some (.int .i64 n49) ∧
 Br (n49 != 4) (
 ptrE p1 fun a3 =>
 ∃ s53 : ByteArray, w.cell? (a3.add 2) = some (.string s53) ∧
 Br (!(s53.toList == (⟨#[]⟩ : ByteArray).toList)) (
 runD Tryz.prog ds w fun w4 =>
 R (.returned (.int .i64 1)) w4) (
 runD Tryz.prog ds w fun w5 =>
 R (.returned (.int .i64 0)) w5)) (
 runD Tryz.prog ds w fun w6 =>
 R (.returned (.int .i64 0)) w6))
def F57_k2 (R : Rt) : EP := (fun ρ ds w => dPtr (ρ 1) fun p1 => dBl (ρ 3) fun b3 => F57_1 R p1 b3 ds w)
def F57_2 (R : Rt) (n0_0 : Int) (n0_1 : Int) (s0_2 : ByteArray) (ds : Ds) (w : World) : Prop :=
 alE (.cells #[.int .i64 n0_0, .int .i64 n0_1, .string s0_2] 25) w fun r1 w7 =>
 ∃ s5 : ByteArray, w7.cell? ((⟨r1, 0, none⟩ : Addr).add 2) = some (.string s5) ∧
 Br (decide (((s5.size : Nat) : Int) > 2048)) (
 runD Tryz.prog ds w7 fun w8 =>
 R (.returned (.int .i64 3)) w8) (
 ∃ n9 : Int, w7.cell? (⟨r1, 0, none⟩ : Addr) = some (.int .i64 n9) ∧
 Br (n9 == 0) (
 ∃ n13 : Int, w7.cell? ((⟨r1, 0, none⟩ : Addr).add 1) = some (.int .i64 n13) ∧
 F57_1 R (some (⟨r1, 0, none⟩ : Addr)) (n13 == 0) ds w7) (
 Br (n9 == 1) (
 ∃ n18 : Int, w7.cell? ((⟨r1, 0, none⟩ : Addr).add 1) = some (.int .i64 n18) ∧
 Br (n18 == 0) (
 F57_1 R (some (⟨r1, 0, none⟩ : Addr)) true ds w7) (
 ∃ n22 : Int, w7.cell? ((⟨r1, 0, none⟩ : Addr).add 1) = some (.int .i64 n22) ∧
 F57_1 R (some (⟨r1, 0, none⟩ : Addr)) (n22 == 1) ds w7)) (
 Br (n9 == 2) (
 ∃ n28 : Int, w7.cell? ((⟨r1, 0, none⟩ : Addr).add 1) = some (.int .i64 n28) ∧
 Calls Tryz.prog 102 #[.int .i64 n28] w7 fun e w9 =>
 ∃ b29 : Bool, e = .returned (.bool b29) ∧
 F57_1 R (some (⟨r1, 0, none⟩ : Addr)) b29 ds w9) (
 Br (n9 == 3) (
 ∃ n33 : Int, w7.cell? ((⟨r1, 0, none⟩ : Addr).add 1) = some (.int .i64 n33) ∧
 Br (decide (n33 ≥ 0)) (
 ∃ n37 : Int, w7.cell? ((⟨r1, 0, none⟩ : Addr).add 1) = some (.int .i64 n37) ∧
 F57_1 R (some (⟨r1, 0, none⟩ : Addr)) (decide (n37 ≤ 3652059)) ds w7) (
 F57_1 R (some (⟨r1, 0, none⟩ : Addr)) false ds w7)) (
 Br (n9 == 4) (
 ∃ n43 : Int, w7.cell? ((⟨r1, 0, none⟩ : Addr).add 1) = some (.int .i64 n43) ∧
 F57_1 R (some (⟨r1, 0, none⟩ : Addr)) (n43 == 0) ds w7) (
 F57_1 R (some (⟨r1, 0, none⟩ : Addr)) false ds w7))))))
theorem c57_l : flat (bodyOf Tryz.f57) = [c57_0, c57_1, c57_2, c57_3, c57_4, c57_5, c57_6, c57_7, c57_8, c57_9] := by kernel_rfl
theorem F57_1_ok (R : Rt) (p1 : Option Addr) (b3 : Bool) (ds : Ds) (w : World) (ρ : Env) (e1 : ρ 1 = .pointer p1) (e3 : ρ 3 = .bool b3) (h : F57_1 R p1 b3 ds w) :
    TrL Tryz.prog Tryz.f57.ntmps [c57_6, c57_7, c57_8, c57_9] (F57_q1 R) ρ ds w :=
  TrL_leaf (X := F57_1 R p1 b3 ds w) (setAll_cons e1 (setAll_cons e3 setAll_nil)) (by kernel_rfl) (by kernel_rfl) h
theorem F57_2_ok (R : Rt) (n0_0 : Int) (n0_1 : Int) (s0_2 : ByteArray) (ds : Ds) (w : World) (ρ : Env) (e0 : ρ 0 = .agg #[.int .i64 n0_0, .int .i64 n0_1, .string s0_2]) (h : F57_2 R n0_0 n0_1 s0_2 ds w) :
    TrL Tryz.prog Tryz.f57.ntmps [c57_0, c57_1, c57_2, c57_3, c57_4, c57_5, c57_6, c57_7, c57_8, c57_9] (F57_q1 R) ρ ds w :=
  TrL_piece (pre := [c57_0, c57_1, c57_2, c57_3, c57_4, c57_5]) (K := (F57_k2 R)) (X := F57_2 R n0_0 n0_1 s0_2 ds w) (setAll_cons e0 setAll_nil) (by kernel_rfl) (by kernel_rfl)
    (fun ρ' ds' w' hD => by
      obtain ⟨p1, e1, hD⟩ := dPtr_elim hD; obtain ⟨b3, e3, hD⟩ := dBl_elim hD; exact F57_1_ok R p1 b3 ds' w' ρ' e1 e3 hD) h
theorem F57_calls (n0_0 : Int) (n0_1 : Int) (s0_2 : ByteArray) (w : World) (R : Rt) (h : F57_2 R n0_0 n0_1 s0_2 [] w) : Calls Tryz.prog 57 #[.agg #[.int .i64 n0_0, .int .i64 n0_1, .string s0_2]] w R :=
  calls_of_L (l := [c57_0, c57_1, c57_2, c57_3, c57_4, c57_5, c57_6, c57_7, c57_8, c57_9]) Tryz.func57 (by kernel_rfl) (by rw [Tryz.ntmps57]; exact Nat.le_of_ble_eq_true (by kernel_rfl)) c57_l
    (F57_2_ok R n0_0 n0_1 s0_2 [] w _ rfl h)
theorem F57_callsD (n0_0 : Int) (n0_1 : Int) (s0_2 : ByteArray) (w : World) (R : Rt) (u : FrameMode) (h : F57_2 R n0_0 n0_1 s0_2 [] w) : CallsD Tryz.prog 57 #[.agg #[.int .i64 n0_0, .int .i64 n0_1, .string s0_2]] u w fun e u' w' => u' = u ∧ R e w' :=
  callsD_of_L (l := [c57_0, c57_1, c57_2, c57_3, c57_4, c57_5, c57_6, c57_7, c57_8, c57_9]) Tryz.func57 (by kernel_rfl) (by rw [Tryz.ntmps57]; exact Nat.le_of_ble_eq_true (by kernel_rfl)) (by kernel_rfl) c57_l
    (F57_2_ok R n0_0 n0_1 s0_2 [] w _ rfl h) u

/-! function 102: cabinetry/cabinetryref01.InNum -/
noncomputable def c102_0 : Code := itemAt (flat (bodyOf Tryz.f102)) 0
noncomputable def c102_1 : Code := itemAt (flat (bodyOf Tryz.f102)) 1
noncomputable def c102_2 : Code := itemAt (flat (bodyOf Tryz.f102)) 2
def F102_q1 (R : Rt) : EQ := endQ Tryz.prog Tryz.f102.results.toList R
def F102_1 (R : Rt) (n0 : Int) (ds : Ds) (w : World) : Prop :=
 Br (decide (n0 ≥ (-1000000000000000))) (
 runD Tryz.prog ds w fun w1 =>
 R (.returned (.bool (decide (n0 ≤ 1000000000000000)))) w1) (
 runD Tryz.prog ds w fun w2 =>
 R (.returned (.bool false)) w2)
theorem c102_l : flat (bodyOf Tryz.f102) = [c102_0, c102_1, c102_2] := by kernel_rfl
theorem F102_1_ok (R : Rt) (n0 : Int) (ds : Ds) (w : World) (ρ : Env) (e0 : ρ 0 = .int .i64 n0) (h : F102_1 R n0 ds w) :
    TrL Tryz.prog Tryz.f102.ntmps [c102_0, c102_1, c102_2] (F102_q1 R) ρ ds w :=
  TrL_leaf (X := F102_1 R n0 ds w) (setAll_cons e0 setAll_nil) (by kernel_rfl) (by kernel_rfl) h
theorem F102_calls (n0 : Int) (w : World) (R : Rt) (h : F102_1 R n0 [] w) : Calls Tryz.prog 102 #[.int .i64 n0] w R :=
  calls_of_L (l := [c102_0, c102_1, c102_2]) Tryz.func102 (by kernel_rfl) (by rw [Tryz.ntmps102]; exact Nat.le_of_ble_eq_true (by kernel_rfl)) c102_l
    (F102_1_ok R n0 [] w _ rfl h)
theorem F102_callsD (n0 : Int) (w : World) (R : Rt) (u : FrameMode) (h : F102_1 R n0 [] w) : CallsD Tryz.prog 102 #[.int .i64 n0] u w fun e u' w' => u' = u ∧ R e w' :=
  callsD_of_L (l := [c102_0, c102_1, c102_2]) Tryz.func102 (by kernel_rfl) (by rw [Tryz.ntmps102]; exact Nat.le_of_ble_eq_true (by kernel_rfl)) (by kernel_rfl) c102_l
    (F102_1_ok R n0 [] w _ rfl h) u

end Go.Proofs.YtecmfdfhpldmmaaGreatDoor
