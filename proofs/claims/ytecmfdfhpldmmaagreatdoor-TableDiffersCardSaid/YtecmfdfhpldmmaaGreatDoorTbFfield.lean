import Derived.Test.YtecmfdfhpldmmaaGreatDoorProg
import Derived.Test.YtecmfdfhpldmmaaGreatDoorShEight
/- Shallow texts of functions, printed by program, each checked by the kernel against the loaded code. No condition. -/
set_option maxRecDepth 100000
set_option linter.unusedVariables false
namespace Go.Proofs.YtecmfdfhpldmmaaGreatDoor
open Go.Sh
/-! function 47: cabinetry/table.isField -/
noncomputable def c47_0 : Code := itemAt (flat (bodyOf Tryz.f47)) 0
noncomputable def c47_1 : Code := itemAt (flat (bodyOf Tryz.f47)) 1
noncomputable def c47_2 : Code := itemAt (flat (bodyOf Tryz.f47)) 2
noncomputable def c47_3 : Code := itemAt (flat (bodyOf Tryz.f47)) 3
def F47_q1 (R : Rt) : EQ := endQ Tryz.prog Tryz.f47.results.toList R
def F47_1 (R : Rt) (p1 : Option Addr) (p3 : Option Addr) (b4 : Bool) (ds : Ds) (w : World) : Prop :=
 Br b4 (
 ptrE p1 fun a1 =>
 ∃ s15 : ByteArray, w.cell? a1 = some (.string s15) ∧
 Calls Tryz.prog 90 #[.string s15] w fun e w2 =>
 ∃ b16 : Bool, e = .returned (.bool b16) ∧
 Br b16 (
 ptrE p1 fun a3 =>
 ∃ n20 : Int, w2.cell? (a3.add 2) = some (.int .i64 n20) ∧
 ptrE p3 fun a4 =>
 ∃ n22 : Int, w2.cell? (a4.add 1) = some (.int .i64 n22) ∧
 Br (decide (n20 ≥ n22)) (
 ptrE p1 fun a5 =>
 ∃ n27 : Int, w2.cell? (a5.add 2) = some (.int .i64 n27) ∧
 ptrE p3 fun a6 =>
 ∃ n29 : Int, w2.cell? (a6.add 2) = some (.int .i64 n29) ∧
 runD Tryz.prog ds w2 fun w7 =>
 R (.returned (.bool (decide (n27 ≤ n29)))) w7) (
 runD Tryz.prog ds w2 fun w8 =>
 R (.returned (.bool false)) w8)) (
 runD Tryz.prog ds w2 fun w9 =>
 R (.returned (.bool false)) w9)) (
 runD Tryz.prog ds w fun w10 =>
 R (.returned (.bool false)) w10)
def F47_k2 (R : Rt) : EP := (fun ρ ds w => dPtr (ρ 1) fun p1 => dPtr (ρ 3) fun p3 => dBl (ρ 4) fun b4 => F47_1 R p1 p3 b4 ds w)
def F47_2 (R : Rt) (s0_0 : ByteArray) (n0_1 : Int) (n0_2 : Int) (b0_3 : Bool) (ds : Ds) (w : World) : Prop :=
 alE (.cells #[.string s0_0, .int .i64 n0_1, .int .i64 n0_2, .bool b0_3] 23) w fun r1 w11 =>
 dwE w11 fun w12 =>
 ∃ S1 : World → Prop, S1 w12 ∧
 ∃ n8 : Int, (∀ w', S1 w' → w'.cell? ((⟨r1, 0, none⟩ : Addr).add 1) = some (.int .i64 n8)) ∧
 (
 Calls Tryz.prog 89 #[] w12 fun e w13 =>
 ∃ m6 : Option Nat, e = .returned (.map m6) ∧
 ∃ S2 : World → Prop, S2 w13 ∧ (∀ u, S2 u → S1 u) ∧
 ∃ n9_0_0 : Int, ∃ n9_0_1 : Int, ∃ n9_0_2 : Int, ∃ v9_0_3 : Value, ∃ v9_0_4 : Value, ∃ b9_1 : Bool, (∀ w', S2 w' → (Instr.lookup 104 (.map m6) (.int .i64 n8) true).run Tryz.prog w' = .ok (.tuple #[.agg #[.int .u8 n9_0_0, .int .i64 n9_0_1, .int .i64 n9_0_2, v9_0_3, v9_0_4], .bool b9_1]) w') ∧
 alE (.cells #[.int .u8 0, .int .i64 0, .int .i64 0, .nilFunc, .nilFunc] 102) w13 fun r3 w14 =>
 ∃ S3 : World → Prop, S3 w14 ∧ (∀ u, S3 u → S2 u) ∧
 stA Tryz.prog 102 (⟨r3, 0, none⟩ : Addr) #[.int .u8 n9_0_0, .int .i64 n9_0_1, .int .i64 n9_0_2, v9_0_3, v9_0_4] w14 fun w15 =>
 F47_1 R (some (⟨r1, 0, none⟩ : Addr)) (some (⟨r3, 0, none⟩ : Addr)) b9_1 ds w15) ∧ (
 alE (.cells #[.int .u8 0, .int .i64 0, .int .i64 0, .nilFunc, .nilFunc] 102) w12 fun r3 w16 =>
 ∃ S4 : World → Prop, S4 w16 ∧ (∀ u, S4 u → S1 u) ∧
 Calls Tryz.prog 89 #[] w16 fun e w17 =>
 ∃ m6 : Option Nat, e = .returned (.map m6) ∧
 ∃ S5 : World → Prop, S5 w17 ∧ (∀ u, S5 u → S4 u) ∧
 ∃ n9_0_0 : Int, ∃ n9_0_1 : Int, ∃ n9_0_2 : Int, ∃ v9_0_3 : Value, ∃ v9_0_4 : Value, ∃ b9_1 : Bool, (∀ w', S5 w' → (Instr.lookup 104 (.map m6) (.int .i64 n8) true).run Tryz.prog w' = .ok (.tuple #[.agg #[.int .u8 n9_0_0, .int .i64 n9_0_1, .int .i64 n9_0_2, v9_0_3, v9_0_4], .bool b9_1]) w') ∧
 stA Tryz.prog 102 (⟨r3, 0, none⟩ : Addr) #[.int .u8 n9_0_0, .int .i64 n9_0_1, .int .i64 n9_0_2, v9_0_3, v9_0_4] w17 fun w18 =>
 F47_1 R (some (⟨r1, 0, none⟩ : Addr)) (some (⟨r3, 0, none⟩ : Addr)) b9_1 ds w18)
theorem c47_l : flat (bodyOf Tryz.f47) = [c47_0, c47_1, c47_2, c47_3] := by kernel_rfl
theorem F47_1_ok (R : Rt) (p1 : Option Addr) (p3 : Option Addr) (b4 : Bool) (ds : Ds) (w : World) (ρ : Env) (e1 : ρ 1 = .pointer p1) (e3 : ρ 3 = .pointer p3) (e4 : ρ 4 = .bool b4) (h : F47_1 R p1 p3 b4 ds w) :
    TrL Tryz.prog Tryz.f47.ntmps [c47_2, c47_3] (F47_q1 R) ρ ds w :=
  TrL_leaf (X := F47_1 R p1 p3 b4 ds w) (setAll_cons e1 (setAll_cons e3 (setAll_cons e4 setAll_nil))) (by kernel_rfl) (by kernel_rfl) h
theorem F47_2_ok (R : Rt) (s0_0 : ByteArray) (n0_1 : Int) (n0_2 : Int) (b0_3 : Bool) (ds : Ds) (w : World) (ρ : Env) (e0 : ρ 0 = .agg #[.string s0_0, .int .i64 n0_1, .int .i64 n0_2, .bool b0_3]) (h : F47_2 R s0_0 n0_1 n0_2 b0_3 ds w) :
    TrL Tryz.prog Tryz.f47.ntmps [c47_0, c47_1, c47_2, c47_3] (F47_q1 R) ρ ds w :=
  TrL_piece (pre := [c47_0, c47_1]) (K := (F47_k2 R)) (X := F47_2 R s0_0 n0_1 n0_2 b0_3 ds w) (setAll_cons e0 setAll_nil) (by kernel_rfl) (by kernel_rfl)
    (fun ρ' ds' w' hD => by
      obtain ⟨p1, e1, hD⟩ := dPtr_elim hD; obtain ⟨p3, e3, hD⟩ := dPtr_elim hD; obtain ⟨b4, e4, hD⟩ := dBl_elim hD; exact F47_1_ok R p1 p3 b4 ds' w' ρ' e1 e3 e4 hD) h
theorem F47_calls (s0_0 : ByteArray) (n0_1 : Int) (n0_2 : Int) (b0_3 : Bool) (w : World) (R : Rt) (h : F47_2 R s0_0 n0_1 n0_2 b0_3 [] w) : Calls Tryz.prog 47 #[.agg #[.string s0_0, .int .i64 n0_1, .int .i64 n0_2, .bool b0_3]] w R :=
  calls_of_L (l := [c47_0, c47_1, c47_2, c47_3]) Tryz.func47 (by kernel_rfl) (by rw [Tryz.ntmps47]; exact Nat.le_of_ble_eq_true (by kernel_rfl)) c47_l
    (F47_2_ok R s0_0 n0_1 n0_2 b0_3 [] w _ rfl h)
theorem F47_callsD (s0_0 : ByteArray) (n0_1 : Int) (n0_2 : Int) (b0_3 : Bool) (w : World) (R : Rt) (u : FrameMode) (h : F47_2 R s0_0 n0_1 n0_2 b0_3 [] w) : CallsD Tryz.prog 47 #[.agg #[.string s0_0, .int .i64 n0_1, .int .i64 n0_2, .bool b0_3]] u w fun e u' w' => u' = u ∧ R e w' :=
  callsD_of_L (l := [c47_0, c47_1, c47_2, c47_3]) Tryz.func47 (by kernel_rfl) (by rw [Tryz.ntmps47]; exact Nat.le_of_ble_eq_true (by kernel_rfl)) (by kernel_rfl) c47_l
    (F47_2_ok R s0_0 n0_1 n0_2 b0_3 [] w _ rfl h) u

/-! function 90: cabinetry/table.isName -/
noncomputable def c90_0 : Code := itemAt (flat (bodyOf Tryz.f90)) 0
noncomputable def c90_1 : Code := itemAt (flat (bodyOf Tryz.f90)) 1
noncomputable def c90_2 : Code := itemAt (flat (bodyOf Tryz.f90)) 2
def F90_q1 (R : Rt) : EQ := endQ Tryz.prog Tryz.f90.results.toList R
def F90_1 (R : Rt) (s0 : ByteArray) (ds : Ds) (w : World) : Prop :=
 Br (!(s0.toList == (⟨#[]⟩ : ByteArray).toList)) (
 Br (decide (((s0.size : Nat) : Int) ≤ 10)) (
 Calls Tryz.prog 135 #[.string s0, .string (⟨#[65, 66, 67, 68, 69, 70, 71, 72, 73, 74, 75, 76, 77, 78, 79, 80, 81, 82, 83, 84, 85, 86, 87, 88, 89, 90, 48, 49, 50, 51, 52, 53, 54, 55, 56, 57, 95]⟩ : ByteArray)] w fun e w1 =>
 ∃ s12 : ByteArray, e = .returned (.string s12) ∧
 Br (s12.toList == (⟨#[]⟩ : ByteArray).toList) (
 ∃ b17 : UInt8, 0 ≤ (0 : Int) ∧ s0[(0 : Int).toNat]? = some b17 ∧
 Br (decide (((b17.toNat : Nat) : Int) ≥ 65)) (
 ∃ b22 : UInt8, 0 ≤ (0 : Int) ∧ s0[(0 : Int).toNat]? = some b22 ∧
 runD Tryz.prog ds w1 fun w2 =>
 R (.returned (.bool (decide (((b22.toNat : Nat) : Int) ≤ 90)))) w2) (
 runD Tryz.prog ds w1 fun w3 =>
 R (.returned (.bool false)) w3)) (
 runD Tryz.prog ds w1 fun w4 =>
 R (.returned (.bool false)) w4)) (
 runD Tryz.prog ds w fun w5 =>
 R (.returned (.bool false)) w5)) (
 runD Tryz.prog ds w fun w6 =>
 R (.returned (.bool false)) w6)
theorem c90_l : flat (bodyOf Tryz.f90) = [c90_0, c90_1, c90_2] := by kernel_rfl
theorem F90_1_ok (R : Rt) (s0 : ByteArray) (ds : Ds) (w : World) (ρ : Env) (e0 : ρ 0 = .string s0) (h : F90_1 R s0 ds w) :
    TrL Tryz.prog Tryz.f90.ntmps [c90_0, c90_1, c90_2] (F90_q1 R) ρ ds w :=
  TrL_leaf (X := F90_1 R s0 ds w) (setAll_cons e0 setAll_nil) (by kernel_rfl) (by kernel_rfl) h
theorem F90_calls (s0 : ByteArray) (w : World) (R : Rt) (h : F90_1 R s0 [] w) : Calls Tryz.prog 90 #[.string s0] w R :=
  calls_of_L (l := [c90_0, c90_1, c90_2]) Tryz.func90 (by kernel_rfl) (by rw [Tryz.ntmps90]; exact Nat.le_of_ble_eq_true (by kernel_rfl)) c90_l
    (F90_1_ok R s0 [] w _ rfl h)
theorem F90_callsD (s0 : ByteArray) (w : World) (R : Rt) (u : FrameMode) (h : F90_1 R s0 [] w) : CallsD Tryz.prog 90 #[.string s0] u w fun e u' w' => u' = u ∧ R e w' :=
  callsD_of_L (l := [c90_0, c90_1, c90_2]) Tryz.func90 (by kernel_rfl) (by rw [Tryz.ntmps90]; exact Nat.le_of_ble_eq_true (by kernel_rfl)) (by kernel_rfl) c90_l
    (F90_1_ok R s0 [] w _ rfl h) u

/-! function 89: cabinetry/table.kinds -/
noncomputable def c89_0 : Code := itemAt (flat (bodyOf Tryz.f89)) 0
noncomputable def c89_1 : Code := itemAt (flat (bodyOf Tryz.f89)) 1
noncomputable def c89_2 : Code := itemAt (flat (bodyOf Tryz.f89)) 2
def F89_q1 (R : Rt) : EQ := endQ Tryz.prog Tryz.f89.results.toList R
def F89_1 (R : Rt) (ds : Ds) (w : World) : Prop :=
 alE (.map #[] 0) w fun r1 w1 =>
 doE Tryz.prog (Instr.mapUpdate 104 (.map (some r1)) (.int .i64 1) (.agg #[.int .u8 76, .int .i64 1, .int .i64 1, .func (.func 125) #[] #[], .func (.func 126) #[] #[]])) w1 fun w2 =>
 doE Tryz.prog (Instr.mapUpdate 104 (.map (some r1)) (.int .i64 2) (.agg #[.int .u8 78, .int .i64 1, .int .i64 15, .func (.func 127) #[] #[], .func (.func 128) #[] #[]])) w2 fun w3 =>
 doE Tryz.prog (Instr.mapUpdate 104 (.map (some r1)) (.int .i64 3) (.agg #[.int .u8 68, .int .i64 8, .int .i64 8, .func (.func 129) #[] #[], .func (.func 130) #[] #[]])) w3 fun w4 =>
 doE Tryz.prog (Instr.mapUpdate 104 (.map (some r1)) (.int .i64 4) (.agg #[.int .u8 67, .int .i64 1, .int .i64 254, .func (.func 131) #[] #[], .func (.func 132) #[] #[]])) w4 fun w5 =>
 doE Tryz.prog (Instr.mapUpdate 104 (.map (some r1)) (.int .i64 5) (.agg #[.int .u8 77, .int .i64 8, .int .i64 8, .func (.func 133) #[] #[], .func (.func 134) #[] #[]])) w5 fun w6 =>
 runD Tryz.prog ds w6 fun w7 =>
 R (.returned (.map (some r1))) w7
theorem c89_l : flat (bodyOf Tryz.f89) = [c89_0, c89_1, c89_2] := by kernel_rfl
theorem F89_1_ok (R : Rt) (ds : Ds) (w : World) (ρ : Env) (h : F89_1 R ds w) :
    TrL Tryz.prog Tryz.f89.ntmps [c89_0, c89_1, c89_2] (F89_q1 R) ρ ds w :=
  TrL_leaf (X := F89_1 R ds w) setAll_nil (by kernel_rfl) (by kernel_rfl) h
theorem F89_calls  (w : World) (R : Rt) (h : F89_1 R [] w) : Calls Tryz.prog 89 #[] w R :=
  calls_of_L (l := [c89_0, c89_1, c89_2]) Tryz.func89 (by kernel_rfl) (by rw [Tryz.ntmps89]; exact Nat.le_of_ble_eq_true (by kernel_rfl)) c89_l
    (F89_1_ok R [] w _  h)
theorem F89_callsD  (w : World) (R : Rt) (u : FrameMode) (h : F89_1 R [] w) : CallsD Tryz.prog 89 #[] u w fun e u' w' => u' = u ∧ R e w' :=
  callsD_of_L (l := [c89_0, c89_1, c89_2]) Tryz.func89 (by kernel_rfl) (by rw [Tryz.ntmps89]; exact Nat.le_of_ble_eq_true (by kernel_rfl)) (by kernel_rfl) c89_l
    (F89_1_ok R [] w _  h) u

/-! function 48: cabinetry/table.isPage -/
noncomputable def c48_0 : Code := itemAt (flat (bodyOf Tryz.f48)) 0
noncomputable def c48_1 : Code := itemAt (flat (bodyOf Tryz.f48)) 1
noncomputable def c48_2 : Code := itemAt (flat (bodyOf Tryz.f48)) 2
def F48_q1 (R : Rt) : EQ := endQ Tryz.prog Tryz.f48.results.toList R
def F48_1 (R : Rt) (n0 : Int) (ds : Ds) (w : World) : Prop :=
 Br (decide (n0 ≥ 0)) (
 runD Tryz.prog ds w fun w1 =>
 R (.returned (.bool (decide (n0 ≤ 2)))) w1) (
 runD Tryz.prog ds w fun w2 =>
 R (.returned (.bool false)) w2)
theorem c48_l : flat (bodyOf Tryz.f48) = [c48_0, c48_1, c48_2] := by kernel_rfl
theorem F48_1_ok (R : Rt) (n0 : Int) (ds : Ds) (w : World) (ρ : Env) (e0 : ρ 0 = .int .i64 n0) (h : F48_1 R n0 ds w) :
    TrL Tryz.prog Tryz.f48.ntmps [c48_0, c48_1, c48_2] (F48_q1 R) ρ ds w :=
  TrL_leaf (X := F48_1 R n0 ds w) (setAll_cons e0 setAll_nil) (by kernel_rfl) (by kernel_rfl) h
theorem F48_calls (n0 : Int) (w : World) (R : Rt) (h : F48_1 R n0 [] w) : Calls Tryz.prog 48 #[.int .i64 n0] w R :=
  calls_of_L (l := [c48_0, c48_1, c48_2]) Tryz.func48 (by kernel_rfl) (by rw [Tryz.ntmps48]; exact Nat.le_of_ble_eq_true (by kernel_rfl)) c48_l
    (F48_1_ok R n0 [] w _ rfl h)
theorem F48_callsD (n0 : Int) (w : World) (R : Rt) (u : FrameMode) (h : F48_1 R n0 [] w) : CallsD Tryz.prog 48 #[.int .i64 n0] u w fun e u' w' => u' = u ∧ R e w' :=
  callsD_of_L (l := [c48_0, c48_1, c48_2]) Tryz.func48 (by kernel_rfl) (by rw [Tryz.ntmps48]; exact Nat.le_of_ble_eq_true (by kernel_rfl)) (by kernel_rfl) c48_l
    (F48_1_ok R n0 [] w _ rfl h) u

/-! function 55: cabinetry/cabinetryref03.isField -/
noncomputable def c55_0 : Code := itemAt (flat (bodyOf Tryz.f55)) 0
noncomputable def c55_1 : Code := itemAt (flat (bodyOf Tryz.f55)) 1
noncomputable def c55_2 : Code := itemAt (flat (bodyOf Tryz.f55)) 2
noncomputable def c55_3 : Code := itemAt (flat (bodyOf Tryz.f55)) 3
noncomputable def c55_4 : Code := itemAt (flat (bodyOf Tryz.f55)) 4
noncomputable def c55_5 : Code := itemAt (flat (bodyOf Tryz.f55)) 5
noncomputable def c55_6 : Code := itemAt (flat (bodyOf Tryz.f55)) 6
def F55_q1 (R : Rt) : EQ := endQ Tryz.prog Tryz.f55.results.toList R
def F55_1 (R : Rt) (s0_0 : ByteArray) (n0_1 : Int) (n0_2 : Int) (b0_3 : Bool) (ds : Ds) (w : World) : Prop :=
 alE (.cells #[.string s0_0, .int .i64 n0_1, .int .i64 n0_2, .bool b0_3] 23) w fun r1 w1 =>
 ∃ s4 : ByteArray, w1.cell? (⟨r1, 0, none⟩ : Addr) = some (.string s4) ∧
 Calls Tryz.prog 101 #[.string s4] w1 fun e w2 =>
 ∃ b5 : Bool, e = .returned (.bool b5) ∧
 Br (!b5) (
 runD Tryz.prog ds w2 fun w3 =>
 R (.returned (.bool false)) w3) (
 ∃ n8 : Int, w2.cell? ((⟨r1, 0, none⟩ : Addr).add 1) = some (.int .i64 n8) ∧
 Br (n8 == 1) (
 ∃ n12 : Int, w2.cell? ((⟨r1, 0, none⟩ : Addr).add 2) = some (.int .i64 n12) ∧
 runD Tryz.prog ds w2 fun w4 =>
 R (.returned (.bool (n12 == 1))) w4) (
 Br (n8 == 2) (
 ∃ n17 : Int, w2.cell? ((⟨r1, 0, none⟩ : Addr).add 2) = some (.int .i64 n17) ∧
 Br (decide (n17 ≥ 1)) (
 ∃ n21 : Int, w2.cell? ((⟨r1, 0, none⟩ : Addr).add 2) = some (.int .i64 n21) ∧
 runD Tryz.prog ds w2 fun w5 =>
 R (.returned (.bool (decide (n21 ≤ 15)))) w5) (
 runD Tryz.prog ds w2 fun w6 =>
 R (.returned (.bool false)) w6)) (
 Br (n8 == 3) (
 Br (n8 == 3) (
 ∃ n28 : Int, w2.cell? ((⟨r1, 0, none⟩ : Addr).add 2) = some (.int .i64 n28) ∧
 runD Tryz.prog ds w2 fun w7 =>
 R (.returned (.bool (n28 == 8))) w7) (
 Br (n8 == 4) (
 ∃ n33 : Int, w2.cell? ((⟨r1, 0, none⟩ : Addr).add 2) = some (.int .i64 n33) ∧
 Br (decide (n33 ≥ 1)) (
 ∃ n37 : Int, w2.cell? ((⟨r1, 0, none⟩ : Addr).add 2) = some (.int .i64 n37) ∧
 runD Tryz.prog ds w2 fun w8 =>
 R (.returned (.bool (decide (n37 ≤ 254)))) w8) (
 runD Tryz.prog ds w2 fun w9 =>
 R (.returned (.bool false)) w9)) (
 runD Tryz.prog ds w2 fun w10 =>
 R (.returned (.bool false)) w10))) (
 Br (n8 == 5) (
 ∃ n28 : Int, w2.cell? ((⟨r1, 0, none⟩ : Addr).add 2) = some (.int .i64 n28) ∧
 runD Tryz.prog ds w2 fun w11 =>
 R (.returned (.bool (n28 == 8))) w11) (
 Br (n8 == 4) (
 ∃ n33 : Int, w2.cell? ((⟨r1, 0, none⟩ : Addr).add 2) = some (.int .i64 n33) ∧
 Br (decide (n33 ≥ 1)) (
 ∃ n37 : Int, w2.cell? ((⟨r1, 0, none⟩ : Addr).add 2) = some (.int .i64 n37) ∧
 runD Tryz.prog ds w2 fun w12 =>
 R (.returned (.bool (decide (n37 ≤ 254)))) w12) (
 runD Tryz.prog ds w2 fun w13 =>
 R (.returned (.bool false)) w13)) (
 runD Tryz.prog ds w2 fun w14 =>
 R (.returned (.bool false)) w14))))))
theorem c55_l : flat (bodyOf Tryz.f55) = [c55_0, c55_1, c55_2, c55_3, c55_4, c55_5, c55_6] := by kernel_rfl
theorem F55_1_ok (R : Rt) (s0_0 : ByteArray) (n0_1 : Int) (n0_2 : Int) (b0_3 : Bool) (ds : Ds) (w : World) (ρ : Env) (e0 : ρ 0 = .agg #[.string s0_0, .int .i64 n0_1, .int .i64 n0_2, .bool b0_3]) (h : F55_1 R s0_0 n0_1 n0_2 b0_3 ds w) :
    TrL Tryz.prog Tryz.f55.ntmps [c55_0, c55_1, c55_2, c55_3, c55_4, c55_5, c55_6] (F55_q1 R) ρ ds w :=
  TrL_leaf (X := F55_1 R s0_0 n0_1 n0_2 b0_3 ds w) (setAll_cons e0 setAll_nil) (by kernel_rfl) (by kernel_rfl) h
theorem F55_calls (s0_0 : ByteArray) (n0_1 : Int) (n0_2 : Int) (b0_3 : Bool) (w : World) (R : Rt) (h : F55_1 R s0_0 n0_1 n0_2 b0_3 [] w) : Calls Tryz.prog 55 #[.agg #[.string s0_0, .int .i64 n0_1, .int .i64 n0_2, .bool b0_3]] w R :=
  calls_of_L (l := [c55_0, c55_1, c55_2, c55_3, c55_4, c55_5, c55_6]) Tryz.func55 (by kernel_rfl) (by rw [Tryz.ntmps55]; exact Nat.le_of_ble_eq_true (by kernel_rfl)) c55_l
    (F55_1_ok R s0_0 n0_1 n0_2 b0_3 [] w _ rfl h)
theorem F55_callsD (s0_0 : ByteArray) (n0_1 : Int) (n0_2 : Int) (b0_3 : Bool) (w : World) (R : Rt) (u : FrameMode) (h : F55_1 R s0_0 n0_1 n0_2 b0_3 [] w) : CallsD Tryz.prog 55 #[.agg #[.string s0_0, .int .i64 n0_1, .int .i64 n0_2, .bool b0_3]] u w fun e u' w' => u' = u ∧ R e w' :=
  callsD_of_L (l := [c55_0, c55_1, c55_2, c55_3, c55_4, c55_5, c55_6]) Tryz.func55 (by kernel_rfl) (by rw [Tryz.ntmps55]; exact Nat.le_of_ble_eq_true (by kernel_rfl)) (by kernel_rfl) c55_l
    (F55_1_ok R s0_0 n0_1 n0_2 b0_3 [] w _ rfl h) u

/-! function 56: cabinetry/cabinetryref03.isPage -/
noncomputable def c56_0 : Code := itemAt (flat (bodyOf Tryz.f56)) 0
noncomputable def c56_1 : Code := itemAt (flat (bodyOf Tryz.f56)) 1
noncomputable def c56_2 : Code := itemAt (flat (bodyOf Tryz.f56)) 2
def F56_q1 (R : Rt) : EQ := endQ Tryz.prog Tryz.f56.results.toList R
def F56_1 (R : Rt) (n0 : Int) (ds : Ds) (w : World) : Prop :=
 Br (decide (n0 ≥ 0)) (
 runD Tryz.prog ds w fun w1 =>
 R (.returned (.bool (decide (n0 ≤ 2)))) w1) (
 runD Tryz.prog ds w fun w2 =>
 R (.returned (.bool false)) w2)
theorem c56_l : flat (bodyOf Tryz.f56) = [c56_0, c56_1, c56_2] := by kernel_rfl
theorem F56_1_ok (R : Rt) (n0 : Int) (ds : Ds) (w : World) (ρ : Env) (e0 : ρ 0 = .int .i64 n0) (h : F56_1 R n0 ds w) :
    TrL Tryz.prog Tryz.f56.ntmps [c56_0, c56_1, c56_2] (F56_q1 R) ρ ds w :=
  TrL_leaf (X := F56_1 R n0 ds w) (setAll_cons e0 setAll_nil) (by kernel_rfl) (by kernel_rfl) h
theorem F56_calls (n0 : Int) (w : World) (R : Rt) (h : F56_1 R n0 [] w) : Calls Tryz.prog 56 #[.int .i64 n0] w R :=
  calls_of_L (l := [c56_0, c56_1, c56_2]) Tryz.func56 (by kernel_rfl) (by rw [Tryz.ntmps56]; exact Nat.le_of_ble_eq_true (by kernel_rfl)) c56_l
    (F56_1_ok R n0 [] w _ rfl h)
theorem F56_callsD (n0 : Int) (w : World) (R : Rt) (u : FrameMode) (h : F56_1 R n0 [] w) : CallsD Tryz.prog 56 #[.int .i64 n0] u w fun e u' w' => u' = u ∧ R e w' :=
  callsD_of_L (l := [c56_0, c56_1, c56_2]) Tryz.func56 (by kernel_rfl) (by rw [Tryz.ntmps56]; exact Nat.le_of_ble_eq_true (by kernel_rfl)) (by kernel_rfl) c56_l
    (F56_1_ok R n0 [] w _ rfl h) u

/-! function 101: cabinetry/cabinetryref03.IsName -/
noncomputable def c101_0 : Code := itemAt (flat (bodyOf Tryz.f101)) 0
noncomputable def c101_1 : Code := itemAt (flat (bodyOf Tryz.f101)) 1
noncomputable def c101_2 : Code := itemAt (flat (bodyOf Tryz.f101)) 2
noncomputable def c101_3 : Code := itemAt (flat (bodyOf Tryz.f101)) 3
noncomputable def c101_4 : Code := itemAt (flat (bodyOf Tryz.f101)) 4
noncomputable def c101_5 : Code := itemAt (flat (bodyOf Tryz.f101)) 5
noncomputable def c101_6 : Code := itemAt (flat (bodyOf Tryz.f101)) 6
noncomputable def c101_4_0 : Code := itemAt (flat (innerC c101_4)) 0
noncomputable def c101_4_0_0 : Code := itemAt (flat (innerC c101_4_0)) 0
noncomputable def c101_4_0_1 : Code := itemAt (flat (innerC c101_4_0)) 1
noncomputable def c101_4_0_2 : Code := itemAt (flat (innerC c101_4_0)) 2
noncomputable def c101_4_0_3 : Code := itemAt (flat (innerC c101_4_0)) 3
def F101_q1 (R : Rt) : EQ := endQ Tryz.prog Tryz.f101.results.toList R
def F101_1 (R : Rt) (ds : Ds) (w : World) : Prop :=
 runD Tryz.prog ds w fun w1 =>
 R (.returned (.bool true)) w1
def F101_k2 (R : Rt) : EP := (fun ρ ds w => F101_1 R ds w)
def F101_q3 (R : Rt) : EQ := (thenQ (F101_k2 R) (F101_q1 R))
def F101_q4 (R : Rt) : EQ := (blockQ 0 (F101_q3 R))
def F101_q5 (R : Rt) (J1 : (Int) → World → Prop) : EQ := (thenQ (fun ρ _ w => dInt .i64 (ρ 3) fun n3 => J1 n3 w) (F101_q4 R))
def F101_2 (R : Rt) (J1 : (Int) → World → Prop) (s0 : ByteArray) (n3 : Int) (ds : Ds) (w : World) : Prop :=
 J1 (IntKind.i64.wrap (n3 + 1)) w
def F101_k6 (R : Rt) (J1 : (Int) → World → Prop) : EP := (fun ρ ds w => dStr (ρ 0) fun s0 => dInt .i64 (ρ 3) fun n3 => F101_2 R J1 s0 n3 ds w)
def F101_3 (R : Rt) (J1 : (Int) → World → Prop) (s0 : ByteArray) (n3 : Int) (ds : Ds) (w : World) : Prop :=
 ∃ b22 : UInt8, 0 ≤ n3 ∧ s0[n3.toNat]? = some b22 ∧
 Br (decide (((b22.toNat : Nat) : Int) ≥ 65)) (
 Br (!(decide (((b22.toNat : Nat) : Int) ≤ 90))) (
 Br (n3 == 0) (
 runD Tryz.prog ds w fun w2 =>
 R (.returned (.bool false)) w2) (
 Br (((b22.toNat : Nat) : Int) != 95) (
 Calls Tryz.prog 145 #[.int .u8 ((b22.toNat : Nat) : Int)] w fun e w3 =>
 ∃ b39 : Bool, e = .returned (.bool b39) ∧
 Br (!b39) (
 runD Tryz.prog ds w3 fun w4 =>
 R (.returned (.bool false)) w4) (
 F101_2 R J1 s0 n3 ds w3)) (
 F101_2 R J1 s0 n3 ds w))) (
 F101_2 R J1 s0 n3 ds w)) (
 Br (n3 == 0) (
 runD Tryz.prog ds w fun w5 =>
 R (.returned (.bool false)) w5) (
 Br (((b22.toNat : Nat) : Int) != 95) (
 Calls Tryz.prog 145 #[.int .u8 ((b22.toNat : Nat) : Int)] w fun e w6 =>
 ∃ b39 : Bool, e = .returned (.bool b39) ∧
 Br (!b39) (
 runD Tryz.prog ds w6 fun w7 =>
 R (.returned (.bool false)) w7) (
 F101_2 R J1 s0 n3 ds w6)) (
 F101_2 R J1 s0 n3 ds w)))
def F101_k7 (R : Rt) (J1 : (Int) → World → Prop) : EP := (fun ρ ds w => dStr (ρ 0) fun s0 => dInt .i64 (ρ 3) fun n3 => F101_3 R J1 s0 n3 ds w)
def F101_4 (R : Rt) (J1 : (Int) → World → Prop) (s0 : ByteArray) (n3 : Int) (ds : Ds) (w : World) : Prop :=
 Br (decide (n3 < ((s0.size : Nat) : Int))) (
 F101_3 R J1 s0 n3 ds w) (
 F101_1 R ds w)
def F101_5 (R : Rt) (s0 : ByteArray) (n3 : Int) (ds : Ds) (w : World) : Prop :=
 loopT (fun (J1 : (Int) → World → Prop) (s : Int) (w : World) => F101_4 R J1 s0 s ds w) n3 w
@[reducible] def F101_6 (R : Rt) (s0 : ByteArray) (n3 : Int) (ds : Ds) (w : World) : Prop := F101_5 R s0 n3 ds w
def F101_k8 (R : Rt) : EP := (fun ρ ds w => dStr (ρ 0) fun s0 => dInt .i64 (ρ 3) fun n3 => F101_6 R s0 n3 ds w)
def F101_7 (R : Rt) (s0 : ByteArray) (ds : Ds) (w : World) : Prop :=
 Br (decide (((s0.size : Nat) : Int) < 1)) (
 runD Tryz.prog ds w fun w8 =>
 R (.returned (.bool false)) w8) (
 Br (decide (((s0.size : Nat) : Int) > 10)) (
 runD Tryz.prog ds w fun w9 =>
 R (.returned (.bool false)) w9) (
 F101_6 R s0 0 ds w))
theorem c101_l : flat (bodyOf Tryz.f101) = [c101_0, c101_1, c101_2, c101_3, c101_4, c101_5, c101_6] := by kernel_rfl
theorem c101_4_l : flat (innerC c101_4) = [c101_4_0] := by kernel_rfl
theorem c101_4_0_l : flat (innerC c101_4_0) = [c101_4_0_0, c101_4_0_1, c101_4_0_2, c101_4_0_3] := by kernel_rfl
theorem F101_1_ok (R : Rt) (ds : Ds) (w : World) (ρ : Env) (h : F101_1 R ds w) :
    TrL Tryz.prog Tryz.f101.ntmps [c101_5, c101_6] (F101_q1 R) ρ ds w :=
  TrL_leaf (X := F101_1 R ds w) setAll_nil (by kernel_rfl) (by kernel_rfl) h
theorem F101_2_ok (R : Rt) (J1 : (Int) → World → Prop) (s0 : ByteArray) (n3 : Int) (ds : Ds) (w : World) (ρ : Env) (e0 : ρ 0 = .string s0) (e3 : ρ 3 = .int .i64 n3) (h : F101_2 R J1 s0 n3 ds w) :
    TrL Tryz.prog Tryz.f101.ntmps [c101_4_0_3] (F101_q5 R J1) ρ ds w :=
  TrL_leaf (X := F101_2 R J1 s0 n3 ds w) (setAll_cons e0 (setAll_cons e3 setAll_nil)) (by kernel_rfl) (by kernel_rfl) h
theorem F101_3_ok (R : Rt) (J1 : (Int) → World → Prop) (s0 : ByteArray) (n3 : Int) (ds : Ds) (w : World) (ρ : Env) (e0 : ρ 0 = .string s0) (e3 : ρ 3 = .int .i64 n3) (h : F101_3 R J1 s0 n3 ds w) :
    TrL Tryz.prog Tryz.f101.ntmps [c101_4_0_2, c101_4_0_3] (F101_q5 R J1) ρ ds w :=
  TrL_piece (pre := [c101_4_0_2]) (K := (F101_k6 R J1)) (X := F101_3 R J1 s0 n3 ds w) (setAll_cons e0 (setAll_cons e3 setAll_nil)) (by kernel_rfl) (by kernel_rfl)
    (fun ρ' ds' w' hD => by
      obtain ⟨s0, e0, hD⟩ := dStr_elim hD; obtain ⟨n3, e3, hD⟩ := dInt_elim hD; exact F101_2_ok R J1 s0 n3 ds' w' ρ' e0 e3 hD) h
theorem F101_4_ok (R : Rt) (J1 : (Int) → World → Prop) (s0 : ByteArray) (n3 : Int) (ds : Ds) (w : World) (ρ : Env) (e0 : ρ 0 = .string s0) (e3 : ρ 3 = .int .i64 n3) (h : F101_4 R J1 s0 n3 ds w) :
    TrL Tryz.prog Tryz.f101.ntmps [c101_4_0_0, c101_4_0_1, c101_4_0_2, c101_4_0_3] (F101_q5 R J1) ρ ds w :=
  TrL_piece (pre := [c101_4_0_0, c101_4_0_1]) (K := (F101_k7 R J1)) (X := F101_4 R J1 s0 n3 ds w) (setAll_cons e0 (setAll_cons e3 setAll_nil)) (by kernel_rfl) (by kernel_rfl)
    (fun ρ' ds' w' hD => by
      obtain ⟨s0, e0, hD⟩ := dStr_elim hD; obtain ⟨n3, e3, hD⟩ := dInt_elim hD; exact F101_3_ok R J1 s0 n3 ds' w' ρ' e0 e3 hD) h
theorem F101_5_ok (R : Rt) (s0 : ByteArray) (n3 : Int) (ds : Ds) (w : World) (ρ : Env) (e0 : ρ 0 = .string s0) (e3 : ρ 3 = .int .i64 n3) (h : F101_5 R s0 n3 ds w) :
    TrL Tryz.prog Tryz.f101.ntmps [c101_4_0] (F101_q4 R) ρ ds w :=
  TrL_one (Tr_loop' (c := innerC c101_4_0) (σ := Int) (enc := (fun (s : Int) (ρ : Env) => ρ 3 = .int .i64 s)) (D := (fun ρ K => dInt .i64 (ρ 3) fun n3 => K n3)) (F := (fun (J1 : (Int) → World → Prop) (s : Int) (w : World) => F101_4 R J1 s0 s ds w)) (s0 := n3) (by kernel_rfl) c101_4_0_l e3 (by kernel_rfl) (fun ρ K hD => by obtain ⟨n3, e3, hD⟩ := dInt_elim hD; exact ⟨n3, e3, hD⟩)
      (fun J1 s ρ' w' he ha hF => by
      have e3' := he
      exact F101_4_ok R J1 s0 s ds w' ρ' ((ha 0 (by kernel_rfl)).trans e0) e3' hF) h)
theorem F101_6_ok (R : Rt) (s0 : ByteArray) (n3 : Int) (ds : Ds) (w : World) (ρ : Env) (e0 : ρ 0 = .string s0) (e3 : ρ 3 = .int .i64 n3) (h : F101_6 R s0 n3 ds w) :
    TrL Tryz.prog Tryz.f101.ntmps [c101_4, c101_5, c101_6] (F101_q1 R) ρ ds w :=
  TrL_head (K := (F101_k2 R)) (Tr_block' (c := innerC c101_4) (by kernel_rfl) c101_4_l (F101_5_ok R s0 n3 ds w ρ e0 e3 h))
    (fun ρ' ds' w' hD => by
      exact F101_1_ok R ds' w' ρ'  hD)
theorem F101_7_ok (R : Rt) (s0 : ByteArray) (ds : Ds) (w : World) (ρ : Env) (e0 : ρ 0 = .string s0) (h : F101_7 R s0 ds w) :
    TrL Tryz.prog Tryz.f101.ntmps [c101_0, c101_1, c101_2, c101_3, c101_4, c101_5, c101_6] (F101_q1 R) ρ ds w :=
  TrL_piece (pre := [c101_0, c101_1, c101_2, c101_3]) (K := (F101_k8 R)) (X := F101_7 R s0 ds w) (setAll_cons e0 setAll_nil) (by kernel_rfl) (by kernel_rfl)
    (fun ρ' ds' w' hD => by
      obtain ⟨s0, e0, hD⟩ := dStr_elim hD; obtain ⟨n3, e3, hD⟩ := dInt_elim hD; exact F101_6_ok R s0 n3 ds' w' ρ' e0 e3 hD) h
theorem F101_calls (s0 : ByteArray) (w : World) (R : Rt) (h : F101_7 R s0 [] w) : Calls Tryz.prog 101 #[.string s0] w R :=
  calls_of_L (l := [c101_0, c101_1, c101_2, c101_3, c101_4, c101_5, c101_6]) Tryz.func101 (by kernel_rfl) (by rw [Tryz.ntmps101]; exact Nat.le_of_ble_eq_true (by kernel_rfl)) c101_l
    (F101_7_ok R s0 [] w _ rfl h)
theorem F101_callsD (s0 : ByteArray) (w : World) (R : Rt) (u : FrameMode) (h : F101_7 R s0 [] w) : CallsD Tryz.prog 101 #[.string s0] u w fun e u' w' => u' = u ∧ R e w' :=
  callsD_of_L (l := [c101_0, c101_1, c101_2, c101_3, c101_4, c101_5, c101_6]) Tryz.func101 (by kernel_rfl) (by rw [Tryz.ntmps101]; exact Nat.le_of_ble_eq_true (by kernel_rfl)) (by kernel_rfl) c101_l
    (F101_7_ok R s0 [] w _ rfl h) u

/-! function 145: cabinetry/cabinetryref01.IsDigit -/
noncomputable def c145_0 : Code := itemAt (flat (bodyOf Tryz.f145)) 0
noncomputable def c145_1 : Code := itemAt (flat (bodyOf Tryz.f145)) 1
noncomputable def c145_2 : Code := itemAt (flat (bodyOf Tryz.f145)) 2
def F145_q1 (R : Rt) : EQ := endQ Tryz.prog Tryz.f145.results.toList R
def F145_1 (R : Rt) (n0 : Int) (ds : Ds) (w : World) : Prop :=
 Br (decide (n0 ≥ 48)) (
 runD Tryz.prog ds w fun w1 =>
 R (.returned (.bool (decide (n0 ≤ 57)))) w1) (
 runD Tryz.prog ds w fun w2 =>
 R (.returned (.bool false)) w2)
theorem c145_l : flat (bodyOf Tryz.f145) = [c145_0, c145_1, c145_2] := by kernel_rfl
theorem F145_1_ok (R : Rt) (n0 : Int) (ds : Ds) (w : World) (ρ : Env) (e0 : ρ 0 = .int .u8 n0) (h : F145_1 R n0 ds w) :
    TrL Tryz.prog Tryz.f145.ntmps [c145_0, c145_1, c145_2] (F145_q1 R) ρ ds w :=
  TrL_leaf (X := F145_1 R n0 ds w) (setAll_cons e0 setAll_nil) (by kernel_rfl) (by kernel_rfl) h
theorem F145_calls (n0 : Int) (w : World) (R : Rt) (h : F145_1 R n0 [] w) : Calls Tryz.prog 145 #[.int .u8 n0] w R :=
  calls_of_L (l := [c145_0, c145_1, c145_2]) Tryz.func145 (by kernel_rfl) (by rw [Tryz.ntmps145]; exact Nat.le_of_ble_eq_true (by kernel_rfl)) c145_l
    (F145_1_ok R n0 [] w _ rfl h)
theorem F145_callsD (n0 : Int) (w : World) (R : Rt) (u : FrameMode) (h : F145_1 R n0 [] w) : CallsD Tryz.prog 145 #[.int .u8 n0] u w fun e u' w' => u' = u ∧ R e w' :=
  callsD_of_L (l := [c145_0, c145_1, c145_2]) Tryz.func145 (by kernel_rfl) (by rw [Tryz.ntmps145]; exact Nat.le_of_ble_eq_true (by kernel_rfl)) (by kernel_rfl) c145_l
    (F145_1_ok R n0 [] w _ rfl h) u

/-! function 50: cabinetry/table.empty -/
noncomputable def c50_0 : Code := itemAt (flat (bodyOf Tryz.f50)) 0
noncomputable def c50_1 : Code := itemAt (flat (bodyOf Tryz.f50)) 1
noncomputable def c50_2 : Code := itemAt (flat (bodyOf Tryz.f50)) 2
noncomputable def c50_3 : Code := itemAt (flat (bodyOf Tryz.f50)) 3
noncomputable def c50_4 : Code := itemAt (flat (bodyOf Tryz.f50)) 4
def F50_q1 (R : Rt) : EQ := endQ Tryz.prog Tryz.f50.results.toList R
def F50_1 (R : Rt) (s0_0 : ByteArray) (n0_1 : Int) (n0_2 : Int) (b0_3 : Bool) (ds : Ds) (w : World) : Prop :=
 alE (.cells #[.string s0_0, .int .i64 n0_1, .int .i64 n0_2, .bool b0_3] 23) w fun r1 w1 =>
 alE (.cells #[.int .i64 0, .int .i64 0, .string (⟨#[]⟩ : ByteArray)] 25) w1 fun r2 w2 =>
 ∃ n4 : Int, w2.cell? ((⟨r1, 0, none⟩ : Addr).add 1) = some (.int .i64 n4) ∧
 Br (n4 == 5) (
 stA Tryz.prog 25 (⟨r2, 0, none⟩ : Addr) #[.int .i64 2, .int .i64 0, .string (⟨#[]⟩ : ByteArray)] w2 fun w3 =>
 runD Tryz.prog ds w3 fun w4 =>
 ∃ nR0_0 : Int, w4.cell? ((⟨r2, 0, none⟩ : Addr).add 0) = some (.int .i64 nR0_0) ∧
 ∃ nR0_1 : Int, w4.cell? ((⟨r2, 0, none⟩ : Addr).add 1) = some (.int .i64 nR0_1) ∧
 ∃ sR0_2 : ByteArray, w4.cell? ((⟨r2, 0, none⟩ : Addr).add 2) = some (.string sR0_2) ∧
 R (.returned (.agg #[.int .i64 nR0_0, .int .i64 nR0_1, .string sR0_2])) w4) (
 ∃ n8 : Int, w2.cell? ((⟨r1, 0, none⟩ : Addr).add 1) = some (.int .i64 n8) ∧
 stA Tryz.prog 25 (⟨r2, 0, none⟩ : Addr) #[.int .i64 n8, .int .i64 0, .string (⟨#[]⟩ : ByteArray)] w2 fun w5 =>
 runD Tryz.prog ds w5 fun w6 =>
 ∃ nR0_0 : Int, w6.cell? ((⟨r2, 0, none⟩ : Addr).add 0) = some (.int .i64 nR0_0) ∧
 ∃ nR0_1 : Int, w6.cell? ((⟨r2, 0, none⟩ : Addr).add 1) = some (.int .i64 nR0_1) ∧
 ∃ sR0_2 : ByteArray, w6.cell? ((⟨r2, 0, none⟩ : Addr).add 2) = some (.string sR0_2) ∧
 R (.returned (.agg #[.int .i64 nR0_0, .int .i64 nR0_1, .string sR0_2])) w6)
theorem c50_l : flat (bodyOf Tryz.f50) = [c50_0, c50_1, c50_2, c50_3, c50_4] := by kernel_rfl
theorem F50_1_ok (R : Rt) (s0_0 : ByteArray) (n0_1 : Int) (n0_2 : Int) (b0_3 : Bool) (ds : Ds) (w : World) (ρ : Env) (e0 : ρ 0 = .agg #[.string s0_0, .int .i64 n0_1, .int .i64 n0_2, .bool b0_3]) (h : F50_1 R s0_0 n0_1 n0_2 b0_3 ds w) :
    TrL Tryz.prog Tryz.f50.ntmps [c50_0, c50_1, c50_2, c50_3, c50_4] (F50_q1 R) ρ ds w :=
  TrL_leaf (X := F50_1 R s0_0 n0_1 n0_2 b0_3 ds w) (setAll_cons e0 setAll_nil) (by kernel_rfl) (by kernel_rfl) h
theorem F50_calls (s0_0 : ByteArray) (n0_1 : Int) (n0_2 : Int) (b0_3 : Bool) (w : World) (R : Rt) (h : F50_1 R s0_0 n0_1 n0_2 b0_3 [] w) : Calls Tryz.prog 50 #[.agg #[.string s0_0, .int .i64 n0_1, .int .i64 n0_2, .bool b0_3]] w R :=
  calls_of_L (l := [c50_0, c50_1, c50_2, c50_3, c50_4]) Tryz.func50 (by kernel_rfl) (by rw [Tryz.ntmps50]; exact Nat.le_of_ble_eq_true (by kernel_rfl)) c50_l
    (F50_1_ok R s0_0 n0_1 n0_2 b0_3 [] w _ rfl h)
theorem F50_callsD (s0_0 : ByteArray) (n0_1 : Int) (n0_2 : Int) (b0_3 : Bool) (w : World) (R : Rt) (u : FrameMode) (h : F50_1 R s0_0 n0_1 n0_2 b0_3 [] w) : CallsD Tryz.prog 50 #[.agg #[.string s0_0, .int .i64 n0_1, .int .i64 n0_2, .bool b0_3]] u w fun e u' w' => u' = u ∧ R e w' :=
  callsD_of_L (l := [c50_0, c50_1, c50_2, c50_3, c50_4]) Tryz.func50 (by kernel_rfl) (by rw [Tryz.ntmps50]; exact Nat.le_of_ble_eq_true (by kernel_rfl)) (by kernel_rfl) c50_l
    (F50_1_ok R s0_0 n0_1 n0_2 b0_3 [] w _ rfl h) u

/-! function 87: cabinetry/cabinetryref03.Empty -/
noncomputable def c87_0 : Code := itemAt (flat (bodyOf Tryz.f87)) 0
noncomputable def c87_1 : Code := itemAt (flat (bodyOf Tryz.f87)) 1
noncomputable def c87_2 : Code := itemAt (flat (bodyOf Tryz.f87)) 2
noncomputable def c87_3 : Code := itemAt (flat (bodyOf Tryz.f87)) 3
noncomputable def c87_4 : Code := itemAt (flat (bodyOf Tryz.f87)) 4
def F87_q1 (R : Rt) : EQ := endQ Tryz.prog Tryz.f87.results.toList R
def F87_1 (R : Rt) (s0_0 : ByteArray) (n0_1 : Int) (n0_2 : Int) (b0_3 : Bool) (ds : Ds) (w : World) : Prop :=
 alE (.cells #[.string s0_0, .int .i64 n0_1, .int .i64 n0_2, .bool b0_3] 23) w fun r1 w1 =>
 alE (.cells #[.int .i64 0, .int .i64 0, .string (⟨#[]⟩ : ByteArray)] 25) w1 fun r2 w2 =>
 ∃ n4 : Int, w2.cell? ((⟨r1, 0, none⟩ : Addr).add 1) = some (.int .i64 n4) ∧
 Br (n4 == 5) (
 Calls Tryz.prog 118 #[.int .i64 0] w2 fun e w3 =>
 ∃ n6_0 : Int, ∃ n6_1 : Int, ∃ s6_2 : ByteArray, e = .returned (.agg #[.int .i64 n6_0, .int .i64 n6_1, .string s6_2]) ∧
 stA Tryz.prog 25 (⟨r2, 0, none⟩ : Addr) #[.int .i64 n6_0, .int .i64 n6_1, .string s6_2] w3 fun w4 =>
 runD Tryz.prog ds w4 fun w5 =>
 ∃ nR0_0 : Int, w5.cell? ((⟨r2, 0, none⟩ : Addr).add 0) = some (.int .i64 nR0_0) ∧
 ∃ nR0_1 : Int, w5.cell? ((⟨r2, 0, none⟩ : Addr).add 1) = some (.int .i64 nR0_1) ∧
 ∃ sR0_2 : ByteArray, w5.cell? ((⟨r2, 0, none⟩ : Addr).add 2) = some (.string sR0_2) ∧
 R (.returned (.agg #[.int .i64 nR0_0, .int .i64 nR0_1, .string sR0_2])) w5) (
 ∃ n8 : Int, w2.cell? ((⟨r1, 0, none⟩ : Addr).add 1) = some (.int .i64 n8) ∧
 stA Tryz.prog 25 (⟨r2, 0, none⟩ : Addr) #[.int .i64 n8, .int .i64 0, .string (⟨#[]⟩ : ByteArray)] w2 fun w6 =>
 runD Tryz.prog ds w6 fun w7 =>
 ∃ nR0_0 : Int, w7.cell? ((⟨r2, 0, none⟩ : Addr).add 0) = some (.int .i64 nR0_0) ∧
 ∃ nR0_1 : Int, w7.cell? ((⟨r2, 0, none⟩ : Addr).add 1) = some (.int .i64 nR0_1) ∧
 ∃ sR0_2 : ByteArray, w7.cell? ((⟨r2, 0, none⟩ : Addr).add 2) = some (.string sR0_2) ∧
 R (.returned (.agg #[.int .i64 nR0_0, .int .i64 nR0_1, .string sR0_2])) w7)
theorem c87_l : flat (bodyOf Tryz.f87) = [c87_0, c87_1, c87_2, c87_3, c87_4] := by kernel_rfl
theorem F87_1_ok (R : Rt) (s0_0 : ByteArray) (n0_1 : Int) (n0_2 : Int) (b0_3 : Bool) (ds : Ds) (w : World) (ρ : Env) (e0 : ρ 0 = .agg #[.string s0_0, .int .i64 n0_1, .int .i64 n0_2, .bool b0_3]) (h : F87_1 R s0_0 n0_1 n0_2 b0_3 ds w) :
    TrL Tryz.prog Tryz.f87.ntmps [c87_0, c87_1, c87_2, c87_3, c87_4] (F87_q1 R) ρ ds w :=
  TrL_leaf (X := F87_1 R s0_0 n0_1 n0_2 b0_3 ds w) (setAll_cons e0 setAll_nil) (by kernel_rfl) (by kernel_rfl) h
theorem F87_calls (s0_0 : ByteArray) (n0_1 : Int) (n0_2 : Int) (b0_3 : Bool) (w : World) (R : Rt) (h : F87_1 R s0_0 n0_1 n0_2 b0_3 [] w) : Calls Tryz.prog 87 #[.agg #[.string s0_0, .int .i64 n0_1, .int .i64 n0_2, .bool b0_3]] w R :=
  calls_of_L (l := [c87_0, c87_1, c87_2, c87_3, c87_4]) Tryz.func87 (by kernel_rfl) (by rw [Tryz.ntmps87]; exact Nat.le_of_ble_eq_true (by kernel_rfl)) c87_l
    (F87_1_ok R s0_0 n0_1 n0_2 b0_3 [] w _ rfl h)
theorem F87_callsD (s0_0 : ByteArray) (n0_1 : Int) (n0_2 : Int) (b0_3 : Bool) (w : World) (R : Rt) (u : FrameMode) (h : F87_1 R s0_0 n0_1 n0_2 b0_3 [] w) : CallsD Tryz.prog 87 #[.agg #[.string s0_0, .int .i64 n0_1, .int .i64 n0_2, .bool b0_3]] u w fun e u' w' => u' = u ∧ R e w' :=
  callsD_of_L (l := [c87_0, c87_1, c87_2, c87_3, c87_4]) Tryz.func87 (by kernel_rfl) (by rw [Tryz.ntmps87]; exact Nat.le_of_ble_eq_true (by kernel_rfl)) (by kernel_rfl) c87_l
    (F87_1_ok R s0_0 n0_1 n0_2 b0_3 [] w _ rfl h) u

end Go.Proofs.YtecmfdfhpldmmaaGreatDoor
