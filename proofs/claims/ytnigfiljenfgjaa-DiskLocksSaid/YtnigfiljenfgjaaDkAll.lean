/- Shallow texts of functions, printed by program, each checked by the kernel against the loaded code. No condition. -/
import Derived.Test.YtnigfiljenfgjaaProg
import Derived.Test.YtnigfiljenfgjaaShEight
set_option maxRecDepth 100000
set_option linter.unusedVariables false
namespace Go.Proofs.Ytnigfiljenfgjaa
open Go.Sh
/-! function 3: cabinetry/cabinetrylaw19.DiskBytes -/
noncomputable def c3_0 : Code := itemAt (flat (bodyOf Try.f3)) 0
noncomputable def c3_1 : Code := itemAt (flat (bodyOf Try.f3)) 1
noncomputable def c3_2 : Code := itemAt (flat (bodyOf Try.f3)) 2
noncomputable def c3_3 : Code := itemAt (flat (bodyOf Try.f3)) 3
noncomputable def c3_4 : Code := itemAt (flat (bodyOf Try.f3)) 4
noncomputable def c3_5 : Code := itemAt (flat (bodyOf Try.f3)) 5
noncomputable def c3_6 : Code := itemAt (flat (bodyOf Try.f3)) 6
noncomputable def c3_7 : Code := itemAt (flat (bodyOf Try.f3)) 7
noncomputable def c3_8 : Code := itemAt (flat (bodyOf Try.f3)) 8
noncomputable def c3_9 : Code := itemAt (flat (bodyOf Try.f3)) 9
noncomputable def c3_10 : Code := itemAt (flat (bodyOf Try.f3)) 10
noncomputable def c3_11 : Code := itemAt (flat (bodyOf Try.f3)) 11
noncomputable def c3_12 : Code := itemAt (flat (bodyOf Try.f3)) 12
noncomputable def c3_13 : Code := itemAt (flat (bodyOf Try.f3)) 13
def F3_q1 (R : Rt) : EQ := endQ Try.prog Try.f3.results.toList R
def F3_1 (R : Rt) (b6 : Bool) (ds : Ds) (w : World) : Prop :=
 runD Try.prog ds w fun w1 =>
 R (.returned (.bool b6)) w1
def F3_k2 (R : Rt) : EP := (fun ρ ds w => dBl (ρ 6) fun b6 => F3_1 R b6 ds w)
def F3_2 (R : Rt) (n0 : Int) (n1 : Int) (p5 : Option Addr) (n8 : Int) (n9 : Int) (n10 : Int) (n11 : Int) (l12 : SV) (n13 : Int) (ds : Ds) (w : World) : Prop :=
 dwE w fun w2 =>
 Br (n8 == 1) (
 Br (n10 == 1) (
 Br (n9 == 0) (
 Br (n11 == 0) (
 Br (n13 == 0) (
 Br (((l12.len : Nat) : Int) == 64) (
 ∃ a3 : Addr, l12.a = some a3 ∧ 0 ≤ n0 ∧ n0 < ((l12.len : Nat) : Int) ∧
 ∃ n95 : Int, w2.cell? (a3.add (n0.toNat * 1)) = some (.int .u8 n95) ∧
 ptrE p5 fun a4 =>
 0 ≤ (0 : Int) ∧ (0 : Int) < ((2 : Nat) : Int) ∧
 ∃ n97 : Int, w2.cell? (a4.add ((0 : Int).toNat * 1)) = some (.int .u8 n97) ∧
 Br (n95 == n97) (
 ∃ a5 : Addr, l12.a = some a5 ∧ 0 ≤ n1 ∧ n1 < ((l12.len : Nat) : Int) ∧
 ∃ n104 : Int, w2.cell? (a5.add (n1.toNat * 1)) = some (.int .u8 n104) ∧
 ptrE p5 fun a6 =>
 0 ≤ (1 : Int) ∧ (1 : Int) < ((2 : Nat) : Int) ∧
 ∃ n106 : Int, w2.cell? (a6.add ((1 : Int).toNat * 1)) = some (.int .u8 n106) ∧
 Br (n104 == n106) (
 Calls Try.prog 11 #[] w2 fun e w7 =>
 ∃ b110 : Bool, e = .returned (.bool b110) ∧
 F3_1 R b110 ds w7) (
 F3_1 R false ds w2)) (
 F3_1 R false ds w2)) (
 F3_1 R false ds w2)) (
 F3_1 R false ds w2)) (
 F3_1 R false ds w2)) (
 F3_1 R false ds w2)) (
 F3_1 R false ds w2)) (
 F3_1 R false ds w2)
def F3_k3 (R : Rt) : EP := (fun ρ ds w => dInt .i64 (ρ 0) fun n0 => dInt .i64 (ρ 1) fun n1 => dPtr (ρ 5) fun p5 => dInt .i64 (ρ 8) fun n8 => dInt .i64 (ρ 9) fun n9 => dInt .i64 (ρ 10) fun n10 => dInt .i64 (ρ 11) fun n11 => dSl (ρ 12) fun l12 => dInt .i64 (ρ 13) fun n13 => F3_2 R n0 n1 p5 n8 n9 n10 n11 l12 n13 ds w)
def F3_3 (R : Rt) (n0 : Int) (n1 : Int) (p5 : Option Addr) (p7 : Option Addr) (ds : Ds) (w : World) : Prop :=
 ptrE p5 fun a8 =>
 0 ≤ (1 : Int) ∧ (1 : Int).toNat ≤ 2 ∧ 0 ≤ (1 : Int).toNat ∧
 Calls Try.prog 8 #[.pointer p7, .int .i64 0, .string (⟨#[70]⟩ : ByteArray), .int .i64 n0, .slice (some (if 2 = 0 then a8 else a8.add (0 * 1))) ((1 : Int).toNat - 0) (2 - 0)] w fun e w9 =>
 ∃ n44 : Int, e = .returned (.int .i64 n44) ∧
 Br (n44 != 0) (
 runD Try.prog ds w9 fun w10 =>
 R (.returned (.bool false)) w10) (
 ptrE p5 fun a11 =>
 2 ≤ 2 ∧ 0 ≤ (1 : Int) ∧ (1 : Int).toNat ≤ 2 ∧
 Calls Try.prog 8 #[.pointer p7, .int .i64 1, .string (⟨#[70]⟩ : ByteArray), .int .i64 n1, .slice (some (if 2 = (1 : Int).toNat then a11 else a11.add ((1 : Int).toNat * 1))) (2 - (1 : Int).toNat) (2 - (1 : Int).toNat)] w9 fun e w12 =>
 ∃ n50 : Int, e = .returned (.int .i64 n50) ∧
 Br (n50 != 0) (
 runD Try.prog ds w12 fun w13 =>
 R (.returned (.bool false)) w13) (
 Calls Try.prog 9 #[.pointer p7, .int .i64 1, .string (⟨#[70]⟩ : ByteArray)] w12 fun e w14 =>
 ∃ n55_0 : Int, ∃ n55_1 : Int, e = .returned (.tuple #[.int .i64 n55_0, .int .i64 n55_1]) ∧
 Calls Try.prog 9 #[.pointer p7, .int .i64 0, .string (⟨#[70]⟩ : ByteArray)] w14 fun e w15 =>
 ∃ n60_0 : Int, ∃ n60_1 : Int, e = .returned (.tuple #[.int .i64 n60_0, .int .i64 n60_1]) ∧
 Calls Try.prog 10 #[.pointer p7, .string (⟨#[70]⟩ : ByteArray)] w15 fun e w16 =>
 ∃ l65_0 : SV, ∃ n65_1 : Int, e = .returned (.tuple #[.slice l65_0.a l65_0.len l65_0.cap, .int .i64 n65_1]) ∧
 F3_2 R n0 n1 p5 n55_0 n55_1 n60_0 n60_1 l65_0 n65_1 ds w16))
def F3_k4 (R : Rt) : EP := (fun ρ ds w => dInt .i64 (ρ 0) fun n0 => dInt .i64 (ρ 1) fun n1 => dPtr (ρ 5) fun p5 => dPtr (ρ 7) fun p7 => F3_3 R n0 n1 p5 p7 ds w)
def F3_4 (R : Rt) (n0 : Int) (n1 : Int) (n2_0 : Int) (n2_1 : Int) (ds : Ds) (w : World) : Prop :=
 alE (.cells #[.int .u8 n2_0, .int .u8 n2_1] 22) w fun r5 w17 =>
 Calls Try.prog 5 #[] w17 fun e w18 =>
 ∃ p14 : Option Addr, e = .returned (.pointer p14) ∧
 ∃ b16 : Bool, ∃ w19 : World, (eqS .eql 23 (.tmp 15) (.const (.pointer none)) (.pointer p14) (.pointer none)).run Try.prog w18 = .ok (.bool b16) w19 ∧
 Br b16 (
 runD Try.prog ds w19 fun w20 =>
 R (.returned (.bool false)) w20) (
 Calls Try.prog 6 #[.pointer p14, .string (⟨#[70]⟩ : ByteArray)] w19 fun e w21 =>
 ∃ n19 : Int, e = .returned (.int .i64 n19) ∧
 Br (n19 != 0) (
 runD Try.prog ds w21 fun w22 =>
 R (.returned (.bool false)) w22) (
 Calls Try.prog 7 #[.pointer p14, .string (⟨#[70]⟩ : ByteArray), .int .i64 64] w21 fun e w23 =>
 ∃ n24 : Int, e = .returned (.int .i64 n24) ∧
 Br (n24 != 0) (
 runD Try.prog ds w23 fun w24 =>
 R (.returned (.bool false)) w24) (
 IntKind.i64 = IntKind.i64 ∧ (64 : Int) ≠ 0 ∧
 IntKind.i64 = IntKind.i64 ∧ (64 : Int) ≠ 0 ∧
 IntKind.i64 = IntKind.i64 ∧ (64 : Int) ≠ 0 ∧
 IntKind.i64 = IntKind.i64 ∧ (64 : Int) ≠ 0 ∧
 Br (((IntKind.i64.wrap ((n0.tmod 64) + 64)).tmod 64) == ((IntKind.i64.wrap ((n1.tmod 64) + 64)).tmod 64)) (
 IntKind.i64 = IntKind.i64 ∧ (64 : Int) ≠ 0 ∧
 F3_3 R ((IntKind.i64.wrap ((n0.tmod 64) + 64)).tmod 64) ((IntKind.i64.wrap (((IntKind.i64.wrap ((n1.tmod 64) + 64)).tmod 64) + 1)).tmod 64) (some (⟨r5, 0, none⟩ : Addr)) p14 ds w23) (
 F3_3 R ((IntKind.i64.wrap ((n0.tmod 64) + 64)).tmod 64) ((IntKind.i64.wrap ((n1.tmod 64) + 64)).tmod 64) (some (⟨r5, 0, none⟩ : Addr)) p14 ds w23))))
theorem c3_l : flat (bodyOf Try.f3) = [c3_0, c3_1, c3_2, c3_3, c3_4, c3_5, c3_6, c3_7, c3_8, c3_9, c3_10, c3_11, c3_12, c3_13] := by kernel_rfl
theorem F3_1_ok (R : Rt) (b6 : Bool) (ds : Ds) (w : World) (ρ : Env) (e6 : ρ 6 = .bool b6) (h : F3_1 R b6 ds w) :
    TrL Try.prog Try.f3.ntmps [c3_13] (F3_q1 R) ρ ds w :=
  TrL_leaf (X := F3_1 R b6 ds w) (setAll_cons e6 setAll_nil) (by kernel_rfl) (by kernel_rfl) h
theorem F3_2_ok (R : Rt) (n0 : Int) (n1 : Int) (p5 : Option Addr) (n8 : Int) (n9 : Int) (n10 : Int) (n11 : Int) (l12 : SV) (n13 : Int) (ds : Ds) (w : World) (ρ : Env) (e0 : ρ 0 = .int .i64 n0) (e1 : ρ 1 = .int .i64 n1) (e5 : ρ 5 = .pointer p5) (e8 : ρ 8 = .int .i64 n8) (e9 : ρ 9 = .int .i64 n9) (e10 : ρ 10 = .int .i64 n10) (e11 : ρ 11 = .int .i64 n11) (e12 : ρ 12 = .slice l12.a l12.len l12.cap) (e13 : ρ 13 = .int .i64 n13) (h : F3_2 R n0 n1 p5 n8 n9 n10 n11 l12 n13 ds w) :
    TrL Try.prog Try.f3.ntmps [c3_12, c3_13] (F3_q1 R) ρ ds w :=
  TrL_piece (pre := [c3_12]) (K := (F3_k2 R)) (X := F3_2 R n0 n1 p5 n8 n9 n10 n11 l12 n13 ds w) (setAll_cons e0 (setAll_cons e1 (setAll_cons e5 (setAll_cons e8 (setAll_cons e9 (setAll_cons e10 (setAll_cons e11 (setAll_cons e12 (setAll_cons e13 setAll_nil))))))))) (by kernel_rfl) (by kernel_rfl)
    (fun ρ' ds' w' hD => by
      obtain ⟨b6, e6, hD⟩ := dBl_elim hD; exact F3_1_ok R b6 ds' w' ρ' e6 hD) h
theorem F3_3_ok (R : Rt) (n0 : Int) (n1 : Int) (p5 : Option Addr) (p7 : Option Addr) (ds : Ds) (w : World) (ρ : Env) (e0 : ρ 0 = .int .i64 n0) (e1 : ρ 1 = .int .i64 n1) (e5 : ρ 5 = .pointer p5) (e7 : ρ 7 = .pointer p7) (h : F3_3 R n0 n1 p5 p7 ds w) :
    TrL Try.prog Try.f3.ntmps [c3_7, c3_8, c3_9, c3_10, c3_11, c3_12, c3_13] (F3_q1 R) ρ ds w :=
  TrL_piece (pre := [c3_7, c3_8, c3_9, c3_10, c3_11]) (K := (F3_k3 R)) (X := F3_3 R n0 n1 p5 p7 ds w) (setAll_cons e0 (setAll_cons e1 (setAll_cons e5 (setAll_cons e7 setAll_nil)))) (by kernel_rfl) (by kernel_rfl)
    (fun ρ' ds' w' hD => by
      obtain ⟨n0, e0, hD⟩ := dInt_elim hD; obtain ⟨n1, e1, hD⟩ := dInt_elim hD; obtain ⟨p5, e5, hD⟩ := dPtr_elim hD; obtain ⟨n8, e8, hD⟩ := dInt_elim hD; obtain ⟨n9, e9, hD⟩ := dInt_elim hD; obtain ⟨n10, e10, hD⟩ := dInt_elim hD; obtain ⟨n11, e11, hD⟩ := dInt_elim hD; obtain ⟨l12, e12, hD⟩ := dSl_elim hD; obtain ⟨n13, e13, hD⟩ := dInt_elim hD; exact F3_2_ok R n0 n1 p5 n8 n9 n10 n11 l12 n13 ds' w' ρ' e0 e1 e5 e8 e9 e10 e11 e12 e13 hD) h
theorem F3_4_ok (R : Rt) (n0 : Int) (n1 : Int) (n2_0 : Int) (n2_1 : Int) (ds : Ds) (w : World) (ρ : Env) (e0 : ρ 0 = .int .i64 n0) (e1 : ρ 1 = .int .i64 n1) (e2 : ρ 2 = .agg #[.int .u8 n2_0, .int .u8 n2_1]) (h : F3_4 R n0 n1 n2_0 n2_1 ds w) :
    TrL Try.prog Try.f3.ntmps [c3_0, c3_1, c3_2, c3_3, c3_4, c3_5, c3_6, c3_7, c3_8, c3_9, c3_10, c3_11, c3_12, c3_13] (F3_q1 R) ρ ds w :=
  TrL_piece (pre := [c3_0, c3_1, c3_2, c3_3, c3_4, c3_5, c3_6]) (K := (F3_k4 R)) (X := F3_4 R n0 n1 n2_0 n2_1 ds w) (setAll_cons e0 (setAll_cons e1 (setAll_cons e2 setAll_nil))) (by kernel_rfl) (by kernel_rfl)
    (fun ρ' ds' w' hD => by
      obtain ⟨n0, e0, hD⟩ := dInt_elim hD; obtain ⟨n1, e1, hD⟩ := dInt_elim hD; obtain ⟨p5, e5, hD⟩ := dPtr_elim hD; obtain ⟨p7, e7, hD⟩ := dPtr_elim hD; exact F3_3_ok R n0 n1 p5 p7 ds' w' ρ' e0 e1 e5 e7 hD) h
theorem F3_calls (n0 : Int) (n1 : Int) (n2_0 : Int) (n2_1 : Int) (w : World) (R : Rt) (h : F3_4 R n0 n1 n2_0 n2_1 [] w) : Calls Try.prog 3 #[.int .i64 n0, .int .i64 n1, .agg #[.int .u8 n2_0, .int .u8 n2_1]] w R :=
  calls_of_L (l := [c3_0, c3_1, c3_2, c3_3, c3_4, c3_5, c3_6, c3_7, c3_8, c3_9, c3_10, c3_11, c3_12, c3_13]) Try.func3 (by kernel_rfl) (by rw [Try.ntmps3]; exact Nat.le_of_ble_eq_true (by kernel_rfl)) c3_l
    (F3_4_ok R n0 n1 n2_0 n2_1 [] w _ rfl rfl rfl h)
theorem F3_callsD (n0 : Int) (n1 : Int) (n2_0 : Int) (n2_1 : Int) (w : World) (R : Rt) (u : FrameMode) (h : F3_4 R n0 n1 n2_0 n2_1 [] w) : CallsD Try.prog 3 #[.int .i64 n0, .int .i64 n1, .agg #[.int .u8 n2_0, .int .u8 n2_1]] u w fun e u' w' => u' = u ∧ R e w' :=
  callsD_of_L (l := [c3_0, c3_1, c3_2, c3_3, c3_4, c3_5, c3_6, c3_7, c3_8, c3_9, c3_10, c3_11, c3_12, c3_13]) Try.func3 (by kernel_rfl) (by rw [Try.ntmps3]; exact Nat.le_of_ble_eq_true (by kernel_rfl)) (by kernel_rfl) c3_l
    (F3_4_ok R n0 n1 n2_0 n2_1 [] w _ rfl rfl rfl h) u

/-! function 4: cabinetry/cabinetrylaw19.DiskLocks -/
noncomputable def c4_0 : Code := itemAt (flat (bodyOf Try.f4)) 0
noncomputable def c4_1 : Code := itemAt (flat (bodyOf Try.f4)) 1
noncomputable def c4_2 : Code := itemAt (flat (bodyOf Try.f4)) 2
noncomputable def c4_3 : Code := itemAt (flat (bodyOf Try.f4)) 3
noncomputable def c4_4 : Code := itemAt (flat (bodyOf Try.f4)) 4
noncomputable def c4_5 : Code := itemAt (flat (bodyOf Try.f4)) 5
noncomputable def c4_6 : Code := itemAt (flat (bodyOf Try.f4)) 6
noncomputable def c4_7 : Code := itemAt (flat (bodyOf Try.f4)) 7
noncomputable def c4_8 : Code := itemAt (flat (bodyOf Try.f4)) 8
noncomputable def c4_9 : Code := itemAt (flat (bodyOf Try.f4)) 9
noncomputable def c4_10 : Code := itemAt (flat (bodyOf Try.f4)) 10
noncomputable def c4_11 : Code := itemAt (flat (bodyOf Try.f4)) 11
noncomputable def c4_9_0 : Code := itemAt (flat (innerC c4_9)) 0
noncomputable def c4_9_0_0 : Code := itemAt (flat (innerC c4_9_0)) 0
noncomputable def c4_9_0_1 : Code := itemAt (flat (innerC c4_9_0)) 1
noncomputable def c4_9_0_2 : Code := itemAt (flat (innerC c4_9_0)) 2
noncomputable def c4_9_0_3 : Code := itemAt (flat (innerC c4_9_0)) 3
def F4_q1 (R : Rt) : EQ := endQ Try.prog Try.f4.results.toList R
def F4_1 (R : Rt) (ds : Ds) (w : World) : Prop :=
 Calls Try.prog 11 #[] w fun e w1 =>
 ∃ b115 : Bool, e = .returned (.bool b115) ∧
 runD Try.prog ds w1 fun w2 =>
 R (.returned (.bool b115)) w2
def F4_k2 (R : Rt) : EP := (fun ρ ds w => F4_1 R ds w)
def F4_q3 (R : Rt) : EQ := (thenQ (F4_k2 R) (F4_q1 R))
def F4_q4 (R : Rt) : EQ := (blockQ 0 (F4_q3 R))
def F4_q5 (R : Rt) (J1 : (Int × Int) → World → Prop) : EQ := (thenQ (fun ρ _ w => dInt .u8 (ρ 6) fun n6 => dInt .i64 (ρ 7) fun n7 => J1 (n6, n7) w) (F4_q4 R))
def F4_2 (R : Rt) (J1 : (Int × Int) → World → Prop) (l0 : SV) (n1 : Int) (p5 : Option Addr) (n6 : Int) (n7 : Int) (ds : Ds) (w : World) : Prop :=
 J1 (n6, (IntKind.i64.wrap (n7 + 1))) w
def F4_k6 (R : Rt) (J1 : (Int × Int) → World → Prop) : EP := (fun ρ ds w => dSl (ρ 0) fun l0 => dInt .i64 (ρ 1) fun n1 => dPtr (ρ 5) fun p5 => dInt .u8 (ρ 6) fun n6 => dInt .i64 (ρ 7) fun n7 => F4_2 R J1 l0 n1 p5 n6 n7 ds w)
def F4_3 (R : Rt) (J1 : (Int × Int) → World → Prop) (l0 : SV) (n1 : Int) (p5 : Option Addr) (n6 : Int) (n7 : Int) (ds : Ds) (w : World) : Prop :=
 ∃ a3 : Addr, l0.a = some a3 ∧ 0 ≤ n7 ∧ n7 < ((l0.len : Nat) : Int) ∧
 ∃ n41 : Int, w.cell? (a3.add (n7.toNat * 1)) = some (.int .i64 n41) ∧
 IntKind.i64 = IntKind.i64 ∧ (4 : Int) ≠ 0 ∧
 IntKind.i64 = IntKind.i64 ∧ (4 : Int) ≠ 0 ∧
 IntKind.i64 = IntKind.i64 ∧ (4 : Int) ≠ 0 ∧
 Calls Try.prog 12 #[.pointer p5, .int .i64 ((IntKind.i64.wrap (((IntKind.i64.wrap ((n41.tmod 4) + 4)).tmod 4) + 1)).tmod 4), .string (⟨#[70]⟩ : ByteArray), .int .i64 n1, .int .i64 1] w fun e w4 =>
 ∃ l50_0 : SV, ∃ n50_1 : Int, e = .returned (.tuple #[.slice l50_0.a l50_0.len l50_0.cap, .int .i64 n50_1]) ∧
 Calls Try.prog 13 #[.pointer p5, .int .i64 ((IntKind.i64.wrap ((n41.tmod 4) + 4)).tmod 4), .string (⟨#[70]⟩ : ByteArray), .int .i64 n1, .int .i64 1] w4 fun e w5 =>
 ∃ n54 : Int, e = .returned (.int .i64 n54) ∧
 Br (n54 != 0) (
 runD Try.prog ds w5 fun w6 =>
 R (.returned (.bool false)) w6) (
 IntKind.i64 = IntKind.i64 ∧ (4 : Int) ≠ 0 ∧
 Calls Try.prog 13 #[.pointer p5, .int .i64 ((IntKind.i64.wrap (((IntKind.i64.wrap ((n41.tmod 4) + 4)).tmod 4) + 1)).tmod 4), .string (⟨#[70]⟩ : ByteArray), .int .i64 n1, .int .i64 1] w5 fun e w7 =>
 ∃ n62 : Int, e = .returned (.int .i64 n62) ∧
 Br (n62 != 12) (
 runD Try.prog ds w7 fun w8 =>
 R (.returned (.bool false)) w8) (
 Calls Try.prog 13 #[.pointer p5, .int .i64 ((IntKind.i64.wrap ((n41.tmod 4) + 4)).tmod 4), .string (⟨#[70]⟩ : ByteArray), .int .i64 n1, .int .i64 1] w7 fun e w9 =>
 ∃ n69 : Int, e = .returned (.int .i64 n69) ∧
 Br (n69 != 5) (
 runD Try.prog ds w9 fun w10 =>
 R (.returned (.bool false)) w10) (
 Calls Try.prog 12 #[.pointer p5, .int .i64 ((IntKind.i64.wrap ((n41.tmod 4) + 4)).tmod 4), .string (⟨#[70]⟩ : ByteArray), .int .i64 n1, .int .i64 1] w9 fun e w11 =>
 ∃ l76_0 : SV, ∃ n76_1 : Int, e = .returned (.tuple #[.slice l76_0.a l76_0.len l76_0.cap, .int .i64 n76_1]) ∧
 Br (n76_1 != 0) (
 runD Try.prog ds w11 fun w12 =>
 R (.returned (.bool false)) w12) (
 Br (((l76_0.len : Nat) : Int) != 1) (
 runD Try.prog ds w11 fun w13 =>
 R (.returned (.bool false)) w13) (
 ∃ a14 : Addr, l76_0.a = some a14 ∧ 0 ≤ (0 : Int) ∧ (0 : Int) < ((l76_0.len : Nat) : Int) ∧
 ∃ n89 : Int, w11.cell? (a14.add ((0 : Int).toNat * 1)) = some (.int .u8 n89) ∧
 Br (n89 != n6) (
 runD Try.prog ds w11 fun w15 =>
 R (.returned (.bool false)) w15) (
 ∃ a16 : Addr, l0.a = some a16 ∧ 0 ≤ n7 ∧ n7 < ((l0.len : Nat) : Int) ∧
 ∃ n96 : Int, w11.cell? (a16.add (n7.toNat * 1)) = some (.int .i64 n96) ∧
 IntKind.i64 = IntKind.i64 ∧ (4 : Int) ≠ 0 ∧
 alE (.cells #[.int .u8 (IntKind.u8.wrap (IntKind.i64.wrap ((IntKind.i64.wrap (n96.tdiv 4)) + n7)))] 5) w11 fun r105 w17 =>
 Calls Try.prog 8 #[.pointer p5, .int .i64 ((IntKind.i64.wrap ((n41.tmod 4) + 4)).tmod 4), .string (⟨#[70]⟩ : ByteArray), .int .i64 n1, .slice (some ⟨r105, 0, none⟩) 1 1] w17 fun e w18 =>
 ∃ n106 : Int, e = .returned (.int .i64 n106) ∧
 Br (n106 != 0) (
 runD Try.prog ds w18 fun w19 =>
 R (.returned (.bool false)) w19) (
 Calls Try.prog 14 #[.pointer p5, .int .i64 ((IntKind.i64.wrap ((n41.tmod 4) + 4)).tmod 4), .string (⟨#[70]⟩ : ByteArray), .int .i64 n1, .int .i64 1] w18 fun e w20 =>
 ∃ n112 : Int, e = .returned (.int .i64 n112) ∧
 Br (n112 != 0) (
 runD Try.prog ds w20 fun w21 =>
 R (.returned (.bool false)) w21) (
 F4_2 R J1 l0 n1 p5 (IntKind.u8.wrap (IntKind.i64.wrap ((IntKind.i64.wrap (n96.tdiv 4)) + n7))) n7 ds w20))))))))
def F4_k7 (R : Rt) (J1 : (Int × Int) → World → Prop) : EP := (fun ρ ds w => dSl (ρ 0) fun l0 => dInt .i64 (ρ 1) fun n1 => dPtr (ρ 5) fun p5 => dInt .u8 (ρ 6) fun n6 => dInt .i64 (ρ 7) fun n7 => F4_3 R J1 l0 n1 p5 n6 n7 ds w)
def F4_4 (R : Rt) (J1 : (Int × Int) → World → Prop) (l0 : SV) (n1 : Int) (p5 : Option Addr) (n6 : Int) (n7 : Int) (ds : Ds) (w : World) : Prop :=
 Br (decide (n7 < ((l0.len : Nat) : Int))) (
 F4_3 R J1 l0 n1 p5 n6 n7 ds w) (
 F4_1 R ds w)
def F4_5 (R : Rt) (l0 : SV) (n1 : Int) (p5 : Option Addr) (n6 : Int) (n7 : Int) (ds : Ds) (w : World) : Prop :=
 loopT (fun (J1 : (Int × Int) → World → Prop) (s : Int × Int) (w : World) => F4_4 R J1 l0 n1 p5 s.1 s.2 ds w) (n6, n7) w
@[reducible] def F4_6 (R : Rt) (l0 : SV) (n1 : Int) (p5 : Option Addr) (n6 : Int) (n7 : Int) (ds : Ds) (w : World) : Prop := F4_5 R l0 n1 p5 n6 n7 ds w
def F4_k8 (R : Rt) : EP := (fun ρ ds w => dSl (ρ 0) fun l0 => dInt .i64 (ρ 1) fun n1 => dPtr (ρ 5) fun p5 => dInt .u8 (ρ 6) fun n6 => dInt .i64 (ρ 7) fun n7 => F4_6 R l0 n1 p5 n6 n7 ds w)
def F4_7 (R : Rt) (l0 : SV) (n1 : Int) (ds : Ds) (w : World) : Prop :=
 Br (decide (((l0.len : Nat) : Int) > 200)) (
 Calls Try.prog 11 #[] w fun e w22 =>
 ∃ b14 : Bool, e = .returned (.bool b14) ∧
 runD Try.prog ds w22 fun w23 =>
 R (.returned (.bool b14)) w23) (
 Calls Try.prog 5 #[] w fun e w24 =>
 ∃ p15 : Option Addr, e = .returned (.pointer p15) ∧
 ∃ b17 : Bool, ∃ w25 : World, (eqS .eql 23 (.tmp 16) (.const (.pointer none)) (.pointer p15) (.pointer none)).run Try.prog w24 = .ok (.bool b17) w25 ∧
 Br b17 (
 runD Try.prog ds w25 fun w26 =>
 R (.returned (.bool false)) w26) (
 Calls Try.prog 6 #[.pointer p15, .string (⟨#[70]⟩ : ByteArray)] w25 fun e w27 =>
 ∃ n20 : Int, e = .returned (.int .i64 n20) ∧
 Br (n20 != 0) (
 runD Try.prog ds w27 fun w28 =>
 R (.returned (.bool false)) w28) (
 Calls Try.prog 7 #[.pointer p15, .string (⟨#[70]⟩ : ByteArray), .int .i64 100] w27 fun e w29 =>
 ∃ n25 : Int, e = .returned (.int .i64 n25) ∧
 Br (n25 != 0) (
 runD Try.prog ds w29 fun w30 =>
 R (.returned (.bool false)) w30) (
 IntKind.i64 = IntKind.i64 ∧ (100 : Int) ≠ 0 ∧
 IntKind.i64 = IntKind.i64 ∧ (100 : Int) ≠ 0 ∧
 F4_6 R l0 ((IntKind.i64.wrap ((n1.tmod 100) + 100)).tmod 100) p15 0 0 ds w29))))
theorem c4_l : flat (bodyOf Try.f4) = [c4_0, c4_1, c4_2, c4_3, c4_4, c4_5, c4_6, c4_7, c4_8, c4_9, c4_10, c4_11] := by kernel_rfl
theorem c4_9_l : flat (innerC c4_9) = [c4_9_0] := by kernel_rfl
theorem c4_9_0_l : flat (innerC c4_9_0) = [c4_9_0_0, c4_9_0_1, c4_9_0_2, c4_9_0_3] := by kernel_rfl
theorem F4_1_ok (R : Rt) (ds : Ds) (w : World) (ρ : Env) (h : F4_1 R ds w) :
    TrL Try.prog Try.f4.ntmps [c4_10, c4_11] (F4_q1 R) ρ ds w :=
  TrL_leaf (X := F4_1 R ds w) setAll_nil (by kernel_rfl) (by kernel_rfl) h
theorem F4_2_ok (R : Rt) (J1 : (Int × Int) → World → Prop) (l0 : SV) (n1 : Int) (p5 : Option Addr) (n6 : Int) (n7 : Int) (ds : Ds) (w : World) (ρ : Env) (e0 : ρ 0 = .slice l0.a l0.len l0.cap) (e1 : ρ 1 = .int .i64 n1) (e5 : ρ 5 = .pointer p5) (e6 : ρ 6 = .int .u8 n6) (e7 : ρ 7 = .int .i64 n7) (h : F4_2 R J1 l0 n1 p5 n6 n7 ds w) :
    TrL Try.prog Try.f4.ntmps [c4_9_0_3] (F4_q5 R J1) ρ ds w :=
  TrL_leaf (X := F4_2 R J1 l0 n1 p5 n6 n7 ds w) (setAll_cons e0 (setAll_cons e1 (setAll_cons e5 (setAll_cons e6 (setAll_cons e7 setAll_nil))))) (by kernel_rfl) (by kernel_rfl) h
theorem F4_3_ok (R : Rt) (J1 : (Int × Int) → World → Prop) (l0 : SV) (n1 : Int) (p5 : Option Addr) (n6 : Int) (n7 : Int) (ds : Ds) (w : World) (ρ : Env) (e0 : ρ 0 = .slice l0.a l0.len l0.cap) (e1 : ρ 1 = .int .i64 n1) (e5 : ρ 5 = .pointer p5) (e6 : ρ 6 = .int .u8 n6) (e7 : ρ 7 = .int .i64 n7) (h : F4_3 R J1 l0 n1 p5 n6 n7 ds w) :
    TrL Try.prog Try.f4.ntmps [c4_9_0_2, c4_9_0_3] (F4_q5 R J1) ρ ds w :=
  TrL_piece (pre := [c4_9_0_2]) (K := (F4_k6 R J1)) (X := F4_3 R J1 l0 n1 p5 n6 n7 ds w) (setAll_cons e0 (setAll_cons e1 (setAll_cons e5 (setAll_cons e6 (setAll_cons e7 setAll_nil))))) (by kernel_rfl) (by kernel_rfl)
    (fun ρ' ds' w' hD => by
      obtain ⟨l0, e0, hD⟩ := dSl_elim hD; obtain ⟨n1, e1, hD⟩ := dInt_elim hD; obtain ⟨p5, e5, hD⟩ := dPtr_elim hD; obtain ⟨n6, e6, hD⟩ := dInt_elim hD; obtain ⟨n7, e7, hD⟩ := dInt_elim hD; exact F4_2_ok R J1 l0 n1 p5 n6 n7 ds' w' ρ' e0 e1 e5 e6 e7 hD) h
theorem F4_4_ok (R : Rt) (J1 : (Int × Int) → World → Prop) (l0 : SV) (n1 : Int) (p5 : Option Addr) (n6 : Int) (n7 : Int) (ds : Ds) (w : World) (ρ : Env) (e0 : ρ 0 = .slice l0.a l0.len l0.cap) (e1 : ρ 1 = .int .i64 n1) (e5 : ρ 5 = .pointer p5) (e6 : ρ 6 = .int .u8 n6) (e7 : ρ 7 = .int .i64 n7) (h : F4_4 R J1 l0 n1 p5 n6 n7 ds w) :
    TrL Try.prog Try.f4.ntmps [c4_9_0_0, c4_9_0_1, c4_9_0_2, c4_9_0_3] (F4_q5 R J1) ρ ds w :=
  TrL_piece (pre := [c4_9_0_0, c4_9_0_1]) (K := (F4_k7 R J1)) (X := F4_4 R J1 l0 n1 p5 n6 n7 ds w) (setAll_cons e0 (setAll_cons e1 (setAll_cons e5 (setAll_cons e6 (setAll_cons e7 setAll_nil))))) (by kernel_rfl) (by kernel_rfl)
    (fun ρ' ds' w' hD => by
      obtain ⟨l0, e0, hD⟩ := dSl_elim hD; obtain ⟨n1, e1, hD⟩ := dInt_elim hD; obtain ⟨p5, e5, hD⟩ := dPtr_elim hD; obtain ⟨n6, e6, hD⟩ := dInt_elim hD; obtain ⟨n7, e7, hD⟩ := dInt_elim hD; exact F4_3_ok R J1 l0 n1 p5 n6 n7 ds' w' ρ' e0 e1 e5 e6 e7 hD) h
theorem F4_5_ok (R : Rt) (l0 : SV) (n1 : Int) (p5 : Option Addr) (n6 : Int) (n7 : Int) (ds : Ds) (w : World) (ρ : Env) (e0 : ρ 0 = .slice l0.a l0.len l0.cap) (e1 : ρ 1 = .int .i64 n1) (e5 : ρ 5 = .pointer p5) (e6 : ρ 6 = .int .u8 n6) (e7 : ρ 7 = .int .i64 n7) (h : F4_5 R l0 n1 p5 n6 n7 ds w) :
    TrL Try.prog Try.f4.ntmps [c4_9_0] (F4_q4 R) ρ ds w :=
  TrL_one (Tr_loop' (c := innerC c4_9_0) (σ := Int × Int) (enc := (fun (s : Int × Int) (ρ : Env) => ρ 6 = .int .u8 s.1 ∧ ρ 7 = .int .i64 s.2)) (D := (fun ρ K => dInt .u8 (ρ 6) fun n6 => dInt .i64 (ρ 7) fun n7 => K (n6, n7))) (F := (fun (J1 : (Int × Int) → World → Prop) (s : Int × Int) (w : World) => F4_4 R J1 l0 n1 p5 s.1 s.2 ds w)) (s0 := (n6, n7)) (by kernel_rfl) c4_9_0_l ⟨e6, e7⟩ (by kernel_rfl) (fun ρ K hD => by obtain ⟨n6, e6, hD⟩ := dInt_elim hD; obtain ⟨n7, e7, hD⟩ := dInt_elim hD; exact ⟨(n6, n7), ⟨e6, e7⟩, hD⟩)
      (fun J1 s ρ' w' he ha hF => by
      obtain ⟨e6', e7'⟩ := he
      exact F4_4_ok R J1 l0 n1 p5 s.1 s.2 ds w' ρ' ((ha 0 (by kernel_rfl)).trans e0) ((ha 1 (by kernel_rfl)).trans e1) ((ha 5 (by kernel_rfl)).trans e5) e6' e7' hF) h)
theorem F4_6_ok (R : Rt) (l0 : SV) (n1 : Int) (p5 : Option Addr) (n6 : Int) (n7 : Int) (ds : Ds) (w : World) (ρ : Env) (e0 : ρ 0 = .slice l0.a l0.len l0.cap) (e1 : ρ 1 = .int .i64 n1) (e5 : ρ 5 = .pointer p5) (e6 : ρ 6 = .int .u8 n6) (e7 : ρ 7 = .int .i64 n7) (h : F4_6 R l0 n1 p5 n6 n7 ds w) :
    TrL Try.prog Try.f4.ntmps [c4_9, c4_10, c4_11] (F4_q1 R) ρ ds w :=
  TrL_head (K := (F4_k2 R)) (Tr_block' (c := innerC c4_9) (by kernel_rfl) c4_9_l (F4_5_ok R l0 n1 p5 n6 n7 ds w ρ e0 e1 e5 e6 e7 h))
    (fun ρ' ds' w' hD => by
      exact F4_1_ok R ds' w' ρ'  hD)
theorem F4_7_ok (R : Rt) (l0 : SV) (n1 : Int) (ds : Ds) (w : World) (ρ : Env) (e0 : ρ 0 = .slice l0.a l0.len l0.cap) (e1 : ρ 1 = .int .i64 n1) (h : F4_7 R l0 n1 ds w) :
    TrL Try.prog Try.f4.ntmps [c4_0, c4_1, c4_2, c4_3, c4_4, c4_5, c4_6, c4_7, c4_8, c4_9, c4_10, c4_11] (F4_q1 R) ρ ds w :=
  TrL_piece (pre := [c4_0, c4_1, c4_2, c4_3, c4_4, c4_5, c4_6, c4_7, c4_8]) (K := (F4_k8 R)) (X := F4_7 R l0 n1 ds w) (setAll_cons e0 (setAll_cons e1 setAll_nil)) (by kernel_rfl) (by kernel_rfl)
    (fun ρ' ds' w' hD => by
      obtain ⟨l0, e0, hD⟩ := dSl_elim hD; obtain ⟨n1, e1, hD⟩ := dInt_elim hD; obtain ⟨p5, e5, hD⟩ := dPtr_elim hD; obtain ⟨n6, e6, hD⟩ := dInt_elim hD; obtain ⟨n7, e7, hD⟩ := dInt_elim hD; exact F4_6_ok R l0 n1 p5 n6 n7 ds' w' ρ' e0 e1 e5 e6 e7 hD) h
theorem F4_calls (l0 : SV) (n1 : Int) (w : World) (R : Rt) (h : F4_7 R l0 n1 [] w) : Calls Try.prog 4 #[.slice l0.a l0.len l0.cap, .int .i64 n1] w R :=
  calls_of_L (l := [c4_0, c4_1, c4_2, c4_3, c4_4, c4_5, c4_6, c4_7, c4_8, c4_9, c4_10, c4_11]) Try.func4 (by kernel_rfl) (by rw [Try.ntmps4]; exact Nat.le_of_ble_eq_true (by kernel_rfl)) c4_l
    (F4_7_ok R l0 n1 [] w _ rfl rfl h)
theorem F4_callsD (l0 : SV) (n1 : Int) (w : World) (R : Rt) (u : FrameMode) (h : F4_7 R l0 n1 [] w) : CallsD Try.prog 4 #[.slice l0.a l0.len l0.cap, .int .i64 n1] u w fun e u' w' => u' = u ∧ R e w' :=
  callsD_of_L (l := [c4_0, c4_1, c4_2, c4_3, c4_4, c4_5, c4_6, c4_7, c4_8, c4_9, c4_10, c4_11]) Try.func4 (by kernel_rfl) (by rw [Try.ntmps4]; exact Nat.le_of_ble_eq_true (by kernel_rfl)) (by kernel_rfl) c4_l
    (F4_7_ok R l0 n1 [] w _ rfl rfl h) u

/-! function 5: cabinetry/disk.New -/
noncomputable def c5_0 : Code := itemAt (flat (bodyOf Try.f5)) 0
noncomputable def c5_1 : Code := itemAt (flat (bodyOf Try.f5)) 1
noncomputable def c5_2 : Code := itemAt (flat (bodyOf Try.f5)) 2
noncomputable def c5_3 : Code := itemAt (flat (bodyOf Try.f5)) 3
noncomputable def c5_4 : Code := itemAt (flat (bodyOf Try.f5)) 4
noncomputable def c5_5 : Code := itemAt (flat (bodyOf Try.f5)) 5
noncomputable def c5_3_0 : Code := itemAt (flat (innerC c5_3)) 0
noncomputable def c5_3_0_0 : Code := itemAt (flat (innerC c5_3_0)) 0
noncomputable def c5_3_0_1 : Code := itemAt (flat (innerC c5_3_0)) 1
noncomputable def c5_3_0_2 : Code := itemAt (flat (innerC c5_3_0)) 2
noncomputable def c5_3_0_3 : Code := itemAt (flat (innerC c5_3_0)) 3
def F5_q1 (R : Rt) : EQ := endQ Try.prog Try.f5.results.toList R
def F5_1 (R : Rt) (p1 : Option Addr) (ds : Ds) (w : World) : Prop :=
 runD Try.prog ds w fun w1 =>
 R (.returned (.pointer p1)) w1
def F5_k2 (R : Rt) : EP := (fun ρ ds w => dPtr (ρ 1) fun p1 => F5_1 R p1 ds w)
def F5_q3 (R : Rt) : EQ := (thenQ (F5_k2 R) (F5_q1 R))
def F5_q4 (R : Rt) : EQ := (blockQ 0 (F5_q3 R))
def F5_q5 (R : Rt) (J1 : (Int) → World → Prop) : EQ := (thenQ (fun ρ _ w => dInt .i64 (ρ 6) fun n6 => J1 n6 w) (F5_q4 R))
def F5_2 (R : Rt) (J1 : (Int) → World → Prop) (p1 : Option Addr) (n6 : Int) (ds : Ds) (w : World) : Prop :=
 Br (decide (n6 < 4)) (
 alE (.map #[] 0) w fun r11 w2 =>
 ptrE p1 fun a3 =>
 0 ≤ n6 ∧ n6 < ((4 : Nat) : Int) ∧
 st1 ((a3.add 3).add (n6.toNat * 1)) (.map (some r11)) w2 fun w4 =>
 J1 (IntKind.i64.wrap (n6 + 1)) w4) (
 F5_1 R p1 ds w)
def F5_3 (R : Rt) (p1 : Option Addr) (n6 : Int) (ds : Ds) (w : World) : Prop :=
 loopT (fun (J1 : (Int) → World → Prop) (s : Int) (w : World) => F5_2 R J1 p1 s ds w) n6 w
@[reducible] def F5_4 (R : Rt) (p1 : Option Addr) (n6 : Int) (ds : Ds) (w : World) : Prop := F5_3 R p1 n6 ds w
def F5_k6 (R : Rt) : EP := (fun ρ ds w => dPtr (ρ 1) fun p1 => dInt .i64 (ρ 6) fun n6 => F5_4 R p1 n6 ds w)
def F5_5 (R : Rt) (ds : Ds) (w : World) : Prop :=
 alE (.map #[] 0) w fun r3 w5 =>
 alE (.cells #[.int .i32 0, .int .u32 0, .map (some r3), .map none, .map none, .map none, .map none, .slice none 0 0] 52) w5 fun r5 w6 =>
 F5_4 R (some (⟨r5, 0, none⟩ : Addr)) 0 ds w6
theorem c5_l : flat (bodyOf Try.f5) = [c5_0, c5_1, c5_2, c5_3, c5_4, c5_5] := by kernel_rfl
theorem c5_3_l : flat (innerC c5_3) = [c5_3_0] := by kernel_rfl
theorem c5_3_0_l : flat (innerC c5_3_0) = [c5_3_0_0, c5_3_0_1, c5_3_0_2, c5_3_0_3] := by kernel_rfl
theorem F5_1_ok (R : Rt) (p1 : Option Addr) (ds : Ds) (w : World) (ρ : Env) (e1 : ρ 1 = .pointer p1) (h : F5_1 R p1 ds w) :
    TrL Try.prog Try.f5.ntmps [c5_4, c5_5] (F5_q1 R) ρ ds w :=
  TrL_leaf (X := F5_1 R p1 ds w) (setAll_cons e1 setAll_nil) (by kernel_rfl) (by kernel_rfl) h
theorem F5_2_ok (R : Rt) (J1 : (Int) → World → Prop) (p1 : Option Addr) (n6 : Int) (ds : Ds) (w : World) (ρ : Env) (e1 : ρ 1 = .pointer p1) (e6 : ρ 6 = .int .i64 n6) (h : F5_2 R J1 p1 n6 ds w) :
    TrL Try.prog Try.f5.ntmps [c5_3_0_0, c5_3_0_1, c5_3_0_2, c5_3_0_3] (F5_q5 R J1) ρ ds w :=
  TrL_leaf (X := F5_2 R J1 p1 n6 ds w) (setAll_cons e1 (setAll_cons e6 setAll_nil)) (by kernel_rfl) (by kernel_rfl) h
theorem F5_3_ok (R : Rt) (p1 : Option Addr) (n6 : Int) (ds : Ds) (w : World) (ρ : Env) (e1 : ρ 1 = .pointer p1) (e6 : ρ 6 = .int .i64 n6) (h : F5_3 R p1 n6 ds w) :
    TrL Try.prog Try.f5.ntmps [c5_3_0] (F5_q4 R) ρ ds w :=
  TrL_one (Tr_loop' (c := innerC c5_3_0) (σ := Int) (enc := (fun (s : Int) (ρ : Env) => ρ 6 = .int .i64 s)) (D := (fun ρ K => dInt .i64 (ρ 6) fun n6 => K n6)) (F := (fun (J1 : (Int) → World → Prop) (s : Int) (w : World) => F5_2 R J1 p1 s ds w)) (s0 := n6) (by kernel_rfl) c5_3_0_l e6 (by kernel_rfl) (fun ρ K hD => by obtain ⟨n6, e6, hD⟩ := dInt_elim hD; exact ⟨n6, e6, hD⟩)
      (fun J1 s ρ' w' he ha hF => by
      have e6' := he
      exact F5_2_ok R J1 p1 s ds w' ρ' ((ha 1 (by kernel_rfl)).trans e1) e6' hF) h)
theorem F5_4_ok (R : Rt) (p1 : Option Addr) (n6 : Int) (ds : Ds) (w : World) (ρ : Env) (e1 : ρ 1 = .pointer p1) (e6 : ρ 6 = .int .i64 n6) (h : F5_4 R p1 n6 ds w) :
    TrL Try.prog Try.f5.ntmps [c5_3, c5_4, c5_5] (F5_q1 R) ρ ds w :=
  TrL_head (K := (F5_k2 R)) (Tr_block' (c := innerC c5_3) (by kernel_rfl) c5_3_l (F5_3_ok R p1 n6 ds w ρ e1 e6 h))
    (fun ρ' ds' w' hD => by
      obtain ⟨p1, e1, hD⟩ := dPtr_elim hD; exact F5_1_ok R p1 ds' w' ρ' e1 hD)
theorem F5_5_ok (R : Rt) (ds : Ds) (w : World) (ρ : Env) (h : F5_5 R ds w) :
    TrL Try.prog Try.f5.ntmps [c5_0, c5_1, c5_2, c5_3, c5_4, c5_5] (F5_q1 R) ρ ds w :=
  TrL_piece (pre := [c5_0, c5_1, c5_2]) (K := (F5_k6 R)) (X := F5_5 R ds w) setAll_nil (by kernel_rfl) (by kernel_rfl)
    (fun ρ' ds' w' hD => by
      obtain ⟨p1, e1, hD⟩ := dPtr_elim hD; obtain ⟨n6, e6, hD⟩ := dInt_elim hD; exact F5_4_ok R p1 n6 ds' w' ρ' e1 e6 hD) h
theorem F5_calls  (w : World) (R : Rt) (h : F5_5 R [] w) : Calls Try.prog 5 #[] w R :=
  calls_of_L (l := [c5_0, c5_1, c5_2, c5_3, c5_4, c5_5]) Try.func5 (by kernel_rfl) (by rw [Try.ntmps5]; exact Nat.le_of_ble_eq_true (by kernel_rfl)) c5_l
    (F5_5_ok R [] w _  h)
theorem F5_callsD  (w : World) (R : Rt) (u : FrameMode) (h : F5_5 R [] w) : CallsD Try.prog 5 #[] u w fun e u' w' => u' = u ∧ R e w' :=
  callsD_of_L (l := [c5_0, c5_1, c5_2, c5_3, c5_4, c5_5]) Try.func5 (by kernel_rfl) (by rw [Try.ntmps5]; exact Nat.le_of_ble_eq_true (by kernel_rfl)) (by kernel_rfl) c5_l
    (F5_5_ok R [] w _  h) u

/-! function 6: (*cabinetry/disk.System).Make -/
noncomputable def c6_0 : Code := itemAt (flat (bodyOf Try.f6)) 0
noncomputable def c6_1 : Code := itemAt (flat (bodyOf Try.f6)) 1
noncomputable def c6_2 : Code := itemAt (flat (bodyOf Try.f6)) 2
noncomputable def c6_3 : Code := itemAt (flat (bodyOf Try.f6)) 3
noncomputable def c6_4 : Code := itemAt (flat (bodyOf Try.f6)) 4
noncomputable def c6_5 : Code := itemAt (flat (bodyOf Try.f6)) 5
noncomputable def c6_6 : Code := itemAt (flat (bodyOf Try.f6)) 6
def F6_q1 (R : Rt) : EQ := endQ Try.prog Try.f6.results.toList R
def F6_1 (R : Rt) (p0 : Option Addr) (s1 : ByteArray) (ds : Ds) (w : World) : Prop :=
 Calls Try.prog 15 #[.pointer p0, .int .i64 0, .string s1] w fun e w1 =>
 ∃ v10_0 : Value, ∃ n10_1 : Int, e = .returned (.tuple #[v10_0, .int .i64 n10_1]) ∧
 fnE v10_0 fun fx firstx capx =>
 Br (n10_1 == 0) (
 runD Try.prog ({ target := .fn (.func fx) capx, args := (firstx.toList ++ ([] : List Value)).toArray } :: ds) w1 fun w2 =>
 R (.returned (.int .i64 5)) w2) (
 Br (n10_1 != 4) (
 runD Try.prog ({ target := .fn (.func fx) capx, args := (firstx.toList ++ ([] : List Value)).toArray } :: ds) w1 fun w3 =>
 R (.returned (.int .i64 n10_1)) w3) (
 ptrE p0 fun a4 =>
 ∃ m25 : Option Nat, w1.cell? (a4.add 2) = some (.map m25) ∧
 ∃ n26 : Int, ∃ w5 : World, (Builtin.len_ #[40] 3 #[.map m25]).run Try.prog w1 = .ok (.int .i64 n26) w5 ∧
 Br (decide (n26 ≥ 8)) (
 runD Try.prog ({ target := .fn (.func fx) capx, args := (firstx.toList ++ ([] : List Value)).toArray } :: ds) w5 fun w6 =>
 R (.returned (.int .i64 3)) w6) (
 ptrE p0 fun a7 =>
 ∃ m31 : Option Nat, w5.cell? (a7.add 2) = some (.map m31) ∧
 doE Try.prog (Instr.mapUpdate 40 (.map m31) (.string s1) (.slice none 0 0)) w5 fun w8 =>
 runD Try.prog ({ target := .fn (.func fx) capx, args := (firstx.toList ++ ([] : List Value)).toArray } :: ds) w8 fun w9 =>
 R (.returned (.int .i64 0)) w9)))
theorem c6_l : flat (bodyOf Try.f6) = [c6_0, c6_1, c6_2, c6_3, c6_4, c6_5, c6_6] := by kernel_rfl
theorem F6_1_ok (R : Rt) (p0 : Option Addr) (s1 : ByteArray) (ds : Ds) (w : World) (ρ : Env) (e0 : ρ 0 = .pointer p0) (e1 : ρ 1 = .string s1) (h : F6_1 R p0 s1 ds w) :
    TrL Try.prog Try.f6.ntmps [c6_0, c6_1, c6_2, c6_3, c6_4, c6_5, c6_6] (F6_q1 R) ρ ds w :=
  TrL_leaf (X := F6_1 R p0 s1 ds w) (setAll_cons e0 (setAll_cons e1 setAll_nil)) (by kernel_rfl) (by kernel_rfl) h
theorem F6_calls (p0 : Option Addr) (s1 : ByteArray) (w : World) (R : Rt) (h : F6_1 R p0 s1 [] w) : Calls Try.prog 6 #[.pointer p0, .string s1] w R :=
  calls_of_L (l := [c6_0, c6_1, c6_2, c6_3, c6_4, c6_5, c6_6]) Try.func6 (by kernel_rfl) (by rw [Try.ntmps6]; exact Nat.le_of_ble_eq_true (by kernel_rfl)) c6_l
    (F6_1_ok R p0 s1 [] w _ rfl rfl h)

/-! function 7: (*cabinetry/disk.System).Resize -/
noncomputable def c7_0 : Code := itemAt (flat (bodyOf Try.f7)) 0
noncomputable def c7_1 : Code := itemAt (flat (bodyOf Try.f7)) 1
noncomputable def c7_2 : Code := itemAt (flat (bodyOf Try.f7)) 2
noncomputable def c7_3 : Code := itemAt (flat (bodyOf Try.f7)) 3
noncomputable def c7_4 : Code := itemAt (flat (bodyOf Try.f7)) 4
noncomputable def c7_5 : Code := itemAt (flat (bodyOf Try.f7)) 5
noncomputable def c7_6 : Code := itemAt (flat (bodyOf Try.f7)) 6
noncomputable def c7_7 : Code := itemAt (flat (bodyOf Try.f7)) 7
noncomputable def c7_8 : Code := itemAt (flat (bodyOf Try.f7)) 8
noncomputable def c7_9 : Code := itemAt (flat (bodyOf Try.f7)) 9
noncomputable def c7_10 : Code := itemAt (flat (bodyOf Try.f7)) 10
noncomputable def c7_11 : Code := itemAt (flat (bodyOf Try.f7)) 11
noncomputable def c7_12 : Code := itemAt (flat (bodyOf Try.f7)) 12
noncomputable def c7_13 : Code := itemAt (flat (bodyOf Try.f7)) 13
noncomputable def c7_11_0 : Code := itemAt (flat (innerC c7_11)) 0
noncomputable def c7_11_0_0 : Code := itemAt (flat (innerC c7_11_0)) 0
noncomputable def c7_11_0_1 : Code := itemAt (flat (innerC c7_11_0)) 1
noncomputable def c7_11_0_2 : Code := itemAt (flat (innerC c7_11_0)) 2
noncomputable def c7_11_0_3 : Code := itemAt (flat (innerC c7_11_0)) 3
def F7_q1 (R : Rt) : EQ := endQ Try.prog Try.f7.results.toList R
def F7_1 (R : Rt) (ds : Ds) (w : World) : Prop :=
 runD Try.prog ds w fun w1 =>
 R (.returned (.int .i64 0)) w1
def F7_k2 (R : Rt) : EP := (fun ρ ds w => F7_1 R ds w)
def F7_q3 (R : Rt) : EQ := (thenQ (F7_k2 R) (F7_q1 R))
def F7_q4 (R : Rt) : EQ := (blockQ 0 (F7_q3 R))
def F7_q5 (R : Rt) (J1 : (Int) → World → Prop) : EQ := (thenQ (fun ρ _ w => dInt .i64 (ρ 43) fun n43 => J1 n43 w) (F7_q4 R))
def F7_2 (R : Rt) (J1 : (Int) → World → Prop) (p0 : Option Addr) (s1 : ByteArray) (n2 : Int) (n43 : Int) (ds : Ds) (w : World) : Prop :=
 Br (decide (n43 < 4)) (
 Calls Try.prog 16 #[.pointer p0, .int .i64 n43, .string s1, .int .i64 n2] w fun e w2 =>
 e = .returned (.tuple #[]) ∧
 J1 (IntKind.i64.wrap (n43 + 1)) w2) (
 F7_1 R ds w)
def F7_3 (R : Rt) (p0 : Option Addr) (s1 : ByteArray) (n2 : Int) (n43 : Int) (ds : Ds) (w : World) : Prop :=
 loopT (fun (J1 : (Int) → World → Prop) (s : Int) (w : World) => F7_2 R J1 p0 s1 n2 s ds w) n43 w
@[reducible] def F7_4 (R : Rt) (p0 : Option Addr) (s1 : ByteArray) (n2 : Int) (n43 : Int) (ds : Ds) (w : World) : Prop := F7_3 R p0 s1 n2 n43 ds w
def F7_k6 (R : Rt) : EP := (fun ρ ds w => dPtr (ρ 0) fun p0 => dStr (ρ 1) fun s1 => dInt .i64 (ρ 2) fun n2 => dInt .i64 (ρ 43) fun n43 => F7_4 R p0 s1 n2 n43 ds w)
def F7_5 (R : Rt) (p0 : Option Addr) (s1 : ByteArray) (n2 : Int) (ds : Ds) (w : World) : Prop :=
 Calls Try.prog 15 #[.pointer p0, .int .i64 0, .string s1] w fun e w3 =>
 ∃ v14_0 : Value, ∃ n14_1 : Int, e = .returned (.tuple #[v14_0, .int .i64 n14_1]) ∧
 fnE v14_0 fun fx firstx capx =>
 Br (n14_1 != 0) (
 runD Try.prog ({ target := .fn (.func fx) capx, args := (firstx.toList ++ ([] : List Value)).toArray } :: ds) w3 fun w4 =>
 R (.returned (.int .i64 n14_1)) w4) (
 Br (decide (n2 < 0)) (
 runD Try.prog ({ target := .fn (.func fx) capx, args := (firstx.toList ++ ([] : List Value)).toArray } :: ds) w3 fun w5 =>
 R (.returned (.int .i64 1)) w5) (
 Br (decide (n2 > 65536)) (
 runD Try.prog ({ target := .fn (.func fx) capx, args := (firstx.toList ++ ([] : List Value)).toArray } :: ds) w3 fun w6 =>
 R (.returned (.int .i64 1)) w6) (
 ∃ l28 : SV, ∃ w7 : World, (Instr.makeSlice 29 (.int .i64 n2) (.int .i64 n2)).run Try.prog w3 = .ok (.slice l28.a l28.len l28.cap) w7 ∧
 ptrE p0 fun a8 =>
 ∃ m33 : Option Nat, w7.cell? (a8.add 2) = some (.map m33) ∧
 ∃ l35 : SV, ∃ w9 : World, (Instr.lookup 40 (.map m33) (.string s1) false).run Try.prog w7 = .ok (.slice l35.a l35.len l35.cap) w9 ∧
 ∃ n36 : Int, ∃ w10 : World, (Builtin.copy_ #[29, 29] 3 #[.slice l28.a l28.len l28.cap, .slice l35.a l35.len l35.cap]).run Try.prog w9 = .ok (.int .i64 n36) w10 ∧
 ptrE p0 fun a11 =>
 ∃ m40 : Option Nat, w10.cell? (a11.add 2) = some (.map m40) ∧
 doE Try.prog (Instr.mapUpdate 40 (.map m40) (.string s1) (.slice l28.a l28.len l28.cap)) w10 fun w12 =>
 F7_4 R p0 s1 n2 0 ({ target := .fn (.func fx) capx, args := (firstx.toList ++ ([] : List Value)).toArray } :: ds) w12)))
theorem c7_l : flat (bodyOf Try.f7) = [c7_0, c7_1, c7_2, c7_3, c7_4, c7_5, c7_6, c7_7, c7_8, c7_9, c7_10, c7_11, c7_12, c7_13] := by kernel_rfl
theorem c7_11_l : flat (innerC c7_11) = [c7_11_0] := by kernel_rfl
theorem c7_11_0_l : flat (innerC c7_11_0) = [c7_11_0_0, c7_11_0_1, c7_11_0_2, c7_11_0_3] := by kernel_rfl
theorem F7_1_ok (R : Rt) (ds : Ds) (w : World) (ρ : Env) (h : F7_1 R ds w) :
    TrL Try.prog Try.f7.ntmps [c7_12, c7_13] (F7_q1 R) ρ ds w :=
  TrL_leaf (X := F7_1 R ds w) setAll_nil (by kernel_rfl) (by kernel_rfl) h
theorem F7_2_ok (R : Rt) (J1 : (Int) → World → Prop) (p0 : Option Addr) (s1 : ByteArray) (n2 : Int) (n43 : Int) (ds : Ds) (w : World) (ρ : Env) (e0 : ρ 0 = .pointer p0) (e1 : ρ 1 = .string s1) (e2 : ρ 2 = .int .i64 n2) (e43 : ρ 43 = .int .i64 n43) (h : F7_2 R J1 p0 s1 n2 n43 ds w) :
    TrL Try.prog Try.f7.ntmps [c7_11_0_0, c7_11_0_1, c7_11_0_2, c7_11_0_3] (F7_q5 R J1) ρ ds w :=
  TrL_leaf (X := F7_2 R J1 p0 s1 n2 n43 ds w) (setAll_cons e0 (setAll_cons e1 (setAll_cons e2 (setAll_cons e43 setAll_nil)))) (by kernel_rfl) (by kernel_rfl) h
theorem F7_3_ok (R : Rt) (p0 : Option Addr) (s1 : ByteArray) (n2 : Int) (n43 : Int) (ds : Ds) (w : World) (ρ : Env) (e0 : ρ 0 = .pointer p0) (e1 : ρ 1 = .string s1) (e2 : ρ 2 = .int .i64 n2) (e43 : ρ 43 = .int .i64 n43) (h : F7_3 R p0 s1 n2 n43 ds w) :
    TrL Try.prog Try.f7.ntmps [c7_11_0] (F7_q4 R) ρ ds w :=
  TrL_one (Tr_loop' (c := innerC c7_11_0) (σ := Int) (enc := (fun (s : Int) (ρ : Env) => ρ 43 = .int .i64 s)) (D := (fun ρ K => dInt .i64 (ρ 43) fun n43 => K n43)) (F := (fun (J1 : (Int) → World → Prop) (s : Int) (w : World) => F7_2 R J1 p0 s1 n2 s ds w)) (s0 := n43) (by kernel_rfl) c7_11_0_l e43 (by kernel_rfl) (fun ρ K hD => by obtain ⟨n43, e43, hD⟩ := dInt_elim hD; exact ⟨n43, e43, hD⟩)
      (fun J1 s ρ' w' he ha hF => by
      have e43' := he
      exact F7_2_ok R J1 p0 s1 n2 s ds w' ρ' ((ha 0 (by kernel_rfl)).trans e0) ((ha 1 (by kernel_rfl)).trans e1) ((ha 2 (by kernel_rfl)).trans e2) e43' hF) h)
theorem F7_4_ok (R : Rt) (p0 : Option Addr) (s1 : ByteArray) (n2 : Int) (n43 : Int) (ds : Ds) (w : World) (ρ : Env) (e0 : ρ 0 = .pointer p0) (e1 : ρ 1 = .string s1) (e2 : ρ 2 = .int .i64 n2) (e43 : ρ 43 = .int .i64 n43) (h : F7_4 R p0 s1 n2 n43 ds w) :
    TrL Try.prog Try.f7.ntmps [c7_11, c7_12, c7_13] (F7_q1 R) ρ ds w :=
  TrL_head (K := (F7_k2 R)) (Tr_block' (c := innerC c7_11) (by kernel_rfl) c7_11_l (F7_3_ok R p0 s1 n2 n43 ds w ρ e0 e1 e2 e43 h))
    (fun ρ' ds' w' hD => by
      exact F7_1_ok R ds' w' ρ'  hD)
theorem F7_5_ok (R : Rt) (p0 : Option Addr) (s1 : ByteArray) (n2 : Int) (ds : Ds) (w : World) (ρ : Env) (e0 : ρ 0 = .pointer p0) (e1 : ρ 1 = .string s1) (e2 : ρ 2 = .int .i64 n2) (h : F7_5 R p0 s1 n2 ds w) :
    TrL Try.prog Try.f7.ntmps [c7_0, c7_1, c7_2, c7_3, c7_4, c7_5, c7_6, c7_7, c7_8, c7_9, c7_10, c7_11, c7_12, c7_13] (F7_q1 R) ρ ds w :=
  TrL_piece (pre := [c7_0, c7_1, c7_2, c7_3, c7_4, c7_5, c7_6, c7_7, c7_8, c7_9, c7_10]) (K := (F7_k6 R)) (X := F7_5 R p0 s1 n2 ds w) (setAll_cons e0 (setAll_cons e1 (setAll_cons e2 setAll_nil))) (by kernel_rfl) (by kernel_rfl)
    (fun ρ' ds' w' hD => by
      obtain ⟨p0, e0, hD⟩ := dPtr_elim hD; obtain ⟨s1, e1, hD⟩ := dStr_elim hD; obtain ⟨n2, e2, hD⟩ := dInt_elim hD; obtain ⟨n43, e43, hD⟩ := dInt_elim hD; exact F7_4_ok R p0 s1 n2 n43 ds' w' ρ' e0 e1 e2 e43 hD) h
theorem F7_calls (p0 : Option Addr) (s1 : ByteArray) (n2 : Int) (w : World) (R : Rt) (h : F7_5 R p0 s1 n2 [] w) : Calls Try.prog 7 #[.pointer p0, .string s1, .int .i64 n2] w R :=
  calls_of_L (l := [c7_0, c7_1, c7_2, c7_3, c7_4, c7_5, c7_6, c7_7, c7_8, c7_9, c7_10, c7_11, c7_12, c7_13]) Try.func7 (by kernel_rfl) (by rw [Try.ntmps7]; exact Nat.le_of_ble_eq_true (by kernel_rfl)) c7_l
    (F7_5_ok R p0 s1 n2 [] w _ rfl rfl rfl h)

/-! function 8: (*cabinetry/disk.System).Write -/
noncomputable def c8_0 : Code := itemAt (flat (bodyOf Try.f8)) 0
noncomputable def c8_1 : Code := itemAt (flat (bodyOf Try.f8)) 1
noncomputable def c8_2 : Code := itemAt (flat (bodyOf Try.f8)) 2
noncomputable def c8_3 : Code := itemAt (flat (bodyOf Try.f8)) 3
noncomputable def c8_4 : Code := itemAt (flat (bodyOf Try.f8)) 4
noncomputable def c8_5 : Code := itemAt (flat (bodyOf Try.f8)) 5
noncomputable def c8_6 : Code := itemAt (flat (bodyOf Try.f8)) 6
noncomputable def c8_7 : Code := itemAt (flat (bodyOf Try.f8)) 7
noncomputable def c8_8 : Code := itemAt (flat (bodyOf Try.f8)) 8
noncomputable def c8_9 : Code := itemAt (flat (bodyOf Try.f8)) 9
def F8_q1 (R : Rt) : EQ := endQ Try.prog Try.f8.results.toList R
def F8_1 (R : Rt) (p0 : Option Addr) (n1 : Int) (s2 : ByteArray) (n3 : Int) (l4 : SV) (ds : Ds) (w : World) : Prop :=
 alE (.cells #[.slice l4.a l4.len l4.cap] 29) w fun r9 w1 =>
 Calls Try.prog 15 #[.pointer p0, .int .i64 n1, .string s2] w1 fun e w2 =>
 ∃ v17_0 : Value, ∃ n17_1 : Int, e = .returned (.tuple #[v17_0, .int .i64 n17_1]) ∧
 fnE v17_0 fun fx firstx capx =>
 Br (n17_1 != 0) (
 runD Try.prog ({ target := .fn (.func fx) capx, args := (firstx.toList ++ ([] : List Value)).toArray } :: ds) w2 fun w3 =>
 R (.returned (.int .i64 n17_1)) w3) (
 dwE w2 fun w4 =>
 Br (decide (n3 < 0)) (
 runD Try.prog ({ target := .fn (.func fx) capx, args := (firstx.toList ++ ([] : List Value)).toArray } :: ds) w4 fun w5 =>
 R (.returned (.int .i64 1)) w5) (
 ptrE p0 fun a6 =>
 ∃ m31 : Option Nat, w4.cell? (a6.add 2) = some (.map m31) ∧
 ∃ l33 : SV, (Instr.lookup 40 (.map m31) (.string s2) false).run Try.prog w4 = .ok (.slice l33.a l33.len l33.cap) w4 ∧
 Br (decide (n3 > ((l33.len : Nat) : Int))) (
 runD Try.prog ({ target := .fn (.func fx) capx, args := (firstx.toList ++ ([] : List Value)).toArray } :: ds) w4 fun w7 =>
 R (.returned (.int .i64 1)) w7) (
 ∃ l38 : SV, w4.cell? (⟨r9, 0, none⟩ : Addr) = some (.slice l38.a l38.len l38.cap) ∧
 ptrE p0 fun a8 =>
 ∃ m43 : Option Nat, w4.cell? (a8.add 2) = some (.map m43) ∧
 ∃ l45 : SV, (Instr.lookup 40 (.map m43) (.string s2) false).run Try.prog w4 = .ok (.slice l45.a l45.len l45.cap) w4 ∧
 Br (decide (((l38.len : Nat) : Int) > (IntKind.i64.wrap (((l45.len : Nat) : Int) - n3)))) (
 runD Try.prog ({ target := .fn (.func fx) capx, args := (firstx.toList ++ ([] : List Value)).toArray } :: ds) w4 fun w9 =>
 R (.returned (.int .i64 1)) w9) (
 ∃ l55 : SV, w4.cell? (⟨r9, 0, none⟩ : Addr) = some (.slice l55.a l55.len l55.cap) ∧
 Calls Try.prog 17 #[.pointer p0, .int .i64 n1, .string s2, .int .i64 n3, .int .i64 ((l55.len : Nat) : Int), .func (.func 18) #[] #[.pointer (some (⟨r9, 0, none⟩ : Addr))]] w4 fun e w10 =>
 e = .returned (.tuple #[]) ∧
 runD Try.prog ({ target := .fn (.func fx) capx, args := (firstx.toList ++ ([] : List Value)).toArray } :: ds) w10 fun w11 =>
 R (.returned (.int .i64 0)) w11))))
theorem c8_l : flat (bodyOf Try.f8) = [c8_0, c8_1, c8_2, c8_3, c8_4, c8_5, c8_6, c8_7, c8_8, c8_9] := by kernel_rfl
theorem F8_1_ok (R : Rt) (p0 : Option Addr) (n1 : Int) (s2 : ByteArray) (n3 : Int) (l4 : SV) (ds : Ds) (w : World) (ρ : Env) (e0 : ρ 0 = .pointer p0) (e1 : ρ 1 = .int .i64 n1) (e2 : ρ 2 = .string s2) (e3 : ρ 3 = .int .i64 n3) (e4 : ρ 4 = .slice l4.a l4.len l4.cap) (h : F8_1 R p0 n1 s2 n3 l4 ds w) :
    TrL Try.prog Try.f8.ntmps [c8_0, c8_1, c8_2, c8_3, c8_4, c8_5, c8_6, c8_7, c8_8, c8_9] (F8_q1 R) ρ ds w :=
  TrL_leaf (X := F8_1 R p0 n1 s2 n3 l4 ds w) (setAll_cons e0 (setAll_cons e1 (setAll_cons e2 (setAll_cons e3 (setAll_cons e4 setAll_nil))))) (by kernel_rfl) (by kernel_rfl) h
theorem F8_calls (p0 : Option Addr) (n1 : Int) (s2 : ByteArray) (n3 : Int) (l4 : SV) (w : World) (R : Rt) (h : F8_1 R p0 n1 s2 n3 l4 [] w) : Calls Try.prog 8 #[.pointer p0, .int .i64 n1, .string s2, .int .i64 n3, .slice l4.a l4.len l4.cap] w R :=
  calls_of_L (l := [c8_0, c8_1, c8_2, c8_3, c8_4, c8_5, c8_6, c8_7, c8_8, c8_9]) Try.func8 (by kernel_rfl) (by rw [Try.ntmps8]; exact Nat.le_of_ble_eq_true (by kernel_rfl)) c8_l
    (F8_1_ok R p0 n1 s2 n3 l4 [] w _ rfl rfl rfl rfl rfl h)

/-! function 9: (*cabinetry/disk.System).Flush -/
noncomputable def c9_0 : Code := itemAt (flat (bodyOf Try.f9)) 0
noncomputable def c9_1 : Code := itemAt (flat (bodyOf Try.f9)) 1
noncomputable def c9_2 : Code := itemAt (flat (bodyOf Try.f9)) 2
noncomputable def c9_3 : Code := itemAt (flat (bodyOf Try.f9)) 3
noncomputable def c9_4 : Code := itemAt (flat (bodyOf Try.f9)) 4
noncomputable def c9_5 : Code := itemAt (flat (bodyOf Try.f9)) 5
noncomputable def c9_6 : Code := itemAt (flat (bodyOf Try.f9)) 6
noncomputable def c9_7 : Code := itemAt (flat (bodyOf Try.f9)) 7
noncomputable def c9_8 : Code := itemAt (flat (bodyOf Try.f9)) 8
noncomputable def c9_9 : Code := itemAt (flat (bodyOf Try.f9)) 9
noncomputable def c9_7_0 : Code := itemAt (flat (innerC c9_7)) 0
noncomputable def c9_7_0_0 : Code := itemAt (flat (innerC c9_7_0)) 0
noncomputable def c9_7_0_1 : Code := itemAt (flat (innerC c9_7_0)) 1
noncomputable def c9_7_0_2 : Code := itemAt (flat (innerC c9_7_0)) 2
noncomputable def c9_7_0_3 : Code := itemAt (flat (innerC c9_7_0)) 3
def F9_q1 (R : Rt) : EQ := endQ Try.prog Try.f9.results.toList R
def F9_1 (R : Rt) (n10 : Int) (ds : Ds) (w : World) : Prop :=
 runD Try.prog ds w fun w1 =>
 R (.returned (.tuple #[.int .i64 n10, .int .i64 0])) w1
def F9_k2 (R : Rt) : EP := (fun ρ ds w => dInt .i64 (ρ 10) fun n10 => F9_1 R n10 ds w)
def F9_q3 (R : Rt) : EQ := (thenQ (F9_k2 R) (F9_q1 R))
def F9_q4 (R : Rt) : EQ := (blockQ 0 (F9_q3 R))
def F9_q5 (R : Rt) (J1 : (Int × Int) → World → Prop) : EQ := (thenQ (fun ρ _ w => dInt .i64 (ρ 10) fun n10 => dInt .i64 (ρ 29) fun n29 => J1 (n10, n29) w) (F9_q4 R))
def F9_2 (R : Rt) (J1 : (Int × Int) → World → Prop) (p0 : Option Addr) (n1 : Int) (n10 : Int) (l27 : SV) (n28 : Int) (n29 : Int) (ds : Ds) (w : World) : Prop :=
 Br (decide (n29 < n28)) (
 ∃ a2 : Addr, l27.a = some a2 ∧ 0 ≤ n29 ∧ n29 < ((l27.len : Nat) : Int) ∧
 ∃ s32_0 : ByteArray, w.cell? ((a2.add (n29.toNat * 2)).add 0) = some (.string s32_0) ∧
 ∃ n32_1 : Int, w.cell? ((a2.add (n29.toNat * 2)).add 1) = some (.int .i64 n32_1) ∧
 alE (.cells #[.string (⟨#[]⟩ : ByteArray), .int .i64 0] 66) w fun r12 w3 =>
 stA Try.prog 66 (⟨r12, 0, none⟩ : Addr) #[.string s32_0, .int .i64 n32_1] w3 fun w4 =>
 ∃ s36_0 : ByteArray, w4.cell? ((⟨r12, 0, none⟩ : Addr).add 0) = some (.string s36_0) ∧
 ∃ n36_1 : Int, w4.cell? ((⟨r12, 0, none⟩ : Addr).add 1) = some (.int .i64 n36_1) ∧
 Calls Try.prog 20 #[.pointer p0, .int .i64 n1, .agg #[.string s36_0, .int .i64 n36_1]] w4 fun e w5 =>
 ∃ n37 : Int, e = .returned (.int .i64 n37) ∧
 J1 ((IntKind.i64.wrap (n10 + n37)), (IntKind.i64.wrap (n29 + 1))) w5) (
 F9_1 R n10 ds w)
def F9_3 (R : Rt) (p0 : Option Addr) (n1 : Int) (n10 : Int) (l27 : SV) (n28 : Int) (n29 : Int) (ds : Ds) (w : World) : Prop :=
 loopT (fun (J1 : (Int × Int) → World → Prop) (s : Int × Int) (w : World) => F9_2 R J1 p0 n1 s.1 l27 n28 s.2 ds w) (n10, n29) w
@[reducible] def F9_4 (R : Rt) (p0 : Option Addr) (n1 : Int) (n10 : Int) (l27 : SV) (n28 : Int) (n29 : Int) (ds : Ds) (w : World) : Prop := F9_3 R p0 n1 n10 l27 n28 n29 ds w
def F9_k6 (R : Rt) : EP := (fun ρ ds w => dPtr (ρ 0) fun p0 => dInt .i64 (ρ 1) fun n1 => dInt .i64 (ρ 10) fun n10 => dSl (ρ 27) fun l27 => dInt .i64 (ρ 28) fun n28 => dInt .i64 (ρ 29) fun n29 => F9_4 R p0 n1 n10 l27 n28 n29 ds w)
def F9_5 (R : Rt) (p0 : Option Addr) (n1 : Int) (s2 : ByteArray) (ds : Ds) (w : World) : Prop :=
 Calls Try.prog 15 #[.pointer p0, .int .i64 n1, .string s2] w fun e w6 =>
 ∃ v17_0 : Value, ∃ n17_1 : Int, e = .returned (.tuple #[v17_0, .int .i64 n17_1]) ∧
 fnE v17_0 fun fx firstx capx =>
 Br (n17_1 != 0) (
 runD Try.prog ({ target := .fn (.func fx) capx, args := (firstx.toList ++ ([] : List Value)).toArray } :: ds) w6 fun w7 =>
 R (.returned (.tuple #[.int .i64 0, .int .i64 n17_1])) w7) (
 Calls Try.prog 19 #[.pointer p0, .int .i64 n1, .string s2, .int .i64 0, .int .i64 65536] w6 fun e w8 =>
 ∃ l27 : SV, e = .returned (.slice l27.a l27.len l27.cap) ∧
 F9_4 R p0 n1 0 l27 ((l27.len : Nat) : Int) 0 ({ target := .fn (.func fx) capx, args := (firstx.toList ++ ([] : List Value)).toArray } :: ds) w8)
theorem c9_l : flat (bodyOf Try.f9) = [c9_0, c9_1, c9_2, c9_3, c9_4, c9_5, c9_6, c9_7, c9_8, c9_9] := by kernel_rfl
theorem c9_7_l : flat (innerC c9_7) = [c9_7_0] := by kernel_rfl
theorem c9_7_0_l : flat (innerC c9_7_0) = [c9_7_0_0, c9_7_0_1, c9_7_0_2, c9_7_0_3] := by kernel_rfl
theorem F9_1_ok (R : Rt) (n10 : Int) (ds : Ds) (w : World) (ρ : Env) (e10 : ρ 10 = .int .i64 n10) (h : F9_1 R n10 ds w) :
    TrL Try.prog Try.f9.ntmps [c9_8, c9_9] (F9_q1 R) ρ ds w :=
  TrL_leaf (X := F9_1 R n10 ds w) (setAll_cons e10 setAll_nil) (by kernel_rfl) (by kernel_rfl) h
theorem F9_2_ok (R : Rt) (J1 : (Int × Int) → World → Prop) (p0 : Option Addr) (n1 : Int) (n10 : Int) (l27 : SV) (n28 : Int) (n29 : Int) (ds : Ds) (w : World) (ρ : Env) (e0 : ρ 0 = .pointer p0) (e1 : ρ 1 = .int .i64 n1) (e10 : ρ 10 = .int .i64 n10) (e27 : ρ 27 = .slice l27.a l27.len l27.cap) (e28 : ρ 28 = .int .i64 n28) (e29 : ρ 29 = .int .i64 n29) (h : F9_2 R J1 p0 n1 n10 l27 n28 n29 ds w) :
    TrL Try.prog Try.f9.ntmps [c9_7_0_0, c9_7_0_1, c9_7_0_2, c9_7_0_3] (F9_q5 R J1) ρ ds w :=
  TrL_leaf (X := F9_2 R J1 p0 n1 n10 l27 n28 n29 ds w) (setAll_cons e0 (setAll_cons e1 (setAll_cons e10 (setAll_cons e27 (setAll_cons e28 (setAll_cons e29 setAll_nil)))))) (by kernel_rfl) (by kernel_rfl) h
theorem F9_3_ok (R : Rt) (p0 : Option Addr) (n1 : Int) (n10 : Int) (l27 : SV) (n28 : Int) (n29 : Int) (ds : Ds) (w : World) (ρ : Env) (e0 : ρ 0 = .pointer p0) (e1 : ρ 1 = .int .i64 n1) (e10 : ρ 10 = .int .i64 n10) (e27 : ρ 27 = .slice l27.a l27.len l27.cap) (e28 : ρ 28 = .int .i64 n28) (e29 : ρ 29 = .int .i64 n29) (h : F9_3 R p0 n1 n10 l27 n28 n29 ds w) :
    TrL Try.prog Try.f9.ntmps [c9_7_0] (F9_q4 R) ρ ds w :=
  TrL_one (Tr_loop' (c := innerC c9_7_0) (σ := Int × Int) (enc := (fun (s : Int × Int) (ρ : Env) => ρ 10 = .int .i64 s.1 ∧ ρ 29 = .int .i64 s.2)) (D := (fun ρ K => dInt .i64 (ρ 10) fun n10 => dInt .i64 (ρ 29) fun n29 => K (n10, n29))) (F := (fun (J1 : (Int × Int) → World → Prop) (s : Int × Int) (w : World) => F9_2 R J1 p0 n1 s.1 l27 n28 s.2 ds w)) (s0 := (n10, n29)) (by kernel_rfl) c9_7_0_l ⟨e10, e29⟩ (by kernel_rfl) (fun ρ K hD => by obtain ⟨n10, e10, hD⟩ := dInt_elim hD; obtain ⟨n29, e29, hD⟩ := dInt_elim hD; exact ⟨(n10, n29), ⟨e10, e29⟩, hD⟩)
      (fun J1 s ρ' w' he ha hF => by
      obtain ⟨e10', e29'⟩ := he
      exact F9_2_ok R J1 p0 n1 s.1 l27 n28 s.2 ds w' ρ' ((ha 0 (by kernel_rfl)).trans e0) ((ha 1 (by kernel_rfl)).trans e1) e10' ((ha 27 (by kernel_rfl)).trans e27) ((ha 28 (by kernel_rfl)).trans e28) e29' hF) h)
theorem F9_4_ok (R : Rt) (p0 : Option Addr) (n1 : Int) (n10 : Int) (l27 : SV) (n28 : Int) (n29 : Int) (ds : Ds) (w : World) (ρ : Env) (e0 : ρ 0 = .pointer p0) (e1 : ρ 1 = .int .i64 n1) (e10 : ρ 10 = .int .i64 n10) (e27 : ρ 27 = .slice l27.a l27.len l27.cap) (e28 : ρ 28 = .int .i64 n28) (e29 : ρ 29 = .int .i64 n29) (h : F9_4 R p0 n1 n10 l27 n28 n29 ds w) :
    TrL Try.prog Try.f9.ntmps [c9_7, c9_8, c9_9] (F9_q1 R) ρ ds w :=
  TrL_head (K := (F9_k2 R)) (Tr_block' (c := innerC c9_7) (by kernel_rfl) c9_7_l (F9_3_ok R p0 n1 n10 l27 n28 n29 ds w ρ e0 e1 e10 e27 e28 e29 h))
    (fun ρ' ds' w' hD => by
      obtain ⟨n10, e10, hD⟩ := dInt_elim hD; exact F9_1_ok R n10 ds' w' ρ' e10 hD)
theorem F9_5_ok (R : Rt) (p0 : Option Addr) (n1 : Int) (s2 : ByteArray) (ds : Ds) (w : World) (ρ : Env) (e0 : ρ 0 = .pointer p0) (e1 : ρ 1 = .int .i64 n1) (e2 : ρ 2 = .string s2) (h : F9_5 R p0 n1 s2 ds w) :
    TrL Try.prog Try.f9.ntmps [c9_0, c9_1, c9_2, c9_3, c9_4, c9_5, c9_6, c9_7, c9_8, c9_9] (F9_q1 R) ρ ds w :=
  TrL_piece (pre := [c9_0, c9_1, c9_2, c9_3, c9_4, c9_5, c9_6]) (K := (F9_k6 R)) (X := F9_5 R p0 n1 s2 ds w) (setAll_cons e0 (setAll_cons e1 (setAll_cons e2 setAll_nil))) (by kernel_rfl) (by kernel_rfl)
    (fun ρ' ds' w' hD => by
      obtain ⟨p0, e0, hD⟩ := dPtr_elim hD; obtain ⟨n1, e1, hD⟩ := dInt_elim hD; obtain ⟨n10, e10, hD⟩ := dInt_elim hD; obtain ⟨l27, e27, hD⟩ := dSl_elim hD; obtain ⟨n28, e28, hD⟩ := dInt_elim hD; obtain ⟨n29, e29, hD⟩ := dInt_elim hD; exact F9_4_ok R p0 n1 n10 l27 n28 n29 ds' w' ρ' e0 e1 e10 e27 e28 e29 hD) h
theorem F9_calls (p0 : Option Addr) (n1 : Int) (s2 : ByteArray) (w : World) (R : Rt) (h : F9_5 R p0 n1 s2 [] w) : Calls Try.prog 9 #[.pointer p0, .int .i64 n1, .string s2] w R :=
  calls_of_L (l := [c9_0, c9_1, c9_2, c9_3, c9_4, c9_5, c9_6, c9_7, c9_8, c9_9]) Try.func9 (by kernel_rfl) (by rw [Try.ntmps9]; exact Nat.le_of_ble_eq_true (by kernel_rfl)) c9_l
    (F9_5_ok R p0 n1 s2 [] w _ rfl rfl rfl h)

/-! function 10: (*cabinetry/disk.System).Disk -/
noncomputable def c10_0 : Code := itemAt (flat (bodyOf Try.f10)) 0
noncomputable def c10_1 : Code := itemAt (flat (bodyOf Try.f10)) 1
noncomputable def c10_2 : Code := itemAt (flat (bodyOf Try.f10)) 2
noncomputable def c10_3 : Code := itemAt (flat (bodyOf Try.f10)) 3
noncomputable def c10_4 : Code := itemAt (flat (bodyOf Try.f10)) 4
noncomputable def c10_5 : Code := itemAt (flat (bodyOf Try.f10)) 5
noncomputable def c10_6 : Code := itemAt (flat (bodyOf Try.f10)) 6
def F10_q1 (R : Rt) : EQ := endQ Try.prog Try.f10.results.toList R
def F10_1 (R : Rt) (p0 : Option Addr) (s1 : ByteArray) (ds : Ds) (w : World) : Prop :=
 Calls Try.prog 15 #[.pointer p0, .int .i64 0, .string s1] w fun e w1 =>
 ∃ v11_0 : Value, ∃ n11_1 : Int, e = .returned (.tuple #[v11_0, .int .i64 n11_1]) ∧
 fnE v11_0 fun fx firstx capx =>
 Br (n11_1 != 0) (
 runD Try.prog ({ target := .fn (.func fx) capx, args := (firstx.toList ++ ([] : List Value)).toArray } :: ds) w1 fun w2 =>
 R (.returned (.tuple #[.slice none 0 0, .int .i64 n11_1])) w2) (
 ptrE p0 fun a3 =>
 ∃ m21 : Option Nat, w1.cell? (a3.add 2) = some (.map m21) ∧
 ∃ l23 : SV, ∃ w4 : World, (Instr.lookup 40 (.map m21) (.string s1) false).run Try.prog w1 = .ok (.slice l23.a l23.len l23.cap) w4 ∧
 Calls Try.prog 21 #[.slice l23.a l23.len l23.cap] w4 fun e w5 =>
 ∃ l24 : SV, e = .returned (.slice l24.a l24.len l24.cap) ∧
 runD Try.prog ({ target := .fn (.func fx) capx, args := (firstx.toList ++ ([] : List Value)).toArray } :: ds) w5 fun w6 =>
 R (.returned (.tuple #[.slice l24.a l24.len l24.cap, .int .i64 0])) w6)
theorem c10_l : flat (bodyOf Try.f10) = [c10_0, c10_1, c10_2, c10_3, c10_4, c10_5, c10_6] := by kernel_rfl
theorem F10_1_ok (R : Rt) (p0 : Option Addr) (s1 : ByteArray) (ds : Ds) (w : World) (ρ : Env) (e0 : ρ 0 = .pointer p0) (e1 : ρ 1 = .string s1) (h : F10_1 R p0 s1 ds w) :
    TrL Try.prog Try.f10.ntmps [c10_0, c10_1, c10_2, c10_3, c10_4, c10_5, c10_6] (F10_q1 R) ρ ds w :=
  TrL_leaf (X := F10_1 R p0 s1 ds w) (setAll_cons e0 (setAll_cons e1 setAll_nil)) (by kernel_rfl) (by kernel_rfl) h
theorem F10_calls (p0 : Option Addr) (s1 : ByteArray) (w : World) (R : Rt) (h : F10_1 R p0 s1 [] w) : Calls Try.prog 10 #[.pointer p0, .string s1] w R :=
  calls_of_L (l := [c10_0, c10_1, c10_2, c10_3, c10_4, c10_5, c10_6]) Try.func10 (by kernel_rfl) (by rw [Try.ntmps10]; exact Nat.le_of_ble_eq_true (by kernel_rfl)) c10_l
    (F10_1_ok R p0 s1 [] w _ rfl rfl h)

/-! function 11: cabinetry/cabinetrylaw19.known -/
noncomputable def c11_0 : Code := itemAt (flat (bodyOf Try.f11)) 0
noncomputable def c11_1 : Code := itemAt (flat (bodyOf Try.f11)) 1
noncomputable def c11_2 : Code := itemAt (flat (bodyOf Try.f11)) 2
noncomputable def c11_3 : Code := itemAt (flat (bodyOf Try.f11)) 3
noncomputable def c11_4 : Code := itemAt (flat (bodyOf Try.f11)) 4
noncomputable def c11_5 : Code := itemAt (flat (bodyOf Try.f11)) 5
noncomputable def c11_6 : Code := itemAt (flat (bodyOf Try.f11)) 6
noncomputable def c11_7 : Code := itemAt (flat (bodyOf Try.f11)) 7
noncomputable def c11_8 : Code := itemAt (flat (bodyOf Try.f11)) 8
noncomputable def c11_9 : Code := itemAt (flat (bodyOf Try.f11)) 9
noncomputable def c11_10 : Code := itemAt (flat (bodyOf Try.f11)) 10
noncomputable def c11_11 : Code := itemAt (flat (bodyOf Try.f11)) 11
def F11_q1 (R : Rt) : EQ := endQ Try.prog Try.f11.results.toList R
def F11_1 (R : Rt) (b0 : Bool) (ds : Ds) (w : World) : Prop :=
 runD Try.prog ds w fun w1 =>
 R (.returned (.bool b0)) w1
def F11_k2 (R : Rt) : EP := (fun ρ ds w => dBl (ρ 0) fun b0 => F11_1 R b0 ds w)
def F11_2 (R : Rt) (n2 : Int) (n3 : Int) (l4 : SV) (n5 : Int) (n6 : Int) (l7 : SV) (n8 : Int) (ds : Ds) (w : World) : Prop :=
 Br (n2 == 1) (
 Br (n3 == 0) (
 Br (n5 == 0) (
 Br (n6 == 0) (
 Br (n8 == 0) (
 ∃ s64 : ByteArray, ∃ w2 : World, (convert 29 9 (.slice l4.a l4.len l4.cap)).run Try.prog w = .ok (.string s64) w2 ∧
 Br (s64.toList == (⟨#[0]⟩ : ByteArray).toList) (
 ∃ s69 : ByteArray, ∃ w3 : World, (convert 29 9 (.slice l7.a l7.len l7.cap)).run Try.prog w2 = .ok (.string s69) w3 ∧
 F11_1 R (s69.toList == (⟨#[7]⟩ : ByteArray).toList) ds w3) (
 F11_1 R false ds w2)) (
 F11_1 R false ds w)) (
 F11_1 R false ds w)) (
 F11_1 R false ds w)) (
 F11_1 R false ds w)) (
 F11_1 R false ds w)
def F11_k3 (R : Rt) : EP := (fun ρ ds w => dInt .i64 (ρ 2) fun n2 => dInt .i64 (ρ 3) fun n3 => dSl (ρ 4) fun l4 => dInt .i64 (ρ 5) fun n5 => dInt .i64 (ρ 6) fun n6 => dSl (ρ 7) fun l7 => dInt .i64 (ρ 8) fun n8 => F11_2 R n2 n3 l4 n5 n6 l7 n8 ds w)
def F11_3 (R : Rt) (p1 : Option Addr) (n2 : Int) (n3 : Int) (l4 : SV) (n5 : Int) (n6 : Int) (ds : Ds) (w : World) : Prop :=
 Calls Try.prog 12 #[.pointer p1, .int .i64 0, .string (⟨#[70]⟩ : ByteArray), .int .i64 0, .int .i64 1] w fun e w4 =>
 ∃ l41_0 : SV, ∃ n41_1 : Int, e = .returned (.tuple #[.slice l41_0.a l41_0.len l41_0.cap, .int .i64 n41_1]) ∧
 F11_2 R n2 n3 l4 n5 n6 l41_0 n41_1 ds w4
def F11_k4 (R : Rt) : EP := (fun ρ ds w => dPtr (ρ 1) fun p1 => dInt .i64 (ρ 2) fun n2 => dInt .i64 (ρ 3) fun n3 => dSl (ρ 4) fun l4 => dInt .i64 (ρ 5) fun n5 => dInt .i64 (ρ 6) fun n6 => F11_3 R p1 n2 n3 l4 n5 n6 ds w)
def F11_4 (R : Rt) (ds : Ds) (w : World) : Prop :=
 Calls Try.prog 5 #[] w fun e w5 =>
 ∃ p9 : Option Addr, e = .returned (.pointer p9) ∧
 ∃ b11 : Bool, ∃ w6 : World, (eqS .eql 23 (.tmp 10) (.const (.pointer none)) (.pointer p9) (.pointer none)).run Try.prog w5 = .ok (.bool b11) w6 ∧
 Br b11 (
 runD Try.prog ds w6 fun w7 =>
 R (.returned (.bool false)) w7) (
 Calls Try.prog 6 #[.pointer p9, .string (⟨#[70]⟩ : ByteArray)] w6 fun e w8 =>
 ∃ n14 : Int, e = .returned (.int .i64 n14) ∧
 Br (n14 != 0) (
 runD Try.prog ds w8 fun w9 =>
 R (.returned (.bool false)) w9) (
 Calls Try.prog 7 #[.pointer p9, .string (⟨#[70]⟩ : ByteArray), .int .i64 4] w8 fun e w10 =>
 ∃ n19 : Int, e = .returned (.int .i64 n19) ∧
 Br (n19 != 0) (
 runD Try.prog ds w10 fun w11 =>
 R (.returned (.bool false)) w11) (
 Calls Try.prog 12 #[.pointer p9, .int .i64 0, .string (⟨#[70]⟩ : ByteArray), .int .i64 0, .int .i64 1] w10 fun e w12 =>
 ∃ l23_0 : SV, ∃ n23_1 : Int, e = .returned (.tuple #[.slice l23_0.a l23_0.len l23_0.cap, .int .i64 n23_1]) ∧
 alE (.cells #[.int .u8 7] 5) w12 fun r25 w13 =>
 Calls Try.prog 8 #[.pointer p9, .int .i64 1, .string (⟨#[70]⟩ : ByteArray), .int .i64 0, .slice (some ⟨r25, 0, none⟩) 1 1] w13 fun e w14 =>
 ∃ n26 : Int, e = .returned (.int .i64 n26) ∧
 Calls Try.prog 9 #[.pointer p9, .int .i64 1, .string (⟨#[70]⟩ : ByteArray)] w14 fun e w15 =>
 ∃ n29_0 : Int, ∃ n29_1 : Int, e = .returned (.tuple #[.int .i64 n29_0, .int .i64 n29_1]) ∧
 Calls Try.prog 12 #[.pointer p9, .int .i64 0, .string (⟨#[70]⟩ : ByteArray), .int .i64 0, .int .i64 1] w15 fun e w16 =>
 ∃ l34_0 : SV, ∃ n34_1 : Int, e = .returned (.tuple #[.slice l34_0.a l34_0.len l34_0.cap, .int .i64 n34_1]) ∧
 Calls Try.prog 13 #[.pointer p9, .int .i64 0, .string (⟨#[70]⟩ : ByteArray), .int .i64 0, .int .i64 1] w16 fun e w17 =>
 ∃ n38 : Int, e = .returned (.int .i64 n38) ∧
 F11_3 R p9 n29_0 n29_1 l34_0 n34_1 n38 ds w17)))
theorem c11_l : flat (bodyOf Try.f11) = [c11_0, c11_1, c11_2, c11_3, c11_4, c11_5, c11_6, c11_7, c11_8, c11_9, c11_10, c11_11] := by kernel_rfl
theorem F11_1_ok (R : Rt) (b0 : Bool) (ds : Ds) (w : World) (ρ : Env) (e0 : ρ 0 = .bool b0) (h : F11_1 R b0 ds w) :
    TrL Try.prog Try.f11.ntmps [c11_11] (F11_q1 R) ρ ds w :=
  TrL_leaf (X := F11_1 R b0 ds w) (setAll_cons e0 setAll_nil) (by kernel_rfl) (by kernel_rfl) h
theorem F11_2_ok (R : Rt) (n2 : Int) (n3 : Int) (l4 : SV) (n5 : Int) (n6 : Int) (l7 : SV) (n8 : Int) (ds : Ds) (w : World) (ρ : Env) (e2 : ρ 2 = .int .i64 n2) (e3 : ρ 3 = .int .i64 n3) (e4 : ρ 4 = .slice l4.a l4.len l4.cap) (e5 : ρ 5 = .int .i64 n5) (e6 : ρ 6 = .int .i64 n6) (e7 : ρ 7 = .slice l7.a l7.len l7.cap) (e8 : ρ 8 = .int .i64 n8) (h : F11_2 R n2 n3 l4 n5 n6 l7 n8 ds w) :
    TrL Try.prog Try.f11.ntmps [c11_10, c11_11] (F11_q1 R) ρ ds w :=
  TrL_piece (pre := [c11_10]) (K := (F11_k2 R)) (X := F11_2 R n2 n3 l4 n5 n6 l7 n8 ds w) (setAll_cons e2 (setAll_cons e3 (setAll_cons e4 (setAll_cons e5 (setAll_cons e6 (setAll_cons e7 (setAll_cons e8 setAll_nil))))))) (by kernel_rfl) (by kernel_rfl)
    (fun ρ' ds' w' hD => by
      obtain ⟨b0, e0, hD⟩ := dBl_elim hD; exact F11_1_ok R b0 ds' w' ρ' e0 hD) h
theorem F11_3_ok (R : Rt) (p1 : Option Addr) (n2 : Int) (n3 : Int) (l4 : SV) (n5 : Int) (n6 : Int) (ds : Ds) (w : World) (ρ : Env) (e1 : ρ 1 = .pointer p1) (e2 : ρ 2 = .int .i64 n2) (e3 : ρ 3 = .int .i64 n3) (e4 : ρ 4 = .slice l4.a l4.len l4.cap) (e5 : ρ 5 = .int .i64 n5) (e6 : ρ 6 = .int .i64 n6) (h : F11_3 R p1 n2 n3 l4 n5 n6 ds w) :
    TrL Try.prog Try.f11.ntmps [c11_9, c11_10, c11_11] (F11_q1 R) ρ ds w :=
  TrL_piece (pre := [c11_9]) (K := (F11_k3 R)) (X := F11_3 R p1 n2 n3 l4 n5 n6 ds w) (setAll_cons e1 (setAll_cons e2 (setAll_cons e3 (setAll_cons e4 (setAll_cons e5 (setAll_cons e6 setAll_nil)))))) (by kernel_rfl) (by kernel_rfl)
    (fun ρ' ds' w' hD => by
      obtain ⟨n2, e2, hD⟩ := dInt_elim hD; obtain ⟨n3, e3, hD⟩ := dInt_elim hD; obtain ⟨l4, e4, hD⟩ := dSl_elim hD; obtain ⟨n5, e5, hD⟩ := dInt_elim hD; obtain ⟨n6, e6, hD⟩ := dInt_elim hD; obtain ⟨l7, e7, hD⟩ := dSl_elim hD; obtain ⟨n8, e8, hD⟩ := dInt_elim hD; exact F11_2_ok R n2 n3 l4 n5 n6 l7 n8 ds' w' ρ' e2 e3 e4 e5 e6 e7 e8 hD) h
theorem F11_4_ok (R : Rt) (ds : Ds) (w : World) (ρ : Env) (h : F11_4 R ds w) :
    TrL Try.prog Try.f11.ntmps [c11_0, c11_1, c11_2, c11_3, c11_4, c11_5, c11_6, c11_7, c11_8, c11_9, c11_10, c11_11] (F11_q1 R) ρ ds w :=
  TrL_piece (pre := [c11_0, c11_1, c11_2, c11_3, c11_4, c11_5, c11_6, c11_7, c11_8]) (K := (F11_k4 R)) (X := F11_4 R ds w) setAll_nil (by kernel_rfl) (by kernel_rfl)
    (fun ρ' ds' w' hD => by
      obtain ⟨p1, e1, hD⟩ := dPtr_elim hD; obtain ⟨n2, e2, hD⟩ := dInt_elim hD; obtain ⟨n3, e3, hD⟩ := dInt_elim hD; obtain ⟨l4, e4, hD⟩ := dSl_elim hD; obtain ⟨n5, e5, hD⟩ := dInt_elim hD; obtain ⟨n6, e6, hD⟩ := dInt_elim hD; exact F11_3_ok R p1 n2 n3 l4 n5 n6 ds' w' ρ' e1 e2 e3 e4 e5 e6 hD) h
theorem F11_calls  (w : World) (R : Rt) (h : F11_4 R [] w) : Calls Try.prog 11 #[] w R :=
  calls_of_L (l := [c11_0, c11_1, c11_2, c11_3, c11_4, c11_5, c11_6, c11_7, c11_8, c11_9, c11_10, c11_11]) Try.func11 (by kernel_rfl) (by rw [Try.ntmps11]; exact Nat.le_of_ble_eq_true (by kernel_rfl)) c11_l
    (F11_4_ok R [] w _  h)
theorem F11_callsD  (w : World) (R : Rt) (u : FrameMode) (h : F11_4 R [] w) : CallsD Try.prog 11 #[] u w fun e u' w' => u' = u ∧ R e w' :=
  callsD_of_L (l := [c11_0, c11_1, c11_2, c11_3, c11_4, c11_5, c11_6, c11_7, c11_8, c11_9, c11_10, c11_11]) Try.func11 (by kernel_rfl) (by rw [Try.ntmps11]; exact Nat.le_of_ble_eq_true (by kernel_rfl)) (by kernel_rfl) c11_l
    (F11_4_ok R [] w _  h) u

/-! function 12: (*cabinetry/disk.System).Read -/
noncomputable def c12_0 : Code := itemAt (flat (bodyOf Try.f12)) 0
noncomputable def c12_1 : Code := itemAt (flat (bodyOf Try.f12)) 1
noncomputable def c12_2 : Code := itemAt (flat (bodyOf Try.f12)) 2
noncomputable def c12_3 : Code := itemAt (flat (bodyOf Try.f12)) 3
noncomputable def c12_4 : Code := itemAt (flat (bodyOf Try.f12)) 4
noncomputable def c12_5 : Code := itemAt (flat (bodyOf Try.f12)) 5
noncomputable def c12_6 : Code := itemAt (flat (bodyOf Try.f12)) 6
noncomputable def c12_7 : Code := itemAt (flat (bodyOf Try.f12)) 7
noncomputable def c12_8 : Code := itemAt (flat (bodyOf Try.f12)) 8
noncomputable def c12_9 : Code := itemAt (flat (bodyOf Try.f12)) 9
noncomputable def c12_10 : Code := itemAt (flat (bodyOf Try.f12)) 10
def F12_q1 (R : Rt) : EQ := endQ Try.prog Try.f12.results.toList R
def F12_1 (R : Rt) (p0 : Option Addr) (n1 : Int) (s2 : ByteArray) (n3 : Int) (n4 : Int) (ds : Ds) (w : World) : Prop :=
 Calls Try.prog 15 #[.pointer p0, .int .i64 n1, .string s2] w fun e w1 =>
 ∃ v19_0 : Value, ∃ n19_1 : Int, e = .returned (.tuple #[v19_0, .int .i64 n19_1]) ∧
 fnE v19_0 fun fx firstx capx =>
 Br (n19_1 != 0) (
 runD Try.prog ({ target := .fn (.func fx) capx, args := (firstx.toList ++ ([] : List Value)).toArray } :: ds) w1 fun w2 =>
 R (.returned (.tuple #[.slice none 0 0, .int .i64 n19_1])) w2) (
 Br (decide (n3 < 0)) (
 runD Try.prog ({ target := .fn (.func fx) capx, args := (firstx.toList ++ ([] : List Value)).toArray } :: ds) w1 fun w3 =>
 R (.returned (.tuple #[.slice none 0 0, .int .i64 1])) w3) (
 Br (decide (n4 < 0)) (
 runD Try.prog ({ target := .fn (.func fx) capx, args := (firstx.toList ++ ([] : List Value)).toArray } :: ds) w1 fun w4 =>
 R (.returned (.tuple #[.slice none 0 0, .int .i64 1])) w4) (
 ptrE p0 fun a5 =>
 ∃ m37 : Option Nat, w1.cell? (a5.add 2) = some (.map m37) ∧
 ∃ l39 : SV, ∃ w6 : World, (Instr.lookup 40 (.map m37) (.string s2) false).run Try.prog w1 = .ok (.slice l39.a l39.len l39.cap) w6 ∧
 Br (decide (n3 > ((l39.len : Nat) : Int))) (
 runD Try.prog ({ target := .fn (.func fx) capx, args := (firstx.toList ++ ([] : List Value)).toArray } :: ds) w6 fun w7 =>
 R (.returned (.tuple #[.slice none 0 0, .int .i64 1])) w7) (
 ptrE p0 fun a8 =>
 ∃ m48 : Option Nat, w6.cell? (a8.add 2) = some (.map m48) ∧
 ∃ l50 : SV, ∃ w9 : World, (Instr.lookup 40 (.map m48) (.string s2) false).run Try.prog w6 = .ok (.slice l50.a l50.len l50.cap) w9 ∧
 Br (decide (n4 > (IntKind.i64.wrap (((l50.len : Nat) : Int) - n3)))) (
 runD Try.prog ({ target := .fn (.func fx) capx, args := (firstx.toList ++ ([] : List Value)).toArray } :: ds) w9 fun w10 =>
 R (.returned (.tuple #[.slice none 0 0, .int .i64 1])) w10) (
 ∃ l57 : SV, ∃ w11 : World, (Instr.makeSlice 29 (.int .i64 n4) (.int .i64 n4)).run Try.prog w9 = .ok (.slice l57.a l57.len l57.cap) w11 ∧
 alE (.cells #[.slice none 0 0] 29) w11 fun r14 w12 =>
 st1 (⟨r14, 0, none⟩ : Addr) (.slice l57.a l57.len l57.cap) w12 fun w13 =>
 Calls Try.prog 17 #[.pointer p0, .int .i64 n1, .string s2, .int .i64 n3, .int .i64 n4, .func (.func 22) #[] #[.pointer (some (⟨r14, 0, none⟩ : Addr))]] w13 fun e w14 =>
 e = .returned (.tuple #[]) ∧
 ∃ l65 : SV, w14.cell? (⟨r14, 0, none⟩ : Addr) = some (.slice l65.a l65.len l65.cap) ∧
 runD Try.prog ({ target := .fn (.func fx) capx, args := (firstx.toList ++ ([] : List Value)).toArray } :: ds) w14 fun w15 =>
 R (.returned (.tuple #[.slice l65.a l65.len l65.cap, .int .i64 0])) w15)))))
theorem c12_l : flat (bodyOf Try.f12) = [c12_0, c12_1, c12_2, c12_3, c12_4, c12_5, c12_6, c12_7, c12_8, c12_9, c12_10] := by kernel_rfl
theorem F12_1_ok (R : Rt) (p0 : Option Addr) (n1 : Int) (s2 : ByteArray) (n3 : Int) (n4 : Int) (ds : Ds) (w : World) (ρ : Env) (e0 : ρ 0 = .pointer p0) (e1 : ρ 1 = .int .i64 n1) (e2 : ρ 2 = .string s2) (e3 : ρ 3 = .int .i64 n3) (e4 : ρ 4 = .int .i64 n4) (h : F12_1 R p0 n1 s2 n3 n4 ds w) :
    TrL Try.prog Try.f12.ntmps [c12_0, c12_1, c12_2, c12_3, c12_4, c12_5, c12_6, c12_7, c12_8, c12_9, c12_10] (F12_q1 R) ρ ds w :=
  TrL_leaf (X := F12_1 R p0 n1 s2 n3 n4 ds w) (setAll_cons e0 (setAll_cons e1 (setAll_cons e2 (setAll_cons e3 (setAll_cons e4 setAll_nil))))) (by kernel_rfl) (by kernel_rfl) h
theorem F12_calls (p0 : Option Addr) (n1 : Int) (s2 : ByteArray) (n3 : Int) (n4 : Int) (w : World) (R : Rt) (h : F12_1 R p0 n1 s2 n3 n4 [] w) : Calls Try.prog 12 #[.pointer p0, .int .i64 n1, .string s2, .int .i64 n3, .int .i64 n4] w R :=
  calls_of_L (l := [c12_0, c12_1, c12_2, c12_3, c12_4, c12_5, c12_6, c12_7, c12_8, c12_9, c12_10]) Try.func12 (by kernel_rfl) (by rw [Try.ntmps12]; exact Nat.le_of_ble_eq_true (by kernel_rfl)) c12_l
    (F12_1_ok R p0 n1 s2 n3 n4 [] w _ rfl rfl rfl rfl rfl h)

/-! function 13: (*cabinetry/disk.System).Lock -/
noncomputable def c13_0 : Code := itemAt (flat (bodyOf Try.f13)) 0
noncomputable def c13_1 : Code := itemAt (flat (bodyOf Try.f13)) 1
noncomputable def c13_2 : Code := itemAt (flat (bodyOf Try.f13)) 2
noncomputable def c13_3 : Code := itemAt (flat (bodyOf Try.f13)) 3
noncomputable def c13_4 : Code := itemAt (flat (bodyOf Try.f13)) 4
noncomputable def c13_5 : Code := itemAt (flat (bodyOf Try.f13)) 5
noncomputable def c13_6 : Code := itemAt (flat (bodyOf Try.f13)) 6
noncomputable def c13_7 : Code := itemAt (flat (bodyOf Try.f13)) 7
noncomputable def c13_8 : Code := itemAt (flat (bodyOf Try.f13)) 8
noncomputable def c13_9 : Code := itemAt (flat (bodyOf Try.f13)) 9
noncomputable def c13_10 : Code := itemAt (flat (bodyOf Try.f13)) 10
noncomputable def c13_11 : Code := itemAt (flat (bodyOf Try.f13)) 11
noncomputable def c13_12 : Code := itemAt (flat (bodyOf Try.f13)) 12
noncomputable def c13_13 : Code := itemAt (flat (bodyOf Try.f13)) 13
noncomputable def c13_14 : Code := itemAt (flat (bodyOf Try.f13)) 14
noncomputable def c13_15 : Code := itemAt (flat (bodyOf Try.f13)) 15
noncomputable def c13_16 : Code := itemAt (flat (bodyOf Try.f13)) 16
noncomputable def c13_14_0 : Code := itemAt (flat (innerC c13_14)) 0
noncomputable def c13_14_0_0 : Code := itemAt (flat (innerC c13_14_0)) 0
noncomputable def c13_14_0_1 : Code := itemAt (flat (innerC c13_14_0)) 1
noncomputable def c13_14_0_2 : Code := itemAt (flat (innerC c13_14_0)) 2
noncomputable def c13_14_0_3 : Code := itemAt (flat (innerC c13_14_0)) 3
noncomputable def c13_14_0_2_0 : Code := itemAt (flat (innerC c13_14_0_2)) 0
noncomputable def c13_14_0_2_1 : Code := itemAt (flat (innerC c13_14_0_2)) 1
noncomputable def c13_14_0_2_2 : Code := itemAt (flat (innerC c13_14_0_2)) 2
noncomputable def c13_14_0_2_3 : Code := itemAt (flat (innerC c13_14_0_2)) 3
noncomputable def c13_14_0_2_4 : Code := itemAt (flat (innerC c13_14_0_2)) 4
noncomputable def c13_14_0_2_3_0 : Code := itemAt (flat (innerC c13_14_0_2_3)) 0
noncomputable def c13_14_0_2_3_0_0 : Code := itemAt (flat (innerC c13_14_0_2_3_0)) 0
noncomputable def c13_14_0_2_3_0_1 : Code := itemAt (flat (innerC c13_14_0_2_3_0)) 1
noncomputable def c13_14_0_2_3_0_2 : Code := itemAt (flat (innerC c13_14_0_2_3_0)) 2
noncomputable def c13_14_0_2_3_0_3 : Code := itemAt (flat (innerC c13_14_0_2_3_0)) 3
def F13_q1 (R : Rt) : EQ := endQ Try.prog Try.f13.results.toList R
def F13_1 (R : Rt) (ds : Ds) (w : World) : Prop :=
 runD Try.prog ds w fun w1 =>
 R (.returned (.int .i64 0)) w1
def F13_k2 (R : Rt) : EP := (fun ρ ds w => F13_1 R ds w)
def F13_q3 (R : Rt) : EQ := (thenQ (F13_k2 R) (F13_q1 R))
def F13_q4 (R : Rt) : EQ := (blockQ 0 (F13_q3 R))
def F13_q5 (R : Rt) (J1 : (Int) → World → Prop) : EQ := (thenQ (fun ρ _ w => dInt .i64 (ρ 79) fun n79 => J1 n79 w) (F13_q4 R))
def F13_2 (R : Rt) (J1 : (Int) → World → Prop) (p0 : Option Addr) (p6 : Option Addr) (p7 : Option Addr) (l77 : SV) (n78 : Int) (n79 : Int) (ds : Ds) (w : World) : Prop :=
 J1 (IntKind.i64.wrap (n79 + 1)) w
def F13_k6 (R : Rt) (J1 : (Int) → World → Prop) : EP := (fun ρ ds w => dPtr (ρ 0) fun p0 => dPtr (ρ 6) fun p6 => dPtr (ρ 7) fun p7 => dSl (ρ 77) fun l77 => dInt .i64 (ρ 78) fun n78 => dInt .i64 (ρ 79) fun n79 => F13_2 R J1 p0 p6 p7 l77 n78 n79 ds w)
def F13_q7 (R : Rt) (J1 : (Int) → World → Prop) : EQ := (thenQ (F13_k6 R J1) (F13_q5 R J1))
def F13_q8 (R : Rt) (J1 : (Int) → World → Prop) : EQ := (blockQ 1 (F13_q7 R J1))
def F13_3 (R : Rt) (J1 : (Int) → World → Prop) (p0 : Option Addr) (p6 : Option Addr) (p7 : Option Addr) (p15 : Option Addr) (p16 : Option Addr) (l77 : SV) (n78 : Int) (n79 : Int) (ds : Ds) (w : World) : Prop :=
 dwE w fun w2 =>
 ptrE p6 fun a3 =>
 ∃ n123 : Int, w2.cell? a3 = some (.int .i64 n123) ∧
 ptrE p0 fun a4 =>
 0 ≤ n123 ∧ n123 < ((4 : Nat) : Int) ∧
 ∃ m127 : Option Nat, w2.cell? ((a4.add 3).add (n123.toNat * 1)) = some (.map m127) ∧
 ptrE p15 fun a5 =>
 ∃ s128_0 : ByteArray, w2.cell? (a5.add 0) = some (.string s128_0) ∧
 ∃ n128_1 : Int, w2.cell? (a5.add 1) = some (.int .i64 n128_1) ∧
 ptrE p16 fun a6 =>
 ∃ c129 : Array Value, c129.size = 96 ∧ (∀ i, i < 96 → w2.cell? (a6.add i) = c129[i]?) ∧
 doE Try.prog (Instr.mapUpdate 48 (.map m127) (.agg #[.string s128_0, .int .i64 n128_1]) (.agg c129)) w2 fun w7 =>
 F13_2 R J1 p0 p6 p7 l77 n78 n79 ds w7
def F13_k9 (R : Rt) (J1 : (Int) → World → Prop) : EP := (fun ρ ds w => dPtr (ρ 0) fun p0 => dPtr (ρ 6) fun p6 => dPtr (ρ 7) fun p7 => dPtr (ρ 15) fun p15 => dPtr (ρ 16) fun p16 => dSl (ρ 77) fun l77 => dInt .i64 (ρ 78) fun n78 => dInt .i64 (ρ 79) fun n79 => F13_3 R J1 p0 p6 p7 p15 p16 l77 n78 n79 ds w)
def F13_q10 (R : Rt) (J1 : (Int) → World → Prop) : EQ := (thenQ (F13_k9 R J1) (F13_q8 R J1))
def F13_q11 (R : Rt) (J1 : (Int) → World → Prop) : EQ := (blockQ 2 (F13_q10 R J1))
def F13_q12 (R : Rt) (J1 : (Int) → World → Prop) (J2 : (Int) → World → Prop) : EQ := (thenQ (fun ρ _ w => dInt .i64 (ρ 91) fun n91 => J2 n91 w) (F13_q11 R J1))
def F13_4 (R : Rt) (J1 : (Int) → World → Prop) (J2 : (Int) → World → Prop) (p0 : Option Addr) (p6 : Option Addr) (p7 : Option Addr) (p15 : Option Addr) (p16 : Option Addr) (l77 : SV) (n78 : Int) (n79 : Int) (n91 : Int) (ds : Ds) (w : World) : Prop :=
 Br (decide (n91 < 32)) (
 ptrE p16 fun a8 =>
 0 ≤ n91 ∧ n91 < ((32 : Nat) : Int) ∧
 ∃ b97 : Bool, w.cell? ((a8.add 32).add (n91.toNat * 1)) = some (.bool b97) ∧
 Br b97 (
 ptrE p16 fun a9 =>
 0 ≤ n91 ∧ n91 < ((32 : Nat) : Int) ∧
 ∃ b102 : Bool, w.cell? ((a9.add 64).add (n91.toNat * 1)) = some (.bool b102) ∧
 Br (!b102) (
 dwE w fun w10 =>
 ptrE p0 fun a11 =>
 ∃ m109 : Option Nat, w10.cell? (a11.add 2) = some (.map m109) ∧
 ptrE p7 fun a12 =>
 ∃ s110 : ByteArray, w10.cell? a12 = some (.string s110) ∧
 ∃ l111 : SV, (Instr.lookup 40 (.map m109) (.string s110) false).run Try.prog w10 = .ok (.slice l111.a l111.len l111.cap) w10 ∧
 ptrE p15 fun a13 =>
 ∃ n113 : Int, w10.cell? (a13.add 1) = some (.int .i64 n113) ∧
 ∃ a14 : Addr, l111.a = some a14 ∧ 0 ≤ (IntKind.i64.wrap ((IntKind.i64.wrap (n113 * 32)) + n91)) ∧ (IntKind.i64.wrap ((IntKind.i64.wrap (n113 * 32)) + n91)) < ((l111.len : Nat) : Int) ∧
 ∃ n118 : Int, w10.cell? (a14.add ((IntKind.i64.wrap ((IntKind.i64.wrap (n113 * 32)) + n91)).toNat * 1)) = some (.int .u8 n118) ∧
 ptrE p16 fun a15 =>
 0 ≤ n91 ∧ n91 < ((32 : Nat) : Int) ∧
 st1 (a15.add (n91.toNat * 1)) (.int .u8 n118) w10 fun w16 =>
 J2 (IntKind.i64.wrap (n91 + 1)) w16) (
 J2 (IntKind.i64.wrap (n91 + 1)) w)) (
 J2 (IntKind.i64.wrap (n91 + 1)) w)) (
 F13_3 R J1 p0 p6 p7 p15 p16 l77 n78 n79 ds w)
def F13_5 (R : Rt) (J1 : (Int) → World → Prop) (p0 : Option Addr) (p6 : Option Addr) (p7 : Option Addr) (p15 : Option Addr) (p16 : Option Addr) (l77 : SV) (n78 : Int) (n79 : Int) (n91 : Int) (ds : Ds) (w : World) : Prop :=
 loopT (fun (J2 : (Int) → World → Prop) (s : Int) (w : World) => F13_4 R J1 J2 p0 p6 p7 p15 p16 l77 n78 n79 s ds w) n91 w
@[reducible] def F13_6 (R : Rt) (J1 : (Int) → World → Prop) (p0 : Option Addr) (p6 : Option Addr) (p7 : Option Addr) (p15 : Option Addr) (p16 : Option Addr) (l77 : SV) (n78 : Int) (n79 : Int) (n91 : Int) (ds : Ds) (w : World) : Prop := F13_5 R J1 p0 p6 p7 p15 p16 l77 n78 n79 n91 ds w
def F13_k13 (R : Rt) (J1 : (Int) → World → Prop) : EP := (fun ρ ds w => dPtr (ρ 0) fun p0 => dPtr (ρ 6) fun p6 => dPtr (ρ 7) fun p7 => dPtr (ρ 15) fun p15 => dPtr (ρ 16) fun p16 => dSl (ρ 77) fun l77 => dInt .i64 (ρ 78) fun n78 => dInt .i64 (ρ 79) fun n79 => dInt .i64 (ρ 91) fun n91 => F13_6 R J1 p0 p6 p7 p15 p16 l77 n78 n79 n91 ds w)
def F13_7 (R : Rt) (J1 : (Int) → World → Prop) (p0 : Option Addr) (p6 : Option Addr) (p7 : Option Addr) (l77 : SV) (n78 : Int) (n79 : Int) (ds : Ds) (w : World) : Prop :=
 ∃ a17 : Addr, l77.a = some a17 ∧ 0 ≤ n79 ∧ n79 < ((l77.len : Nat) : Int) ∧
 ∃ s82_0 : ByteArray, w.cell? ((a17.add (n79.toNat * 2)).add 0) = some (.string s82_0) ∧
 ∃ n82_1 : Int, w.cell? ((a17.add (n79.toNat * 2)).add 1) = some (.int .i64 n82_1) ∧
 alE (.cells #[.string (⟨#[]⟩ : ByteArray), .int .i64 0] 66) w fun r15 w18 =>
 stA Try.prog 66 (⟨r15, 0, none⟩ : Addr) #[.string s82_0, .int .i64 n82_1] w18 fun w19 =>
 dwE w19 fun w20 =>
 ∃ S3 : World → Prop, S3 w20 ∧
 ptrE p6 fun a21 =>
 ∃ n84 : Int, (∀ w', S3 w' → w'.cell? a21 = some (.int .i64 n84)) ∧
 ptrE p0 fun a22 =>
 0 ≤ n84 ∧ n84 < ((4 : Nat) : Int) ∧
 ∃ m88 : Option Nat, (∀ w', S3 w' → w'.cell? ((a22.add 3).add (n84.toNat * 1)) = some (.map m88)) ∧
 ∃ s89_0 : ByteArray, (∀ w', S3 w' → w'.cell? ((⟨r15, 0, none⟩ : Addr).add 0) = some (.string s89_0)) ∧
 ∃ n89_1 : Int, (∀ w', S3 w' → w'.cell? ((⟨r15, 0, none⟩ : Addr).add 1) = some (.int .i64 n89_1)) ∧
 ∃ c90 : Array Value, c90.size = 96 ∧ (∀ w', S3 w' → (Instr.lookup 48 (.map m88) (.agg #[.string s89_0, .int .i64 n89_1]) false).run Try.prog w' = .ok (.agg c90) w') ∧
 alE (.cells (zc Try.prog 61) 61) w20 fun r16 w23 =>
 S3 w23 ∧
 stA Try.prog 61 (⟨r16, 0, none⟩ : Addr) c90 w23 fun w24 =>
 F13_6 R J1 p0 p6 p7 (some (⟨r15, 0, none⟩ : Addr)) (some (⟨r16, 0, none⟩ : Addr)) l77 n78 n79 0 ds w24
@[reducible] def F13_8 (R : Rt) (J1 : (Int) → World → Prop) (p0 : Option Addr) (p6 : Option Addr) (p7 : Option Addr) (l77 : SV) (n78 : Int) (n79 : Int) (ds : Ds) (w : World) : Prop := F13_7 R J1 p0 p6 p7 l77 n78 n79 ds w
def F13_k14 (R : Rt) (J1 : (Int) → World → Prop) : EP := (fun ρ ds w => dPtr (ρ 0) fun p0 => dPtr (ρ 6) fun p6 => dPtr (ρ 7) fun p7 => dSl (ρ 77) fun l77 => dInt .i64 (ρ 78) fun n78 => dInt .i64 (ρ 79) fun n79 => F13_8 R J1 p0 p6 p7 l77 n78 n79 ds w)
def F13_9 (R : Rt) (J1 : (Int) → World → Prop) (p0 : Option Addr) (p6 : Option Addr) (p7 : Option Addr) (l77 : SV) (n78 : Int) (n79 : Int) (ds : Ds) (w : World) : Prop :=
 Br (decide (n79 < n78)) (
 F13_8 R J1 p0 p6 p7 l77 n78 n79 ds w) (
 F13_1 R ds w)
def F13_10 (R : Rt) (p0 : Option Addr) (p6 : Option Addr) (p7 : Option Addr) (l77 : SV) (n78 : Int) (n79 : Int) (ds : Ds) (w : World) : Prop :=
 loopT (fun (J1 : (Int) → World → Prop) (s : Int) (w : World) => F13_9 R J1 p0 p6 p7 l77 n78 s ds w) n79 w
@[reducible] def F13_11 (R : Rt) (p0 : Option Addr) (p6 : Option Addr) (p7 : Option Addr) (l77 : SV) (n78 : Int) (n79 : Int) (ds : Ds) (w : World) : Prop := F13_10 R p0 p6 p7 l77 n78 n79 ds w
def F13_k15 (R : Rt) : EP := (fun ρ ds w => dPtr (ρ 0) fun p0 => dPtr (ρ 6) fun p6 => dPtr (ρ 7) fun p7 => dSl (ρ 77) fun l77 => dInt .i64 (ρ 78) fun n78 => dInt .i64 (ρ 79) fun n79 => F13_11 R p0 p6 p7 l77 n78 n79 ds w)
def F13_12 (R : Rt) (p0 : Option Addr) (p6 : Option Addr) (p7 : Option Addr) (p8 : Option Addr) (p9 : Option Addr) (p13 : Option Addr) (ds : Ds) (w : World) : Prop :=
 dwE w fun w25 =>
 ptrE p0 fun a26 =>
 ∃ l55 : SV, w25.cell? (a26.add 7) = some (.slice l55.a l55.len l55.cap) ∧
 ptrE p13 fun a27 =>
 ∃ v56 : Value, w25.cell? a27 = some (v56) ∧
 Calls Try.prog 25 #[.slice l55.a l55.len l55.cap, v56] w25 fun e w28 =>
 ∃ b57 : Bool, e = .returned (.bool b57) ∧
 Br b57 (
 runD Try.prog ds w28 fun w29 =>
 R (.returned (.int .i64 12)) w29) (
 dwE w28 fun w30 =>
 ∃ S5 : World → Prop, S5 w30 ∧
 ptrE p0 fun a31 =>
 ∃ l62 : SV, (∀ w', S5 w' → w'.cell? (a31.add 7) = some (.slice l62.a l62.len l62.cap)) ∧
 ptrE p6 fun a32 =>
 ∃ n63 : Int, (∀ w', S5 w' → w'.cell? a32 = some (.int .i64 n63)) ∧
 ptrE p7 fun a33 =>
 ∃ s64 : ByteArray, (∀ w', S5 w' → w'.cell? a33 = some (.string s64)) ∧
 ptrE p8 fun a34 =>
 ∃ n65 : Int, (∀ w', S5 w' → w'.cell? a34 = some (.int .i64 n65)) ∧
 ptrE p9 fun a35 =>
 ∃ n66 : Int, (∀ w', S5 w' → w'.cell? a35 = some (.int .i64 n66)) ∧
 alE (.cells #[.int .i64 n63, .string s64, .int .i64 n65, .int .i64 n66] 70) w30 fun r68 w36 =>
 S5 w36 ∧
 ∃ l69 : SV, ∃ w37 : World, (Builtin.append_ #[50, 50] 50 #[.slice l62.a l62.len l62.cap, .slice (some ⟨r68, 0, none⟩) 1 1]).run Try.prog w36 = .ok (.slice l69.a l69.len l69.cap) w37 ∧
 ptrE p0 fun a38 =>
 st1 (a38.add 7) (.slice l69.a l69.len l69.cap) w37 fun w39 =>
 ptrE p6 fun a40 =>
 ∃ n73 : Int, w39.cell? a40 = some (.int .i64 n73) ∧
 ptrE p7 fun a41 =>
 ∃ s74 : ByteArray, w39.cell? a41 = some (.string s74) ∧
 ptrE p8 fun a42 =>
 ∃ n75 : Int, w39.cell? a42 = some (.int .i64 n75) ∧
 ptrE p9 fun a43 =>
 ∃ n76 : Int, w39.cell? a43 = some (.int .i64 n76) ∧
 Calls Try.prog 19 #[.pointer p0, .int .i64 n73, .string s74, .int .i64 n75, .int .i64 n76] w39 fun e w44 =>
 ∃ l77 : SV, e = .returned (.slice l77.a l77.len l77.cap) ∧
 F13_11 R p0 p6 p7 l77 ((l77.len : Nat) : Int) 0 ds w44)
def F13_k16 (R : Rt) : EP := (fun ρ ds w => dPtr (ρ 0) fun p0 => dPtr (ρ 6) fun p6 => dPtr (ρ 7) fun p7 => dPtr (ρ 8) fun p8 => dPtr (ρ 9) fun p9 => dPtr (ρ 13) fun p13 => F13_12 R p0 p6 p7 p8 p9 p13 ds w)
def F13_13 (R : Rt) (p0 : Option Addr) (n1 : Int) (s2 : ByteArray) (n3 : Int) (n4 : Int) (ds : Ds) (w : World) : Prop :=
 alE (.cells #[.int .i64 n1] 3) w fun r6 w45 =>
 alE (.cells #[.string s2] 9) w45 fun r7 w46 =>
 alE (.cells #[.int .i64 n3] 3) w46 fun r8 w47 =>
 alE (.cells #[.int .i64 n4] 3) w47 fun r9 w48 =>
 ∃ n20 : Int, w48.cell? (⟨r6, 0, none⟩ : Addr) = some (.int .i64 n20) ∧
 ∃ s21 : ByteArray, w48.cell? (⟨r7, 0, none⟩ : Addr) = some (.string s21) ∧
 Calls Try.prog 15 #[.pointer p0, .int .i64 n20, .string s21] w48 fun e w49 =>
 ∃ v22_0 : Value, ∃ n22_1 : Int, e = .returned (.tuple #[v22_0, .int .i64 n22_1]) ∧
 fnE v22_0 fun fx firstx capx =>
 Br (n22_1 != 0) (
 runD Try.prog ({ target := .fn (.func fx) capx, args := (firstx.toList ++ ([] : List Value)).toArray } :: ds) w49 fun w50 =>
 R (.returned (.int .i64 n22_1)) w50) (
 ∃ n29 : Int, w49.cell? (⟨r8, 0, none⟩ : Addr) = some (.int .i64 n29) ∧
 Br (decide (n29 < 0)) (
 runD Try.prog ({ target := .fn (.func fx) capx, args := (firstx.toList ++ ([] : List Value)).toArray } :: ds) w49 fun w51 =>
 R (.returned (.int .i64 1)) w51) (
 ∃ n32 : Int, w49.cell? (⟨r9, 0, none⟩ : Addr) = some (.int .i64 n32) ∧
 Br (decide (n32 < 1)) (
 runD Try.prog ({ target := .fn (.func fx) capx, args := (firstx.toList ++ ([] : List Value)).toArray } :: ds) w49 fun w52 =>
 R (.returned (.int .i64 1)) w52) (
 ∃ n36 : Int, w49.cell? (⟨r8, 0, none⟩ : Addr) = some (.int .i64 n36) ∧
 Br (decide (n36 > 131072)) (
 runD Try.prog ({ target := .fn (.func fx) capx, args := (firstx.toList ++ ([] : List Value)).toArray } :: ds) w49 fun w53 =>
 R (.returned (.int .i64 1)) w53) (
 ∃ n40 : Int, w49.cell? (⟨r9, 0, none⟩ : Addr) = some (.int .i64 n40) ∧
 ∃ n41 : Int, w49.cell? (⟨r8, 0, none⟩ : Addr) = some (.int .i64 n41) ∧
 Br (decide (n40 > (IntKind.i64.wrap ((131072 : Int) - n41)))) (
 runD Try.prog ({ target := .fn (.func fx) capx, args := (firstx.toList ++ ([] : List Value)).toArray } :: ds) w49 fun w54 =>
 R (.returned (.int .i64 1)) w54) (
 alE (.cells #[.nilFunc] 72) w49 fun r13 w55 =>
 st1 (⟨r13, 0, none⟩ : Addr) (.func (.func 23) #[] #[.pointer (some (⟨r7, 0, none⟩ : Addr)), .pointer (some (⟨r8, 0, none⟩ : Addr)), .pointer (some (⟨r9, 0, none⟩ : Addr))]) w55 fun w56 =>
 ptrE p0 fun a57 =>
 ∃ l49 : SV, w56.cell? (a57.add 7) = some (.slice l49.a l49.len l49.cap) ∧
 Calls Try.prog 25 #[.slice l49.a l49.len l49.cap, .func (.func 26) #[] #[.pointer (some (⟨r6, 0, none⟩ : Addr)), .pointer (some (⟨r13, 0, none⟩ : Addr))]] w56 fun e w58 =>
 ∃ b51 : Bool, e = .returned (.bool b51) ∧
 Br b51 (
 runD Try.prog ({ target := .fn (.func fx) capx, args := (firstx.toList ++ ([] : List Value)).toArray } :: ds) w58 fun w59 =>
 R (.returned (.int .i64 5)) w59) (
 F13_12 R p0 (some (⟨r6, 0, none⟩ : Addr)) (some (⟨r7, 0, none⟩ : Addr)) (some (⟨r8, 0, none⟩ : Addr)) (some (⟨r9, 0, none⟩ : Addr)) (some (⟨r13, 0, none⟩ : Addr)) ({ target := .fn (.func fx) capx, args := (firstx.toList ++ ([] : List Value)).toArray } :: ds) w58))))))
theorem c13_l : flat (bodyOf Try.f13) = [c13_0, c13_1, c13_2, c13_3, c13_4, c13_5, c13_6, c13_7, c13_8, c13_9, c13_10, c13_11, c13_12, c13_13, c13_14, c13_15, c13_16] := by kernel_rfl
theorem c13_14_l : flat (innerC c13_14) = [c13_14_0] := by kernel_rfl
theorem c13_14_0_l : flat (innerC c13_14_0) = [c13_14_0_0, c13_14_0_1, c13_14_0_2, c13_14_0_3] := by kernel_rfl
theorem c13_14_0_2_l : flat (innerC c13_14_0_2) = [c13_14_0_2_0, c13_14_0_2_1, c13_14_0_2_2, c13_14_0_2_3, c13_14_0_2_4] := by kernel_rfl
theorem c13_14_0_2_3_l : flat (innerC c13_14_0_2_3) = [c13_14_0_2_3_0] := by kernel_rfl
theorem c13_14_0_2_3_0_l : flat (innerC c13_14_0_2_3_0) = [c13_14_0_2_3_0_0, c13_14_0_2_3_0_1, c13_14_0_2_3_0_2, c13_14_0_2_3_0_3] := by kernel_rfl
theorem F13_1_ok (R : Rt) (ds : Ds) (w : World) (ρ : Env) (h : F13_1 R ds w) :
    TrL Try.prog Try.f13.ntmps [c13_15, c13_16] (F13_q1 R) ρ ds w :=
  TrL_leaf (X := F13_1 R ds w) setAll_nil (by kernel_rfl) (by kernel_rfl) h
theorem F13_2_ok (R : Rt) (J1 : (Int) → World → Prop) (p0 : Option Addr) (p6 : Option Addr) (p7 : Option Addr) (l77 : SV) (n78 : Int) (n79 : Int) (ds : Ds) (w : World) (ρ : Env) (e0 : ρ 0 = .pointer p0) (e6 : ρ 6 = .pointer p6) (e7 : ρ 7 = .pointer p7) (e77 : ρ 77 = .slice l77.a l77.len l77.cap) (e78 : ρ 78 = .int .i64 n78) (e79 : ρ 79 = .int .i64 n79) (h : F13_2 R J1 p0 p6 p7 l77 n78 n79 ds w) :
    TrL Try.prog Try.f13.ntmps [c13_14_0_3] (F13_q5 R J1) ρ ds w :=
  TrL_leaf (X := F13_2 R J1 p0 p6 p7 l77 n78 n79 ds w) (setAll_cons e0 (setAll_cons e6 (setAll_cons e7 (setAll_cons e77 (setAll_cons e78 (setAll_cons e79 setAll_nil)))))) (by kernel_rfl) (by kernel_rfl) h
theorem F13_3_ok (R : Rt) (J1 : (Int) → World → Prop) (p0 : Option Addr) (p6 : Option Addr) (p7 : Option Addr) (p15 : Option Addr) (p16 : Option Addr) (l77 : SV) (n78 : Int) (n79 : Int) (ds : Ds) (w : World) (ρ : Env) (e0 : ρ 0 = .pointer p0) (e6 : ρ 6 = .pointer p6) (e7 : ρ 7 = .pointer p7) (e15 : ρ 15 = .pointer p15) (e16 : ρ 16 = .pointer p16) (e77 : ρ 77 = .slice l77.a l77.len l77.cap) (e78 : ρ 78 = .int .i64 n78) (e79 : ρ 79 = .int .i64 n79) (h : F13_3 R J1 p0 p6 p7 p15 p16 l77 n78 n79 ds w) :
    TrL Try.prog Try.f13.ntmps [c13_14_0_2_4] (F13_q8 R J1) ρ ds w :=
  TrL_leaf (X := F13_3 R J1 p0 p6 p7 p15 p16 l77 n78 n79 ds w) (setAll_cons e0 (setAll_cons e6 (setAll_cons e7 (setAll_cons e15 (setAll_cons e16 (setAll_cons e77 (setAll_cons e78 (setAll_cons e79 setAll_nil)))))))) (by kernel_rfl) (by kernel_rfl) h
theorem F13_4_ok (R : Rt) (J1 : (Int) → World → Prop) (J2 : (Int) → World → Prop) (p0 : Option Addr) (p6 : Option Addr) (p7 : Option Addr) (p15 : Option Addr) (p16 : Option Addr) (l77 : SV) (n78 : Int) (n79 : Int) (n91 : Int) (ds : Ds) (w : World) (ρ : Env) (e0 : ρ 0 = .pointer p0) (e6 : ρ 6 = .pointer p6) (e7 : ρ 7 = .pointer p7) (e15 : ρ 15 = .pointer p15) (e16 : ρ 16 = .pointer p16) (e77 : ρ 77 = .slice l77.a l77.len l77.cap) (e78 : ρ 78 = .int .i64 n78) (e79 : ρ 79 = .int .i64 n79) (e91 : ρ 91 = .int .i64 n91) (h : F13_4 R J1 J2 p0 p6 p7 p15 p16 l77 n78 n79 n91 ds w) :
    TrL Try.prog Try.f13.ntmps [c13_14_0_2_3_0_0, c13_14_0_2_3_0_1, c13_14_0_2_3_0_2, c13_14_0_2_3_0_3] (F13_q12 R J1 J2) ρ ds w :=
  TrL_leaf (X := F13_4 R J1 J2 p0 p6 p7 p15 p16 l77 n78 n79 n91 ds w) (setAll_cons e0 (setAll_cons e6 (setAll_cons e7 (setAll_cons e15 (setAll_cons e16 (setAll_cons e77 (setAll_cons e78 (setAll_cons e79 (setAll_cons e91 setAll_nil))))))))) (by kernel_rfl) (by kernel_rfl) h
theorem F13_5_ok (R : Rt) (J1 : (Int) → World → Prop) (p0 : Option Addr) (p6 : Option Addr) (p7 : Option Addr) (p15 : Option Addr) (p16 : Option Addr) (l77 : SV) (n78 : Int) (n79 : Int) (n91 : Int) (ds : Ds) (w : World) (ρ : Env) (e0 : ρ 0 = .pointer p0) (e6 : ρ 6 = .pointer p6) (e7 : ρ 7 = .pointer p7) (e15 : ρ 15 = .pointer p15) (e16 : ρ 16 = .pointer p16) (e77 : ρ 77 = .slice l77.a l77.len l77.cap) (e78 : ρ 78 = .int .i64 n78) (e79 : ρ 79 = .int .i64 n79) (e91 : ρ 91 = .int .i64 n91) (h : F13_5 R J1 p0 p6 p7 p15 p16 l77 n78 n79 n91 ds w) :
    TrL Try.prog Try.f13.ntmps [c13_14_0_2_3_0] (F13_q11 R J1) ρ ds w :=
  TrL_one (Tr_loop' (c := innerC c13_14_0_2_3_0) (σ := Int) (enc := (fun (s : Int) (ρ : Env) => ρ 91 = .int .i64 s)) (D := (fun ρ K => dInt .i64 (ρ 91) fun n91 => K n91)) (F := (fun (J2 : (Int) → World → Prop) (s : Int) (w : World) => F13_4 R J1 J2 p0 p6 p7 p15 p16 l77 n78 n79 s ds w)) (s0 := n91) (by kernel_rfl) c13_14_0_2_3_0_l e91 (by kernel_rfl) (fun ρ K hD => by obtain ⟨n91, e91, hD⟩ := dInt_elim hD; exact ⟨n91, e91, hD⟩)
      (fun J2 s ρ' w' he ha hF => by
      have e91' := he
      exact F13_4_ok R J1 J2 p0 p6 p7 p15 p16 l77 n78 n79 s ds w' ρ' ((ha 0 (by kernel_rfl)).trans e0) ((ha 6 (by kernel_rfl)).trans e6) ((ha 7 (by kernel_rfl)).trans e7) ((ha 15 (by kernel_rfl)).trans e15) ((ha 16 (by kernel_rfl)).trans e16) ((ha 77 (by kernel_rfl)).trans e77) ((ha 78 (by kernel_rfl)).trans e78) ((ha 79 (by kernel_rfl)).trans e79) e91' hF) h)
theorem F13_6_ok (R : Rt) (J1 : (Int) → World → Prop) (p0 : Option Addr) (p6 : Option Addr) (p7 : Option Addr) (p15 : Option Addr) (p16 : Option Addr) (l77 : SV) (n78 : Int) (n79 : Int) (n91 : Int) (ds : Ds) (w : World) (ρ : Env) (e0 : ρ 0 = .pointer p0) (e6 : ρ 6 = .pointer p6) (e7 : ρ 7 = .pointer p7) (e15 : ρ 15 = .pointer p15) (e16 : ρ 16 = .pointer p16) (e77 : ρ 77 = .slice l77.a l77.len l77.cap) (e78 : ρ 78 = .int .i64 n78) (e79 : ρ 79 = .int .i64 n79) (e91 : ρ 91 = .int .i64 n91) (h : F13_6 R J1 p0 p6 p7 p15 p16 l77 n78 n79 n91 ds w) :
    TrL Try.prog Try.f13.ntmps [c13_14_0_2_3, c13_14_0_2_4] (F13_q8 R J1) ρ ds w :=
  TrL_head (K := (F13_k9 R J1)) (Tr_block' (c := innerC c13_14_0_2_3) (by kernel_rfl) c13_14_0_2_3_l (F13_5_ok R J1 p0 p6 p7 p15 p16 l77 n78 n79 n91 ds w ρ e0 e6 e7 e15 e16 e77 e78 e79 e91 h))
    (fun ρ' ds' w' hD => by
      obtain ⟨p0, e0, hD⟩ := dPtr_elim hD; obtain ⟨p6, e6, hD⟩ := dPtr_elim hD; obtain ⟨p7, e7, hD⟩ := dPtr_elim hD; obtain ⟨p15, e15, hD⟩ := dPtr_elim hD; obtain ⟨p16, e16, hD⟩ := dPtr_elim hD; obtain ⟨l77, e77, hD⟩ := dSl_elim hD; obtain ⟨n78, e78, hD⟩ := dInt_elim hD; obtain ⟨n79, e79, hD⟩ := dInt_elim hD; exact F13_3_ok R J1 p0 p6 p7 p15 p16 l77 n78 n79 ds' w' ρ' e0 e6 e7 e15 e16 e77 e78 e79 hD)
theorem F13_7_ok (R : Rt) (J1 : (Int) → World → Prop) (p0 : Option Addr) (p6 : Option Addr) (p7 : Option Addr) (l77 : SV) (n78 : Int) (n79 : Int) (ds : Ds) (w : World) (ρ : Env) (e0 : ρ 0 = .pointer p0) (e6 : ρ 6 = .pointer p6) (e7 : ρ 7 = .pointer p7) (e77 : ρ 77 = .slice l77.a l77.len l77.cap) (e78 : ρ 78 = .int .i64 n78) (e79 : ρ 79 = .int .i64 n79) (h : F13_7 R J1 p0 p6 p7 l77 n78 n79 ds w) :
    TrL Try.prog Try.f13.ntmps [c13_14_0_2_0, c13_14_0_2_1, c13_14_0_2_2, c13_14_0_2_3, c13_14_0_2_4] (F13_q8 R J1) ρ ds w :=
  TrL_piece (pre := [c13_14_0_2_0, c13_14_0_2_1, c13_14_0_2_2]) (K := (F13_k13 R J1)) (X := F13_7 R J1 p0 p6 p7 l77 n78 n79 ds w) (setAll_cons e0 (setAll_cons e6 (setAll_cons e7 (setAll_cons e77 (setAll_cons e78 (setAll_cons e79 setAll_nil)))))) (by kernel_rfl) (by kernel_rfl)
    (fun ρ' ds' w' hD => by
      obtain ⟨p0, e0, hD⟩ := dPtr_elim hD; obtain ⟨p6, e6, hD⟩ := dPtr_elim hD; obtain ⟨p7, e7, hD⟩ := dPtr_elim hD; obtain ⟨p15, e15, hD⟩ := dPtr_elim hD; obtain ⟨p16, e16, hD⟩ := dPtr_elim hD; obtain ⟨l77, e77, hD⟩ := dSl_elim hD; obtain ⟨n78, e78, hD⟩ := dInt_elim hD; obtain ⟨n79, e79, hD⟩ := dInt_elim hD; obtain ⟨n91, e91, hD⟩ := dInt_elim hD; exact F13_6_ok R J1 p0 p6 p7 p15 p16 l77 n78 n79 n91 ds' w' ρ' e0 e6 e7 e15 e16 e77 e78 e79 e91 hD) h
theorem F13_8_ok (R : Rt) (J1 : (Int) → World → Prop) (p0 : Option Addr) (p6 : Option Addr) (p7 : Option Addr) (l77 : SV) (n78 : Int) (n79 : Int) (ds : Ds) (w : World) (ρ : Env) (e0 : ρ 0 = .pointer p0) (e6 : ρ 6 = .pointer p6) (e7 : ρ 7 = .pointer p7) (e77 : ρ 77 = .slice l77.a l77.len l77.cap) (e78 : ρ 78 = .int .i64 n78) (e79 : ρ 79 = .int .i64 n79) (h : F13_8 R J1 p0 p6 p7 l77 n78 n79 ds w) :
    TrL Try.prog Try.f13.ntmps [c13_14_0_2, c13_14_0_3] (F13_q5 R J1) ρ ds w :=
  TrL_head (K := (F13_k6 R J1)) (Tr_block' (c := innerC c13_14_0_2) (by kernel_rfl) c13_14_0_2_l (F13_7_ok R J1 p0 p6 p7 l77 n78 n79 ds w ρ e0 e6 e7 e77 e78 e79 h))
    (fun ρ' ds' w' hD => by
      obtain ⟨p0, e0, hD⟩ := dPtr_elim hD; obtain ⟨p6, e6, hD⟩ := dPtr_elim hD; obtain ⟨p7, e7, hD⟩ := dPtr_elim hD; obtain ⟨l77, e77, hD⟩ := dSl_elim hD; obtain ⟨n78, e78, hD⟩ := dInt_elim hD; obtain ⟨n79, e79, hD⟩ := dInt_elim hD; exact F13_2_ok R J1 p0 p6 p7 l77 n78 n79 ds' w' ρ' e0 e6 e7 e77 e78 e79 hD)
theorem F13_9_ok (R : Rt) (J1 : (Int) → World → Prop) (p0 : Option Addr) (p6 : Option Addr) (p7 : Option Addr) (l77 : SV) (n78 : Int) (n79 : Int) (ds : Ds) (w : World) (ρ : Env) (e0 : ρ 0 = .pointer p0) (e6 : ρ 6 = .pointer p6) (e7 : ρ 7 = .pointer p7) (e77 : ρ 77 = .slice l77.a l77.len l77.cap) (e78 : ρ 78 = .int .i64 n78) (e79 : ρ 79 = .int .i64 n79) (h : F13_9 R J1 p0 p6 p7 l77 n78 n79 ds w) :
    TrL Try.prog Try.f13.ntmps [c13_14_0_0, c13_14_0_1, c13_14_0_2, c13_14_0_3] (F13_q5 R J1) ρ ds w :=
  TrL_piece (pre := [c13_14_0_0, c13_14_0_1]) (K := (F13_k14 R J1)) (X := F13_9 R J1 p0 p6 p7 l77 n78 n79 ds w) (setAll_cons e0 (setAll_cons e6 (setAll_cons e7 (setAll_cons e77 (setAll_cons e78 (setAll_cons e79 setAll_nil)))))) (by kernel_rfl) (by kernel_rfl)
    (fun ρ' ds' w' hD => by
      obtain ⟨p0, e0, hD⟩ := dPtr_elim hD; obtain ⟨p6, e6, hD⟩ := dPtr_elim hD; obtain ⟨p7, e7, hD⟩ := dPtr_elim hD; obtain ⟨l77, e77, hD⟩ := dSl_elim hD; obtain ⟨n78, e78, hD⟩ := dInt_elim hD; obtain ⟨n79, e79, hD⟩ := dInt_elim hD; exact F13_8_ok R J1 p0 p6 p7 l77 n78 n79 ds' w' ρ' e0 e6 e7 e77 e78 e79 hD) h
theorem F13_10_ok (R : Rt) (p0 : Option Addr) (p6 : Option Addr) (p7 : Option Addr) (l77 : SV) (n78 : Int) (n79 : Int) (ds : Ds) (w : World) (ρ : Env) (e0 : ρ 0 = .pointer p0) (e6 : ρ 6 = .pointer p6) (e7 : ρ 7 = .pointer p7) (e77 : ρ 77 = .slice l77.a l77.len l77.cap) (e78 : ρ 78 = .int .i64 n78) (e79 : ρ 79 = .int .i64 n79) (h : F13_10 R p0 p6 p7 l77 n78 n79 ds w) :
    TrL Try.prog Try.f13.ntmps [c13_14_0] (F13_q4 R) ρ ds w :=
  TrL_one (Tr_loop' (c := innerC c13_14_0) (σ := Int) (enc := (fun (s : Int) (ρ : Env) => ρ 79 = .int .i64 s)) (D := (fun ρ K => dInt .i64 (ρ 79) fun n79 => K n79)) (F := (fun (J1 : (Int) → World → Prop) (s : Int) (w : World) => F13_9 R J1 p0 p6 p7 l77 n78 s ds w)) (s0 := n79) (by kernel_rfl) c13_14_0_l e79 (by kernel_rfl) (fun ρ K hD => by obtain ⟨n79, e79, hD⟩ := dInt_elim hD; exact ⟨n79, e79, hD⟩)
      (fun J1 s ρ' w' he ha hF => by
      have e79' := he
      exact F13_9_ok R J1 p0 p6 p7 l77 n78 s ds w' ρ' ((ha 0 (by kernel_rfl)).trans e0) ((ha 6 (by kernel_rfl)).trans e6) ((ha 7 (by kernel_rfl)).trans e7) ((ha 77 (by kernel_rfl)).trans e77) ((ha 78 (by kernel_rfl)).trans e78) e79' hF) h)
theorem F13_11_ok (R : Rt) (p0 : Option Addr) (p6 : Option Addr) (p7 : Option Addr) (l77 : SV) (n78 : Int) (n79 : Int) (ds : Ds) (w : World) (ρ : Env) (e0 : ρ 0 = .pointer p0) (e6 : ρ 6 = .pointer p6) (e7 : ρ 7 = .pointer p7) (e77 : ρ 77 = .slice l77.a l77.len l77.cap) (e78 : ρ 78 = .int .i64 n78) (e79 : ρ 79 = .int .i64 n79) (h : F13_11 R p0 p6 p7 l77 n78 n79 ds w) :
    TrL Try.prog Try.f13.ntmps [c13_14, c13_15, c13_16] (F13_q1 R) ρ ds w :=
  TrL_head (K := (F13_k2 R)) (Tr_block' (c := innerC c13_14) (by kernel_rfl) c13_14_l (F13_10_ok R p0 p6 p7 l77 n78 n79 ds w ρ e0 e6 e7 e77 e78 e79 h))
    (fun ρ' ds' w' hD => by
      exact F13_1_ok R ds' w' ρ'  hD)
theorem F13_12_ok (R : Rt) (p0 : Option Addr) (p6 : Option Addr) (p7 : Option Addr) (p8 : Option Addr) (p9 : Option Addr) (p13 : Option Addr) (ds : Ds) (w : World) (ρ : Env) (e0 : ρ 0 = .pointer p0) (e6 : ρ 6 = .pointer p6) (e7 : ρ 7 = .pointer p7) (e8 : ρ 8 = .pointer p8) (e9 : ρ 9 = .pointer p9) (e13 : ρ 13 = .pointer p13) (h : F13_12 R p0 p6 p7 p8 p9 p13 ds w) :
    TrL Try.prog Try.f13.ntmps [c13_10, c13_11, c13_12, c13_13, c13_14, c13_15, c13_16] (F13_q1 R) ρ ds w :=
  TrL_piece (pre := [c13_10, c13_11, c13_12, c13_13]) (K := (F13_k15 R)) (X := F13_12 R p0 p6 p7 p8 p9 p13 ds w) (setAll_cons e0 (setAll_cons e6 (setAll_cons e7 (setAll_cons e8 (setAll_cons e9 (setAll_cons e13 setAll_nil)))))) (by kernel_rfl) (by kernel_rfl)
    (fun ρ' ds' w' hD => by
      obtain ⟨p0, e0, hD⟩ := dPtr_elim hD; obtain ⟨p6, e6, hD⟩ := dPtr_elim hD; obtain ⟨p7, e7, hD⟩ := dPtr_elim hD; obtain ⟨l77, e77, hD⟩ := dSl_elim hD; obtain ⟨n78, e78, hD⟩ := dInt_elim hD; obtain ⟨n79, e79, hD⟩ := dInt_elim hD; exact F13_11_ok R p0 p6 p7 l77 n78 n79 ds' w' ρ' e0 e6 e7 e77 e78 e79 hD) h
theorem F13_13_ok (R : Rt) (p0 : Option Addr) (n1 : Int) (s2 : ByteArray) (n3 : Int) (n4 : Int) (ds : Ds) (w : World) (ρ : Env) (e0 : ρ 0 = .pointer p0) (e1 : ρ 1 = .int .i64 n1) (e2 : ρ 2 = .string s2) (e3 : ρ 3 = .int .i64 n3) (e4 : ρ 4 = .int .i64 n4) (h : F13_13 R p0 n1 s2 n3 n4 ds w) :
    TrL Try.prog Try.f13.ntmps [c13_0, c13_1, c13_2, c13_3, c13_4, c13_5, c13_6, c13_7, c13_8, c13_9, c13_10, c13_11, c13_12, c13_13, c13_14, c13_15, c13_16] (F13_q1 R) ρ ds w :=
  TrL_piece (pre := [c13_0, c13_1, c13_2, c13_3, c13_4, c13_5, c13_6, c13_7, c13_8, c13_9]) (K := (F13_k16 R)) (X := F13_13 R p0 n1 s2 n3 n4 ds w) (setAll_cons e0 (setAll_cons e1 (setAll_cons e2 (setAll_cons e3 (setAll_cons e4 setAll_nil))))) (by kernel_rfl) (by kernel_rfl)
    (fun ρ' ds' w' hD => by
      obtain ⟨p0, e0, hD⟩ := dPtr_elim hD; obtain ⟨p6, e6, hD⟩ := dPtr_elim hD; obtain ⟨p7, e7, hD⟩ := dPtr_elim hD; obtain ⟨p8, e8, hD⟩ := dPtr_elim hD; obtain ⟨p9, e9, hD⟩ := dPtr_elim hD; obtain ⟨p13, e13, hD⟩ := dPtr_elim hD; exact F13_12_ok R p0 p6 p7 p8 p9 p13 ds' w' ρ' e0 e6 e7 e8 e9 e13 hD) h
theorem F13_calls (p0 : Option Addr) (n1 : Int) (s2 : ByteArray) (n3 : Int) (n4 : Int) (w : World) (R : Rt) (h : F13_13 R p0 n1 s2 n3 n4 [] w) : Calls Try.prog 13 #[.pointer p0, .int .i64 n1, .string s2, .int .i64 n3, .int .i64 n4] w R :=
  calls_of_L (l := [c13_0, c13_1, c13_2, c13_3, c13_4, c13_5, c13_6, c13_7, c13_8, c13_9, c13_10, c13_11, c13_12, c13_13, c13_14, c13_15, c13_16]) Try.func13 (by kernel_rfl) (by rw [Try.ntmps13]; exact Nat.le_of_ble_eq_true (by kernel_rfl)) c13_l
    (F13_13_ok R p0 n1 s2 n3 n4 [] w _ rfl rfl rfl rfl rfl h)

/-! function 14: (*cabinetry/disk.System).Unlock -/
noncomputable def c14_0 : Code := itemAt (flat (bodyOf Try.f14)) 0
noncomputable def c14_1 : Code := itemAt (flat (bodyOf Try.f14)) 1
noncomputable def c14_2 : Code := itemAt (flat (bodyOf Try.f14)) 2
noncomputable def c14_3 : Code := itemAt (flat (bodyOf Try.f14)) 3
noncomputable def c14_4 : Code := itemAt (flat (bodyOf Try.f14)) 4
noncomputable def c14_5 : Code := itemAt (flat (bodyOf Try.f14)) 5
noncomputable def c14_6 : Code := itemAt (flat (bodyOf Try.f14)) 6
noncomputable def c14_7 : Code := itemAt (flat (bodyOf Try.f14)) 7
noncomputable def c14_8 : Code := itemAt (flat (bodyOf Try.f14)) 8
noncomputable def c14_9 : Code := itemAt (flat (bodyOf Try.f14)) 9
noncomputable def c14_10 : Code := itemAt (flat (bodyOf Try.f14)) 10
noncomputable def c14_11 : Code := itemAt (flat (bodyOf Try.f14)) 11
noncomputable def c14_12 : Code := itemAt (flat (bodyOf Try.f14)) 12
noncomputable def c14_9_0 : Code := itemAt (flat (innerC c14_9)) 0
noncomputable def c14_9_0_0 : Code := itemAt (flat (innerC c14_9_0)) 0
noncomputable def c14_9_0_1 : Code := itemAt (flat (innerC c14_9_0)) 1
noncomputable def c14_9_0_2 : Code := itemAt (flat (innerC c14_9_0)) 2
noncomputable def c14_9_0_3 : Code := itemAt (flat (innerC c14_9_0)) 3
def F14_q1 (R : Rt) : EQ := endQ Try.prog Try.f14.results.toList R
def F14_1 (R : Rt) (p0 : Option Addr) (n13 : Int) (ds : Ds) (w : World) : Prop :=
 ptrE p0 fun a1 =>
 ∃ l59 : SV, w.cell? (a1.add 7) = some (.slice l59.a l59.len l59.cap) ∧
 Calls Try.prog 28 #[.slice l59.a l59.len l59.cap, .int .i64 n13, .int .i64 (IntKind.i64.wrap (n13 + 1))] w fun e w2 =>
 ∃ l63 : SV, e = .returned (.slice l63.a l63.len l63.cap) ∧
 ptrE p0 fun a3 =>
 st1 (a3.add 7) (.slice l63.a l63.len l63.cap) w2 fun w4 =>
 runD Try.prog ds w4 fun w5 =>
 R (.returned (.int .i64 0)) w5
def F14_k2 (R : Rt) : EP := (fun ρ ds w => dPtr (ρ 0) fun p0 => dInt .i64 (ρ 13) fun n13 => F14_1 R p0 n13 ds w)
def F14_q3 (R : Rt) : EQ := (thenQ (F14_k2 R) (F14_q1 R))
def F14_q4 (R : Rt) : EQ := (blockQ 0 (F14_q3 R))
def F14_q5 (R : Rt) (J1 : (Int) → World → Prop) : EQ := (thenQ (fun ρ _ w => dInt .i64 (ρ 46) fun n46 => J1 n46 w) (F14_q4 R))
def F14_2 (R : Rt) (J1 : (Int) → World → Prop) (p0 : Option Addr) (n1 : Int) (n13 : Int) (l44 : SV) (n45 : Int) (n46 : Int) (ds : Ds) (w : World) : Prop :=
 Br (decide (n46 < n45)) (
 ∃ a6 : Addr, l44.a = some a6 ∧ 0 ≤ n46 ∧ n46 < ((l44.len : Nat) : Int) ∧
 ∃ s49_0 : ByteArray, w.cell? ((a6.add (n46.toNat * 2)).add 0) = some (.string s49_0) ∧
 ∃ n49_1 : Int, w.cell? ((a6.add (n46.toNat * 2)).add 1) = some (.int .i64 n49_1) ∧
 alE (.cells #[.string (⟨#[]⟩ : ByteArray), .int .i64 0] 66) w fun r15 w7 =>
 stA Try.prog 66 (⟨r15, 0, none⟩ : Addr) #[.string s49_0, .int .i64 n49_1] w7 fun w8 =>
 ∃ s52_0 : ByteArray, w8.cell? ((⟨r15, 0, none⟩ : Addr).add 0) = some (.string s52_0) ∧
 ∃ n52_1 : Int, w8.cell? ((⟨r15, 0, none⟩ : Addr).add 1) = some (.int .i64 n52_1) ∧
 Calls Try.prog 20 #[.pointer p0, .int .i64 n1, .agg #[.string s52_0, .int .i64 n52_1]] w8 fun e w9 =>
 ∃ n53 : Int, e = .returned (.int .i64 n53) ∧
 J1 (IntKind.i64.wrap (n46 + 1)) w9) (
 F14_1 R p0 n13 ds w)
def F14_3 (R : Rt) (p0 : Option Addr) (n1 : Int) (n13 : Int) (l44 : SV) (n45 : Int) (n46 : Int) (ds : Ds) (w : World) : Prop :=
 loopT (fun (J1 : (Int) → World → Prop) (s : Int) (w : World) => F14_2 R J1 p0 n1 n13 l44 n45 s ds w) n46 w
@[reducible] def F14_4 (R : Rt) (p0 : Option Addr) (n1 : Int) (n13 : Int) (l44 : SV) (n45 : Int) (n46 : Int) (ds : Ds) (w : World) : Prop := F14_3 R p0 n1 n13 l44 n45 n46 ds w
def F14_k6 (R : Rt) : EP := (fun ρ ds w => dPtr (ρ 0) fun p0 => dInt .i64 (ρ 1) fun n1 => dInt .i64 (ρ 13) fun n13 => dSl (ρ 44) fun l44 => dInt .i64 (ρ 45) fun n45 => dInt .i64 (ρ 46) fun n46 => F14_4 R p0 n1 n13 l44 n45 n46 ds w)
def F14_5 (R : Rt) (p0 : Option Addr) (n1 : Int) (s2 : ByteArray) (n3 : Int) (n4 : Int) (ds : Ds) (w : World) : Prop :=
 Calls Try.prog 15 #[.pointer p0, .int .i64 n1, .string s2] w fun e w10 =>
 ∃ v20_0 : Value, ∃ n20_1 : Int, e = .returned (.tuple #[v20_0, .int .i64 n20_1]) ∧
 fnE v20_0 fun fx firstx capx =>
 Br (n20_1 != 0) (
 runD Try.prog ({ target := .fn (.func fx) capx, args := (firstx.toList ++ ([] : List Value)).toArray } :: ds) w10 fun w11 =>
 R (.returned (.int .i64 n20_1)) w11) (
 ptrE p0 fun a12 =>
 ∃ l30 : SV, w10.cell? (a12.add 7) = some (.slice l30.a l30.len l30.cap) ∧
 Calls Try.prog 27 #[.slice l30.a l30.len l30.cap, .agg #[.int .i64 n1, .string s2, .int .i64 n3, .int .i64 n4]] w10 fun e w13 =>
 ∃ n36 : Int, e = .returned (.int .i64 n36) ∧
 Br (decide (n36 < 0)) (
 runD Try.prog ({ target := .fn (.func fx) capx, args := (firstx.toList ++ ([] : List Value)).toArray } :: ds) w13 fun w14 =>
 R (.returned (.int .i64 4)) w14) (
 Calls Try.prog 19 #[.pointer p0, .int .i64 n1, .string s2, .int .i64 n3, .int .i64 n4] w13 fun e w15 =>
 ∃ l44 : SV, e = .returned (.slice l44.a l44.len l44.cap) ∧
 F14_4 R p0 n1 n36 l44 ((l44.len : Nat) : Int) 0 ({ target := .fn (.func fx) capx, args := (firstx.toList ++ ([] : List Value)).toArray } :: ds) w15))
theorem c14_l : flat (bodyOf Try.f14) = [c14_0, c14_1, c14_2, c14_3, c14_4, c14_5, c14_6, c14_7, c14_8, c14_9, c14_10, c14_11, c14_12] := by kernel_rfl
theorem c14_9_l : flat (innerC c14_9) = [c14_9_0] := by kernel_rfl
theorem c14_9_0_l : flat (innerC c14_9_0) = [c14_9_0_0, c14_9_0_1, c14_9_0_2, c14_9_0_3] := by kernel_rfl
theorem F14_1_ok (R : Rt) (p0 : Option Addr) (n13 : Int) (ds : Ds) (w : World) (ρ : Env) (e0 : ρ 0 = .pointer p0) (e13 : ρ 13 = .int .i64 n13) (h : F14_1 R p0 n13 ds w) :
    TrL Try.prog Try.f14.ntmps [c14_10, c14_11, c14_12] (F14_q1 R) ρ ds w :=
  TrL_leaf (X := F14_1 R p0 n13 ds w) (setAll_cons e0 (setAll_cons e13 setAll_nil)) (by kernel_rfl) (by kernel_rfl) h
theorem F14_2_ok (R : Rt) (J1 : (Int) → World → Prop) (p0 : Option Addr) (n1 : Int) (n13 : Int) (l44 : SV) (n45 : Int) (n46 : Int) (ds : Ds) (w : World) (ρ : Env) (e0 : ρ 0 = .pointer p0) (e1 : ρ 1 = .int .i64 n1) (e13 : ρ 13 = .int .i64 n13) (e44 : ρ 44 = .slice l44.a l44.len l44.cap) (e45 : ρ 45 = .int .i64 n45) (e46 : ρ 46 = .int .i64 n46) (h : F14_2 R J1 p0 n1 n13 l44 n45 n46 ds w) :
    TrL Try.prog Try.f14.ntmps [c14_9_0_0, c14_9_0_1, c14_9_0_2, c14_9_0_3] (F14_q5 R J1) ρ ds w :=
  TrL_leaf (X := F14_2 R J1 p0 n1 n13 l44 n45 n46 ds w) (setAll_cons e0 (setAll_cons e1 (setAll_cons e13 (setAll_cons e44 (setAll_cons e45 (setAll_cons e46 setAll_nil)))))) (by kernel_rfl) (by kernel_rfl) h
theorem F14_3_ok (R : Rt) (p0 : Option Addr) (n1 : Int) (n13 : Int) (l44 : SV) (n45 : Int) (n46 : Int) (ds : Ds) (w : World) (ρ : Env) (e0 : ρ 0 = .pointer p0) (e1 : ρ 1 = .int .i64 n1) (e13 : ρ 13 = .int .i64 n13) (e44 : ρ 44 = .slice l44.a l44.len l44.cap) (e45 : ρ 45 = .int .i64 n45) (e46 : ρ 46 = .int .i64 n46) (h : F14_3 R p0 n1 n13 l44 n45 n46 ds w) :
    TrL Try.prog Try.f14.ntmps [c14_9_0] (F14_q4 R) ρ ds w :=
  TrL_one (Tr_loop' (c := innerC c14_9_0) (σ := Int) (enc := (fun (s : Int) (ρ : Env) => ρ 46 = .int .i64 s)) (D := (fun ρ K => dInt .i64 (ρ 46) fun n46 => K n46)) (F := (fun (J1 : (Int) → World → Prop) (s : Int) (w : World) => F14_2 R J1 p0 n1 n13 l44 n45 s ds w)) (s0 := n46) (by kernel_rfl) c14_9_0_l e46 (by kernel_rfl) (fun ρ K hD => by obtain ⟨n46, e46, hD⟩ := dInt_elim hD; exact ⟨n46, e46, hD⟩)
      (fun J1 s ρ' w' he ha hF => by
      have e46' := he
      exact F14_2_ok R J1 p0 n1 n13 l44 n45 s ds w' ρ' ((ha 0 (by kernel_rfl)).trans e0) ((ha 1 (by kernel_rfl)).trans e1) ((ha 13 (by kernel_rfl)).trans e13) ((ha 44 (by kernel_rfl)).trans e44) ((ha 45 (by kernel_rfl)).trans e45) e46' hF) h)
theorem F14_4_ok (R : Rt) (p0 : Option Addr) (n1 : Int) (n13 : Int) (l44 : SV) (n45 : Int) (n46 : Int) (ds : Ds) (w : World) (ρ : Env) (e0 : ρ 0 = .pointer p0) (e1 : ρ 1 = .int .i64 n1) (e13 : ρ 13 = .int .i64 n13) (e44 : ρ 44 = .slice l44.a l44.len l44.cap) (e45 : ρ 45 = .int .i64 n45) (e46 : ρ 46 = .int .i64 n46) (h : F14_4 R p0 n1 n13 l44 n45 n46 ds w) :
    TrL Try.prog Try.f14.ntmps [c14_9, c14_10, c14_11, c14_12] (F14_q1 R) ρ ds w :=
  TrL_head (K := (F14_k2 R)) (Tr_block' (c := innerC c14_9) (by kernel_rfl) c14_9_l (F14_3_ok R p0 n1 n13 l44 n45 n46 ds w ρ e0 e1 e13 e44 e45 e46 h))
    (fun ρ' ds' w' hD => by
      obtain ⟨p0, e0, hD⟩ := dPtr_elim hD; obtain ⟨n13, e13, hD⟩ := dInt_elim hD; exact F14_1_ok R p0 n13 ds' w' ρ' e0 e13 hD)
theorem F14_5_ok (R : Rt) (p0 : Option Addr) (n1 : Int) (s2 : ByteArray) (n3 : Int) (n4 : Int) (ds : Ds) (w : World) (ρ : Env) (e0 : ρ 0 = .pointer p0) (e1 : ρ 1 = .int .i64 n1) (e2 : ρ 2 = .string s2) (e3 : ρ 3 = .int .i64 n3) (e4 : ρ 4 = .int .i64 n4) (h : F14_5 R p0 n1 s2 n3 n4 ds w) :
    TrL Try.prog Try.f14.ntmps [c14_0, c14_1, c14_2, c14_3, c14_4, c14_5, c14_6, c14_7, c14_8, c14_9, c14_10, c14_11, c14_12] (F14_q1 R) ρ ds w :=
  TrL_piece (pre := [c14_0, c14_1, c14_2, c14_3, c14_4, c14_5, c14_6, c14_7, c14_8]) (K := (F14_k6 R)) (X := F14_5 R p0 n1 s2 n3 n4 ds w) (setAll_cons e0 (setAll_cons e1 (setAll_cons e2 (setAll_cons e3 (setAll_cons e4 setAll_nil))))) (by kernel_rfl) (by kernel_rfl)
    (fun ρ' ds' w' hD => by
      obtain ⟨p0, e0, hD⟩ := dPtr_elim hD; obtain ⟨n1, e1, hD⟩ := dInt_elim hD; obtain ⟨n13, e13, hD⟩ := dInt_elim hD; obtain ⟨l44, e44, hD⟩ := dSl_elim hD; obtain ⟨n45, e45, hD⟩ := dInt_elim hD; obtain ⟨n46, e46, hD⟩ := dInt_elim hD; exact F14_4_ok R p0 n1 n13 l44 n45 n46 ds' w' ρ' e0 e1 e13 e44 e45 e46 hD) h
theorem F14_calls (p0 : Option Addr) (n1 : Int) (s2 : ByteArray) (n3 : Int) (n4 : Int) (w : World) (R : Rt) (h : F14_5 R p0 n1 s2 n3 n4 [] w) : Calls Try.prog 14 #[.pointer p0, .int .i64 n1, .string s2, .int .i64 n3, .int .i64 n4] w R :=
  calls_of_L (l := [c14_0, c14_1, c14_2, c14_3, c14_4, c14_5, c14_6, c14_7, c14_8, c14_9, c14_10, c14_11, c14_12]) Try.func14 (by kernel_rfl) (by rw [Try.ntmps14]; exact Nat.le_of_ble_eq_true (by kernel_rfl)) c14_l
    (F14_5_ok R p0 n1 s2 n3 n4 [] w _ rfl rfl rfl rfl rfl h)

/-! function 15: (*cabinetry/disk.System).enter -/
noncomputable def c15_0 : Code := itemAt (flat (bodyOf Try.f15)) 0
noncomputable def c15_1 : Code := itemAt (flat (bodyOf Try.f15)) 1
noncomputable def c15_2 : Code := itemAt (flat (bodyOf Try.f15)) 2
noncomputable def c15_3 : Code := itemAt (flat (bodyOf Try.f15)) 3
noncomputable def c15_4 : Code := itemAt (flat (bodyOf Try.f15)) 4
noncomputable def c15_5 : Code := itemAt (flat (bodyOf Try.f15)) 5
noncomputable def c15_6 : Code := itemAt (flat (bodyOf Try.f15)) 6
noncomputable def c15_7 : Code := itemAt (flat (bodyOf Try.f15)) 7
noncomputable def c15_8 : Code := itemAt (flat (bodyOf Try.f15)) 8
noncomputable def c15_9 : Code := itemAt (flat (bodyOf Try.f15)) 9
noncomputable def c15_10 : Code := itemAt (flat (bodyOf Try.f15)) 10
def F15_q1 (R : Rt) : EQ := endQ Try.prog Try.f15.results.toList R
def F15_1 (R : Rt) (p0 : Option Addr) (n1 : Int) (s2 : ByteArray) (ds : Ds) (w : World) : Prop :=
 ∃ b11 : Bool, ∃ w1 : World, (eqS .eql 23 (.tmp 10) (.const (.pointer none)) (.pointer p0) (.pointer none)).run Try.prog w = .ok (.bool b11) w1 ∧
 Br b11 (
 runD Try.prog ds w1 fun w2 =>
 R (.returned (.tuple #[.func (.func 29) #[] #[], .int .i64 9])) w2) (
 ptrE p0 fun a3 =>
 Calls Try.prog 30 #[.pointer (some a3)] w1 fun e w4 =>
 e = .returned (.tuple #[]) ∧
 Br (decide (n1 < 0)) (
 ptrE p0 fun a5 =>
 runD Try.prog ds w4 fun w6 =>
 R (.returned (.tuple #[.func (.func 32) #[.pointer (some a5)] #[], .int .i64 1])) w6) (
 Br (decide (n1 ≥ 4)) (
 ptrE p0 fun a7 =>
 runD Try.prog ds w4 fun w8 =>
 R (.returned (.tuple #[.func (.func 32) #[.pointer (some a7)] #[], .int .i64 1])) w8) (
 Calls Try.prog 31 #[.string s2] w4 fun e w9 =>
 ∃ b24 : Bool, e = .returned (.bool b24) ∧
 Br (!b24) (
 ptrE p0 fun a10 =>
 runD Try.prog ds w9 fun w11 =>
 R (.returned (.tuple #[.func (.func 32) #[.pointer (some a10)] #[], .int .i64 1])) w11) (
 ptrE p0 fun a12 =>
 ∃ m35 : Option Nat, w9.cell? (a12.add 2) = some (.map m35) ∧
 ∃ l37_0 : SV, ∃ b37_1 : Bool, ∃ w13 : World, (Instr.lookup 40 (.map m35) (.string s2) true).run Try.prog w9 = .ok (.tuple #[.slice l37_0.a l37_0.len l37_0.cap, .bool b37_1]) w13 ∧
 Br (!b37_1) (
 ptrE p0 fun a14 =>
 runD Try.prog ds w13 fun w15 =>
 R (.returned (.tuple #[.func (.func 32) #[.pointer (some a14)] #[], .int .i64 4])) w15) (
 ptrE p0 fun a16 =>
 runD Try.prog ds w13 fun w17 =>
 R (.returned (.tuple #[.func (.func 32) #[.pointer (some a16)] #[], .int .i64 0])) w17)))))
theorem c15_l : flat (bodyOf Try.f15) = [c15_0, c15_1, c15_2, c15_3, c15_4, c15_5, c15_6, c15_7, c15_8, c15_9, c15_10] := by kernel_rfl
theorem F15_1_ok (R : Rt) (p0 : Option Addr) (n1 : Int) (s2 : ByteArray) (ds : Ds) (w : World) (ρ : Env) (e0 : ρ 0 = .pointer p0) (e1 : ρ 1 = .int .i64 n1) (e2 : ρ 2 = .string s2) (h : F15_1 R p0 n1 s2 ds w) :
    TrL Try.prog Try.f15.ntmps [c15_0, c15_1, c15_2, c15_3, c15_4, c15_5, c15_6, c15_7, c15_8, c15_9, c15_10] (F15_q1 R) ρ ds w :=
  TrL_leaf (X := F15_1 R p0 n1 s2 ds w) (setAll_cons e0 (setAll_cons e1 (setAll_cons e2 setAll_nil))) (by kernel_rfl) (by kernel_rfl) h
theorem F15_calls (p0 : Option Addr) (n1 : Int) (s2 : ByteArray) (w : World) (R : Rt) (h : F15_1 R p0 n1 s2 [] w) : Calls Try.prog 15 #[.pointer p0, .int .i64 n1, .string s2] w R :=
  calls_of_L (l := [c15_0, c15_1, c15_2, c15_3, c15_4, c15_5, c15_6, c15_7, c15_8, c15_9, c15_10]) Try.func15 (by kernel_rfl) (by rw [Try.ntmps15]; exact Nat.le_of_ble_eq_true (by kernel_rfl)) c15_l
    (F15_1_ok R p0 n1 s2 [] w _ rfl rfl rfl h)
theorem F15_callsD (p0 : Option Addr) (n1 : Int) (s2 : ByteArray) (w : World) (R : Rt) (u : FrameMode) (h : F15_1 R p0 n1 s2 [] w) : CallsD Try.prog 15 #[.pointer p0, .int .i64 n1, .string s2] u w fun e u' w' => u' = u ∧ R e w' :=
  callsD_of_L (l := [c15_0, c15_1, c15_2, c15_3, c15_4, c15_5, c15_6, c15_7, c15_8, c15_9, c15_10]) Try.func15 (by kernel_rfl) (by rw [Try.ntmps15]; exact Nat.le_of_ble_eq_true (by kernel_rfl)) (by kernel_rfl) c15_l
    (F15_1_ok R p0 n1 s2 [] w _ rfl rfl rfl h) u

/-! function 16: (*cabinetry/disk.System).shorten -/
noncomputable def c16_0 : Code := itemAt (flat (bodyOf Try.f16)) 0
noncomputable def c16_1 : Code := itemAt (flat (bodyOf Try.f16)) 1
noncomputable def c16_1_0 : Code := itemAt (flat (innerC c16_1)) 0
noncomputable def c16_1_0_0 : Code := itemAt (flat (innerC c16_1_0)) 0
noncomputable def c16_1_0_1 : Code := itemAt (flat (innerC c16_1_0)) 1
noncomputable def c16_1_0_2 : Code := itemAt (flat (innerC c16_1_0)) 2
noncomputable def c16_1_0_2_0 : Code := itemAt (flat (innerC c16_1_0_2)) 0
noncomputable def c16_1_0_2_1 : Code := itemAt (flat (innerC c16_1_0_2)) 1
noncomputable def c16_1_0_2_2 : Code := itemAt (flat (innerC c16_1_0_2)) 2
noncomputable def c16_1_0_2_3 : Code := itemAt (flat (innerC c16_1_0_2)) 3
noncomputable def c16_1_0_2_4 : Code := itemAt (flat (innerC c16_1_0_2)) 4
noncomputable def c16_1_0_2_5 : Code := itemAt (flat (innerC c16_1_0_2)) 5
noncomputable def c16_1_0_2_6 : Code := itemAt (flat (innerC c16_1_0_2)) 6
noncomputable def c16_1_0_2_7 : Code := itemAt (flat (innerC c16_1_0_2)) 7
noncomputable def c16_1_0_2_4_0 : Code := itemAt (flat (innerC c16_1_0_2_4)) 0
noncomputable def c16_1_0_2_4_0_0 : Code := itemAt (flat (innerC c16_1_0_2_4_0)) 0
noncomputable def c16_1_0_2_4_0_1 : Code := itemAt (flat (innerC c16_1_0_2_4_0)) 1
noncomputable def c16_1_0_2_4_0_2 : Code := itemAt (flat (innerC c16_1_0_2_4_0)) 2
noncomputable def c16_1_0_2_4_0_3 : Code := itemAt (flat (innerC c16_1_0_2_4_0)) 3
def F16_q1 (R : Rt) : EQ := endQ Try.prog Try.f16.results.toList R
def F16_q2 (R : Rt) : EQ := (blockQ 0 (F16_q1 R))
def F16_q3 (R : Rt) (J1 : (Unit) → World → Prop) : EQ := (thenQ (fun ρ _ w => J1 () w) (F16_q2 R))
def F16_q4 (R : Rt) (J1 : (Unit) → World → Prop) : EQ := (blockQ 1 (F16_q3 R J1))
def F16_1 (R : Rt) (J1 : (Unit) → World → Prop) (p0 : Option Addr) (n1 : Int) (s2 : ByteArray) (n3 : Int) (p8 : Option Addr) (p9 : Option Addr) (p17 : Option Addr) (ds : Ds) (w : World) : Prop :=
 dwE w fun w1 =>
 ptrE p0 fun a2 =>
 0 ≤ n1 ∧ n1 < ((4 : Nat) : Int) ∧
 ∃ m59 : Option Nat, w1.cell? ((a2.add 3).add (n1.toNat * 1)) = some (.map m59) ∧
 ptrE p8 fun a3 =>
 ∃ s60_0 : ByteArray, w1.cell? (a3.add 0) = some (.string s60_0) ∧
 ∃ n60_1 : Int, w1.cell? (a3.add 1) = some (.int .i64 n60_1) ∧
 ptrE p9 fun a4 =>
 ∃ c61 : Array Value, c61.size = 96 ∧ (∀ i, i < 96 → w1.cell? (a4.add i) = c61[i]?) ∧
 doE Try.prog (Instr.mapUpdate 48 (.map m59) (.agg #[.string s60_0, .int .i64 n60_1]) (.agg c61)) w1 fun w5 =>
 ptrE p8 fun a6 =>
 ∃ n63 : Int, w5.cell? (a6.add 1) = some (.int .i64 n63) ∧
 Br (decide ((IntKind.i64.wrap (n63 * 32)) ≥ n3)) (
 dwE w5 fun w7 =>
 ptrE p0 fun a8 =>
 0 ≤ n1 ∧ n1 < ((4 : Nat) : Int) ∧
 ∃ m72 : Option Nat, w7.cell? ((a8.add 3).add (n1.toNat * 1)) = some (.map m72) ∧
 ptrE p8 fun a9 =>
 ∃ s73_0 : ByteArray, w7.cell? (a9.add 0) = some (.string s73_0) ∧
 ∃ n73_1 : Int, w7.cell? (a9.add 1) = some (.int .i64 n73_1) ∧
 ∃ w10 : World, (Builtin.delete_ #[48, 66] 0 #[.map m72, .agg #[.string s73_0, .int .i64 n73_1]]).run Try.prog w7 = .ok (.tuple #[]) w10 ∧
 J1 () w10) (
 J1 () w5)
def F16_k5 (R : Rt) (J1 : (Unit) → World → Prop) : EP := (fun ρ ds w => dPtr (ρ 0) fun p0 => dInt .i64 (ρ 1) fun n1 => dStr (ρ 2) fun s2 => dInt .i64 (ρ 3) fun n3 => dPtr (ρ 8) fun p8 => dPtr (ρ 9) fun p9 => dPtr (ρ 17) fun p17 => F16_1 R J1 p0 n1 s2 n3 p8 p9 p17 ds w)
def F16_q6 (R : Rt) (J1 : (Unit) → World → Prop) : EQ := (thenQ (F16_k5 R J1) (F16_q4 R J1))
def F16_q7 (R : Rt) (J1 : (Unit) → World → Prop) : EQ := (blockQ 2 (F16_q6 R J1))
def F16_q8 (R : Rt) (J1 : (Unit) → World → Prop) (J2 : (Int) → World → Prop) : EQ := (thenQ (fun ρ _ w => dInt .i64 (ρ 10) fun n10 => J2 n10 w) (F16_q7 R J1))
def F16_2 (R : Rt) (J1 : (Unit) → World → Prop) (J2 : (Int) → World → Prop) (p0 : Option Addr) (n1 : Int) (s2 : ByteArray) (n3 : Int) (p8 : Option Addr) (p9 : Option Addr) (n10 : Int) (p17 : Option Addr) (ds : Ds) (w : World) : Prop :=
 Br (decide (n10 < 32)) (
 ptrE p9 fun a11 =>
 0 ≤ n10 ∧ n10 < ((32 : Nat) : Int) ∧
 st1 ((a11.add 32).add (n10.toNat * 1)) (.bool false) w fun w12 =>
 ptrE p9 fun a13 =>
 0 ≤ n10 ∧ n10 < ((32 : Nat) : Int) ∧
 st1 ((a13.add 64).add (n10.toNat * 1)) (.bool false) w12 fun w14 =>
 ptrE p9 fun a15 =>
 0 ≤ n10 ∧ n10 < ((32 : Nat) : Int) ∧
 st1 (a15.add (n10.toNat * 1)) (.int .u8 0) w14 fun w16 =>
 J2 (IntKind.i64.wrap (n10 + 1)) w16) (
 F16_1 R J1 p0 n1 s2 n3 p8 p9 p17 ds w)
def F16_3 (R : Rt) (J1 : (Unit) → World → Prop) (p0 : Option Addr) (n1 : Int) (s2 : ByteArray) (n3 : Int) (p8 : Option Addr) (p9 : Option Addr) (n10 : Int) (p17 : Option Addr) (ds : Ds) (w : World) : Prop :=
 loopT (fun (J2 : (Int) → World → Prop) (s : Int) (w : World) => F16_2 R J1 J2 p0 n1 s2 n3 p8 p9 s p17 ds w) n10 w
@[reducible] def F16_4 (R : Rt) (J1 : (Unit) → World → Prop) (p0 : Option Addr) (n1 : Int) (s2 : ByteArray) (n3 : Int) (p8 : Option Addr) (p9 : Option Addr) (n10 : Int) (p17 : Option Addr) (ds : Ds) (w : World) : Prop := F16_3 R J1 p0 n1 s2 n3 p8 p9 n10 p17 ds w
def F16_k9 (R : Rt) (J1 : (Unit) → World → Prop) : EP := (fun ρ ds w => dPtr (ρ 0) fun p0 => dInt .i64 (ρ 1) fun n1 => dStr (ρ 2) fun s2 => dInt .i64 (ρ 3) fun n3 => dPtr (ρ 8) fun p8 => dPtr (ρ 9) fun p9 => dInt .i64 (ρ 10) fun n10 => dPtr (ρ 17) fun p17 => F16_4 R J1 p0 n1 s2 n3 p8 p9 n10 p17 ds w)
def F16_5 (R : Rt) (J1 : (Unit) → World → Prop) (p0 : Option Addr) (n1 : Int) (s2 : ByteArray) (n3 : Int) (p17 : Option Addr) (ds : Ds) (w : World) : Prop :=
 ∃ k20 v20 : Value, ∃ w17 : World, (Instr.entry (.pointer p17)).run Try.prog w = .ok (.tuple #[k20, v20]) w17 ∧
 dAgg k20 fun q21 =>
 dHd q21 fun x21_0 q21_0 =>
 dStr x21_0 fun s21_0 =>
 dHd q21_0 fun x21_1 q21_1 =>
 dInt .i64 x21_1 fun n21_1 =>
 dNil q21_1 (
 dRow v20 fun c22 =>
 alE (.cells #[.string (⟨#[]⟩ : ByteArray), .int .i64 0] 66) w17 fun r8 w18 =>
 alE (.cells (zc Try.prog 61) 61) w18 fun r9 w19 =>
 stA Try.prog 66 (⟨r8, 0, none⟩ : Addr) #[.string s21_0, .int .i64 n21_1] w19 fun w20 =>
 stA Try.prog 61 (⟨r9, 0, none⟩ : Addr) c22 w20 fun w21 =>
 ∃ s24 : ByteArray, w21.cell? (⟨r8, 0, none⟩ : Addr) = some (.string s24) ∧
 Br (!(s24.toList == s2.toList)) (
 J1 () w21) (
 ∃ n29 : Int, w21.cell? ((⟨r8, 0, none⟩ : Addr).add 1) = some (.int .i64 n29) ∧
 Br (decide ((IntKind.i64.wrap ((IntKind.i64.wrap (n29 + 1)) * 32)) ≤ n3)) (
 J1 () w21) (
 ∃ n37 : Int, w21.cell? ((⟨r8, 0, none⟩ : Addr).add 1) = some (.int .i64 n37) ∧
 ∃ n40 : Int, ∃ w22 : World, (Builtin.max_ #[3, 3] 3 #[.int .i64 0, .int .i64 (IntKind.i64.wrap (n3 - (IntKind.i64.wrap (n37 * 32))))]).run Try.prog w21 = .ok (.int .i64 n40) w22 ∧
 F16_4 R J1 p0 n1 s2 n3 (some (⟨r8, 0, none⟩ : Addr)) (some (⟨r9, 0, none⟩ : Addr)) n40 p17 ds w22)))
@[reducible] def F16_6 (R : Rt) (J1 : (Unit) → World → Prop) (p0 : Option Addr) (n1 : Int) (s2 : ByteArray) (n3 : Int) (p17 : Option Addr) (ds : Ds) (w : World) : Prop := F16_5 R J1 p0 n1 s2 n3 p17 ds w
def F16_k10 (R : Rt) (J1 : (Unit) → World → Prop) : EP := (fun ρ ds w => dPtr (ρ 0) fun p0 => dInt .i64 (ρ 1) fun n1 => dStr (ρ 2) fun s2 => dInt .i64 (ρ 3) fun n3 => dPtr (ρ 17) fun p17 => F16_6 R J1 p0 n1 s2 n3 p17 ds w)
def F16_7 (R : Rt) (J1 : (Unit) → World → Prop) (p0 : Option Addr) (n1 : Int) (s2 : ByteArray) (n3 : Int) (p17 : Option Addr) (ds : Ds) (w : World) : Prop :=
 (∃ w23 : World, (Instr.next (.pointer p17) false 0).run Try.prog w = .ok (.tuple #[.bool false]) w23 ∧
 runD Try.prog ds w23 fun w25 =>
 R (.returned (.tuple #[])) w25) ∨ (∃ k18 v18 : Value, ∃ w24 : World, (Instr.next (.pointer p17) false 0).run Try.prog w = .ok (.tuple #[.bool true, k18, v18]) w24 ∧
 F16_6 R J1 p0 n1 s2 n3 p17 ds w24)
def F16_8 (R : Rt) (p0 : Option Addr) (n1 : Int) (s2 : ByteArray) (n3 : Int) (p17 : Option Addr) (ds : Ds) (w : World) : Prop :=
 loopT (fun (J1 : (Unit) → World → Prop) (_ : Unit) (w : World) => F16_7 R J1 p0 n1 s2 n3 p17 ds w) () w
@[reducible] def F16_9 (R : Rt) (p0 : Option Addr) (n1 : Int) (s2 : ByteArray) (n3 : Int) (p17 : Option Addr) (ds : Ds) (w : World) : Prop := F16_8 R p0 n1 s2 n3 p17 ds w
def F16_k11 (R : Rt) : EP := (fun ρ ds w => dPtr (ρ 0) fun p0 => dInt .i64 (ρ 1) fun n1 => dStr (ρ 2) fun s2 => dInt .i64 (ρ 3) fun n3 => dPtr (ρ 17) fun p17 => F16_9 R p0 n1 s2 n3 p17 ds w)
def F16_10 (R : Rt) (p0 : Option Addr) (n1 : Int) (s2 : ByteArray) (n3 : Int) (ds : Ds) (w : World) : Prop :=
 ptrE p0 fun a26 =>
 0 ≤ n1 ∧ n1 < ((4 : Nat) : Int) ∧
 ∃ m16 : Option Nat, w.cell? ((a26.add 3).add (n1.toNat * 1)) = some (.map m16) ∧
 ∃ p17 : Option Addr, ∃ w27 : World, (Instr.range 48 (.map m16)).run Try.prog w = .ok (.pointer p17) w27 ∧
 F16_9 R p0 n1 s2 n3 p17 ds w27
theorem c16_l : flat (bodyOf Try.f16) = [c16_0, c16_1] := by kernel_rfl
theorem c16_1_l : flat (innerC c16_1) = [c16_1_0] := by kernel_rfl
theorem c16_1_0_l : flat (innerC c16_1_0) = [c16_1_0_0, c16_1_0_1, c16_1_0_2] := by kernel_rfl
theorem c16_1_0_2_l : flat (innerC c16_1_0_2) = [c16_1_0_2_0, c16_1_0_2_1, c16_1_0_2_2, c16_1_0_2_3, c16_1_0_2_4, c16_1_0_2_5, c16_1_0_2_6, c16_1_0_2_7] := by kernel_rfl
theorem c16_1_0_2_4_l : flat (innerC c16_1_0_2_4) = [c16_1_0_2_4_0] := by kernel_rfl
theorem c16_1_0_2_4_0_l : flat (innerC c16_1_0_2_4_0) = [c16_1_0_2_4_0_0, c16_1_0_2_4_0_1, c16_1_0_2_4_0_2, c16_1_0_2_4_0_3] := by kernel_rfl
theorem F16_1_ok (R : Rt) (J1 : (Unit) → World → Prop) (p0 : Option Addr) (n1 : Int) (s2 : ByteArray) (n3 : Int) (p8 : Option Addr) (p9 : Option Addr) (p17 : Option Addr) (ds : Ds) (w : World) (ρ : Env) (e0 : ρ 0 = .pointer p0) (e1 : ρ 1 = .int .i64 n1) (e2 : ρ 2 = .string s2) (e3 : ρ 3 = .int .i64 n3) (e8 : ρ 8 = .pointer p8) (e9 : ρ 9 = .pointer p9) (e17 : ρ 17 = .pointer p17) (h : F16_1 R J1 p0 n1 s2 n3 p8 p9 p17 ds w) :
    TrL Try.prog Try.f16.ntmps [c16_1_0_2_5, c16_1_0_2_6, c16_1_0_2_7] (F16_q4 R J1) ρ ds w :=
  TrL_leaf (X := F16_1 R J1 p0 n1 s2 n3 p8 p9 p17 ds w) (setAll_cons e0 (setAll_cons e1 (setAll_cons e2 (setAll_cons e3 (setAll_cons e8 (setAll_cons e9 (setAll_cons e17 setAll_nil))))))) (by kernel_rfl) (by kernel_rfl) h
theorem F16_2_ok (R : Rt) (J1 : (Unit) → World → Prop) (J2 : (Int) → World → Prop) (p0 : Option Addr) (n1 : Int) (s2 : ByteArray) (n3 : Int) (p8 : Option Addr) (p9 : Option Addr) (n10 : Int) (p17 : Option Addr) (ds : Ds) (w : World) (ρ : Env) (e0 : ρ 0 = .pointer p0) (e1 : ρ 1 = .int .i64 n1) (e2 : ρ 2 = .string s2) (e3 : ρ 3 = .int .i64 n3) (e8 : ρ 8 = .pointer p8) (e9 : ρ 9 = .pointer p9) (e10 : ρ 10 = .int .i64 n10) (e17 : ρ 17 = .pointer p17) (h : F16_2 R J1 J2 p0 n1 s2 n3 p8 p9 n10 p17 ds w) :
    TrL Try.prog Try.f16.ntmps [c16_1_0_2_4_0_0, c16_1_0_2_4_0_1, c16_1_0_2_4_0_2, c16_1_0_2_4_0_3] (F16_q8 R J1 J2) ρ ds w :=
  TrL_leaf (X := F16_2 R J1 J2 p0 n1 s2 n3 p8 p9 n10 p17 ds w) (setAll_cons e0 (setAll_cons e1 (setAll_cons e2 (setAll_cons e3 (setAll_cons e8 (setAll_cons e9 (setAll_cons e10 (setAll_cons e17 setAll_nil)))))))) (by kernel_rfl) (by kernel_rfl) h
theorem F16_3_ok (R : Rt) (J1 : (Unit) → World → Prop) (p0 : Option Addr) (n1 : Int) (s2 : ByteArray) (n3 : Int) (p8 : Option Addr) (p9 : Option Addr) (n10 : Int) (p17 : Option Addr) (ds : Ds) (w : World) (ρ : Env) (e0 : ρ 0 = .pointer p0) (e1 : ρ 1 = .int .i64 n1) (e2 : ρ 2 = .string s2) (e3 : ρ 3 = .int .i64 n3) (e8 : ρ 8 = .pointer p8) (e9 : ρ 9 = .pointer p9) (e10 : ρ 10 = .int .i64 n10) (e17 : ρ 17 = .pointer p17) (h : F16_3 R J1 p0 n1 s2 n3 p8 p9 n10 p17 ds w) :
    TrL Try.prog Try.f16.ntmps [c16_1_0_2_4_0] (F16_q7 R J1) ρ ds w :=
  TrL_one (Tr_loop' (c := innerC c16_1_0_2_4_0) (σ := Int) (enc := (fun (s : Int) (ρ : Env) => ρ 10 = .int .i64 s)) (D := (fun ρ K => dInt .i64 (ρ 10) fun n10 => K n10)) (F := (fun (J2 : (Int) → World → Prop) (s : Int) (w : World) => F16_2 R J1 J2 p0 n1 s2 n3 p8 p9 s p17 ds w)) (s0 := n10) (by kernel_rfl) c16_1_0_2_4_0_l e10 (by kernel_rfl) (fun ρ K hD => by obtain ⟨n10, e10, hD⟩ := dInt_elim hD; exact ⟨n10, e10, hD⟩)
      (fun J2 s ρ' w' he ha hF => by
      have e10' := he
      exact F16_2_ok R J1 J2 p0 n1 s2 n3 p8 p9 s p17 ds w' ρ' ((ha 0 (by kernel_rfl)).trans e0) ((ha 1 (by kernel_rfl)).trans e1) ((ha 2 (by kernel_rfl)).trans e2) ((ha 3 (by kernel_rfl)).trans e3) ((ha 8 (by kernel_rfl)).trans e8) ((ha 9 (by kernel_rfl)).trans e9) e10' ((ha 17 (by kernel_rfl)).trans e17) hF) h)
theorem F16_4_ok (R : Rt) (J1 : (Unit) → World → Prop) (p0 : Option Addr) (n1 : Int) (s2 : ByteArray) (n3 : Int) (p8 : Option Addr) (p9 : Option Addr) (n10 : Int) (p17 : Option Addr) (ds : Ds) (w : World) (ρ : Env) (e0 : ρ 0 = .pointer p0) (e1 : ρ 1 = .int .i64 n1) (e2 : ρ 2 = .string s2) (e3 : ρ 3 = .int .i64 n3) (e8 : ρ 8 = .pointer p8) (e9 : ρ 9 = .pointer p9) (e10 : ρ 10 = .int .i64 n10) (e17 : ρ 17 = .pointer p17) (h : F16_4 R J1 p0 n1 s2 n3 p8 p9 n10 p17 ds w) :
    TrL Try.prog Try.f16.ntmps [c16_1_0_2_4, c16_1_0_2_5, c16_1_0_2_6, c16_1_0_2_7] (F16_q4 R J1) ρ ds w :=
  TrL_head (K := (F16_k5 R J1)) (Tr_block' (c := innerC c16_1_0_2_4) (by kernel_rfl) c16_1_0_2_4_l (F16_3_ok R J1 p0 n1 s2 n3 p8 p9 n10 p17 ds w ρ e0 e1 e2 e3 e8 e9 e10 e17 h))
    (fun ρ' ds' w' hD => by
      obtain ⟨p0, e0, hD⟩ := dPtr_elim hD; obtain ⟨n1, e1, hD⟩ := dInt_elim hD; obtain ⟨s2, e2, hD⟩ := dStr_elim hD; obtain ⟨n3, e3, hD⟩ := dInt_elim hD; obtain ⟨p8, e8, hD⟩ := dPtr_elim hD; obtain ⟨p9, e9, hD⟩ := dPtr_elim hD; obtain ⟨p17, e17, hD⟩ := dPtr_elim hD; exact F16_1_ok R J1 p0 n1 s2 n3 p8 p9 p17 ds' w' ρ' e0 e1 e2 e3 e8 e9 e17 hD)
theorem F16_5_ok (R : Rt) (J1 : (Unit) → World → Prop) (p0 : Option Addr) (n1 : Int) (s2 : ByteArray) (n3 : Int) (p17 : Option Addr) (ds : Ds) (w : World) (ρ : Env) (e0 : ρ 0 = .pointer p0) (e1 : ρ 1 = .int .i64 n1) (e2 : ρ 2 = .string s2) (e3 : ρ 3 = .int .i64 n3) (e17 : ρ 17 = .pointer p17) (h : F16_5 R J1 p0 n1 s2 n3 p17 ds w) :
    TrL Try.prog Try.f16.ntmps [c16_1_0_2_0, c16_1_0_2_1, c16_1_0_2_2, c16_1_0_2_3, c16_1_0_2_4, c16_1_0_2_5, c16_1_0_2_6, c16_1_0_2_7] (F16_q4 R J1) ρ ds w :=
  TrL_piece (pre := [c16_1_0_2_0, c16_1_0_2_1, c16_1_0_2_2, c16_1_0_2_3]) (K := (F16_k9 R J1)) (X := F16_5 R J1 p0 n1 s2 n3 p17 ds w) (setAll_cons e0 (setAll_cons e1 (setAll_cons e2 (setAll_cons e3 (setAll_cons e17 setAll_nil))))) (by kernel_rfl) (by kernel_rfl)
    (fun ρ' ds' w' hD => by
      obtain ⟨p0, e0, hD⟩ := dPtr_elim hD; obtain ⟨n1, e1, hD⟩ := dInt_elim hD; obtain ⟨s2, e2, hD⟩ := dStr_elim hD; obtain ⟨n3, e3, hD⟩ := dInt_elim hD; obtain ⟨p8, e8, hD⟩ := dPtr_elim hD; obtain ⟨p9, e9, hD⟩ := dPtr_elim hD; obtain ⟨n10, e10, hD⟩ := dInt_elim hD; obtain ⟨p17, e17, hD⟩ := dPtr_elim hD; exact F16_4_ok R J1 p0 n1 s2 n3 p8 p9 n10 p17 ds' w' ρ' e0 e1 e2 e3 e8 e9 e10 e17 hD) h
theorem F16_6_ok (R : Rt) (J1 : (Unit) → World → Prop) (p0 : Option Addr) (n1 : Int) (s2 : ByteArray) (n3 : Int) (p17 : Option Addr) (ds : Ds) (w : World) (ρ : Env) (e0 : ρ 0 = .pointer p0) (e1 : ρ 1 = .int .i64 n1) (e2 : ρ 2 = .string s2) (e3 : ρ 3 = .int .i64 n3) (e17 : ρ 17 = .pointer p17) (h : F16_6 R J1 p0 n1 s2 n3 p17 ds w) :
    TrL Try.prog Try.f16.ntmps [c16_1_0_2] (F16_q3 R J1) ρ ds w :=
  TrL_one (Tr_block' (c := innerC c16_1_0_2) (by kernel_rfl) c16_1_0_2_l (F16_5_ok R J1 p0 n1 s2 n3 p17 ds w ρ e0 e1 e2 e3 e17 h))
theorem F16_7_ok (R : Rt) (J1 : (Unit) → World → Prop) (p0 : Option Addr) (n1 : Int) (s2 : ByteArray) (n3 : Int) (p17 : Option Addr) (ds : Ds) (w : World) (ρ : Env) (e0 : ρ 0 = .pointer p0) (e1 : ρ 1 = .int .i64 n1) (e2 : ρ 2 = .string s2) (e3 : ρ 3 = .int .i64 n3) (e17 : ρ 17 = .pointer p17) (h : F16_7 R J1 p0 n1 s2 n3 p17 ds w) :
    TrL Try.prog Try.f16.ntmps [c16_1_0_0, c16_1_0_1, c16_1_0_2] (F16_q3 R J1) ρ ds w :=
  TrL_piece (pre := [c16_1_0_0, c16_1_0_1]) (K := (F16_k10 R J1)) (X := F16_7 R J1 p0 n1 s2 n3 p17 ds w) (setAll_cons e0 (setAll_cons e1 (setAll_cons e2 (setAll_cons e3 (setAll_cons e17 setAll_nil))))) (by kernel_rfl) (by kernel_rfl)
    (fun ρ' ds' w' hD => by
      obtain ⟨p0, e0, hD⟩ := dPtr_elim hD; obtain ⟨n1, e1, hD⟩ := dInt_elim hD; obtain ⟨s2, e2, hD⟩ := dStr_elim hD; obtain ⟨n3, e3, hD⟩ := dInt_elim hD; obtain ⟨p17, e17, hD⟩ := dPtr_elim hD; exact F16_6_ok R J1 p0 n1 s2 n3 p17 ds' w' ρ' e0 e1 e2 e3 e17 hD) h
theorem F16_8_ok (R : Rt) (p0 : Option Addr) (n1 : Int) (s2 : ByteArray) (n3 : Int) (p17 : Option Addr) (ds : Ds) (w : World) (ρ : Env) (e0 : ρ 0 = .pointer p0) (e1 : ρ 1 = .int .i64 n1) (e2 : ρ 2 = .string s2) (e3 : ρ 3 = .int .i64 n3) (e17 : ρ 17 = .pointer p17) (h : F16_8 R p0 n1 s2 n3 p17 ds w) :
    TrL Try.prog Try.f16.ntmps [c16_1_0] (F16_q2 R) ρ ds w :=
  TrL_one (Tr_loop' (c := innerC c16_1_0) (σ := Unit) (enc := (fun (_ : Unit) (_ : Env) => True)) (D := (fun ρ K => K ())) (F := (fun (J1 : (Unit) → World → Prop) (_ : Unit) (w : World) => F16_7 R J1 p0 n1 s2 n3 p17 ds w)) (s0 := ()) (by kernel_rfl) c16_1_0_l trivial (by kernel_rfl) (fun ρ K hD => by exact ⟨(), trivial, hD⟩)
      (fun J1 _ ρ' w' he ha hF => by
      skip
      exact F16_7_ok R J1 p0 n1 s2 n3 p17 ds w' ρ' ((ha 0 (by kernel_rfl)).trans e0) ((ha 1 (by kernel_rfl)).trans e1) ((ha 2 (by kernel_rfl)).trans e2) ((ha 3 (by kernel_rfl)).trans e3) ((ha 17 (by kernel_rfl)).trans e17) hF) h)
theorem F16_9_ok (R : Rt) (p0 : Option Addr) (n1 : Int) (s2 : ByteArray) (n3 : Int) (p17 : Option Addr) (ds : Ds) (w : World) (ρ : Env) (e0 : ρ 0 = .pointer p0) (e1 : ρ 1 = .int .i64 n1) (e2 : ρ 2 = .string s2) (e3 : ρ 3 = .int .i64 n3) (e17 : ρ 17 = .pointer p17) (h : F16_9 R p0 n1 s2 n3 p17 ds w) :
    TrL Try.prog Try.f16.ntmps [c16_1] (F16_q1 R) ρ ds w :=
  TrL_one (Tr_block' (c := innerC c16_1) (by kernel_rfl) c16_1_l (F16_8_ok R p0 n1 s2 n3 p17 ds w ρ e0 e1 e2 e3 e17 h))
theorem F16_10_ok (R : Rt) (p0 : Option Addr) (n1 : Int) (s2 : ByteArray) (n3 : Int) (ds : Ds) (w : World) (ρ : Env) (e0 : ρ 0 = .pointer p0) (e1 : ρ 1 = .int .i64 n1) (e2 : ρ 2 = .string s2) (e3 : ρ 3 = .int .i64 n3) (h : F16_10 R p0 n1 s2 n3 ds w) :
    TrL Try.prog Try.f16.ntmps [c16_0, c16_1] (F16_q1 R) ρ ds w :=
  TrL_piece (pre := [c16_0]) (K := (F16_k11 R)) (X := F16_10 R p0 n1 s2 n3 ds w) (setAll_cons e0 (setAll_cons e1 (setAll_cons e2 (setAll_cons e3 setAll_nil)))) (by kernel_rfl) (by kernel_rfl)
    (fun ρ' ds' w' hD => by
      obtain ⟨p0, e0, hD⟩ := dPtr_elim hD; obtain ⟨n1, e1, hD⟩ := dInt_elim hD; obtain ⟨s2, e2, hD⟩ := dStr_elim hD; obtain ⟨n3, e3, hD⟩ := dInt_elim hD; obtain ⟨p17, e17, hD⟩ := dPtr_elim hD; exact F16_9_ok R p0 n1 s2 n3 p17 ds' w' ρ' e0 e1 e2 e3 e17 hD) h
theorem F16_calls (p0 : Option Addr) (n1 : Int) (s2 : ByteArray) (n3 : Int) (w : World) (R : Rt) (h : F16_10 R p0 n1 s2 n3 [] w) : Calls Try.prog 16 #[.pointer p0, .int .i64 n1, .string s2, .int .i64 n3] w R :=
  calls_of_L (l := [c16_0, c16_1]) Try.func16 (by kernel_rfl) (by rw [Try.ntmps16]; exact Nat.le_of_ble_eq_true (by kernel_rfl)) c16_l
    (F16_10_ok R p0 n1 s2 n3 [] w _ rfl rfl rfl rfl h)
theorem F16_callsD (p0 : Option Addr) (n1 : Int) (s2 : ByteArray) (n3 : Int) (w : World) (R : Rt) (u : FrameMode) (h : F16_10 R p0 n1 s2 n3 [] w) : CallsD Try.prog 16 #[.pointer p0, .int .i64 n1, .string s2, .int .i64 n3] u w fun e u' w' => u' = u ∧ R e w' :=
  callsD_of_L (l := [c16_0, c16_1]) Try.func16 (by kernel_rfl) (by rw [Try.ntmps16]; exact Nat.le_of_ble_eq_true (by kernel_rfl)) (by kernel_rfl) c16_l
    (F16_10_ok R p0 n1 s2 n3 [] w _ rfl rfl rfl rfl h) u

/-! function 17: (*cabinetry/disk.System).each -/
noncomputable def c17_0 : Code := itemAt (flat (bodyOf Try.f17)) 0
noncomputable def c17_1 : Code := itemAt (flat (bodyOf Try.f17)) 1
noncomputable def c17_1_0 : Code := itemAt (flat (innerC c17_1)) 0
noncomputable def c17_1_0_0 : Code := itemAt (flat (innerC c17_1_0)) 0
noncomputable def c17_1_0_1 : Code := itemAt (flat (innerC c17_1_0)) 1
noncomputable def c17_1_0_2 : Code := itemAt (flat (innerC c17_1_0)) 2
noncomputable def c17_1_0_2_0 : Code := itemAt (flat (innerC c17_1_0_2)) 0
noncomputable def c17_1_0_2_1 : Code := itemAt (flat (innerC c17_1_0_2)) 1
noncomputable def c17_1_0_2_2 : Code := itemAt (flat (innerC c17_1_0_2)) 2
noncomputable def c17_1_0_2_3 : Code := itemAt (flat (innerC c17_1_0_2)) 3
noncomputable def c17_1_0_2_4 : Code := itemAt (flat (innerC c17_1_0_2)) 4
noncomputable def c17_1_0_2_3_0 : Code := itemAt (flat (innerC c17_1_0_2_3)) 0
noncomputable def c17_1_0_2_3_0_0 : Code := itemAt (flat (innerC c17_1_0_2_3_0)) 0
noncomputable def c17_1_0_2_3_0_1 : Code := itemAt (flat (innerC c17_1_0_2_3_0)) 1
noncomputable def c17_1_0_2_3_0_2 : Code := itemAt (flat (innerC c17_1_0_2_3_0)) 2
noncomputable def c17_1_0_2_3_0_3 : Code := itemAt (flat (innerC c17_1_0_2_3_0)) 3
def F17_q1 (R : Rt) : EQ := endQ Try.prog Try.f17.results.toList R
def F17_q2 (R : Rt) : EQ := (blockQ 0 (F17_q1 R))
def F17_q3 (R : Rt) (J1 : (Int) → World → Prop) : EQ := (thenQ (fun ρ _ w => dInt .i64 (ρ 12) fun n12 => J1 n12 w) (F17_q2 R))
def F17_q4 (R : Rt) (J1 : (Int) → World → Prop) : EQ := (blockQ 1 (F17_q3 R J1))
def F17_1 (R : Rt) (J1 : (Int) → World → Prop) (p0 : Option Addr) (n1 : Int) (s2 : ByteArray) (n3 : Int) (n4 : Int) (v5 : Value) (n12 : Int) (p13 : Option Addr) (p14 : Option Addr) (ds : Ds) (w : World) : Prop :=
 dwE w fun w1 =>
 ptrE p0 fun a2 =>
 0 ≤ n1 ∧ n1 < ((4 : Nat) : Int) ∧
 ∃ m55 : Option Nat, w1.cell? ((a2.add 3).add (n1.toNat * 1)) = some (.map m55) ∧
 ptrE p13 fun a3 =>
 ∃ s56_0 : ByteArray, w1.cell? (a3.add 0) = some (.string s56_0) ∧
 ∃ n56_1 : Int, w1.cell? (a3.add 1) = some (.int .i64 n56_1) ∧
 ptrE p14 fun a4 =>
 ∃ c57 : Array Value, c57.size = 96 ∧ (∀ i, i < 96 → w1.cell? (a4.add i) = c57[i]?) ∧
 doE Try.prog (Instr.mapUpdate 48 (.map m55) (.agg #[.string s56_0, .int .i64 n56_1]) (.agg c57)) w1 fun w5 =>
 J1 n12 w5
def F17_k5 (R : Rt) (J1 : (Int) → World → Prop) : EP := (fun ρ ds w => dPtr (ρ 0) fun p0 => dInt .i64 (ρ 1) fun n1 => dStr (ρ 2) fun s2 => dInt .i64 (ρ 3) fun n3 => dInt .i64 (ρ 4) fun n4 => dInt .i64 (ρ 12) fun n12 => dPtr (ρ 13) fun p13 => dPtr (ρ 14) fun p14 => F17_1 R J1 p0 n1 s2 n3 n4 (ρ 5) n12 p13 p14 ds w)
def F17_q6 (R : Rt) (J1 : (Int) → World → Prop) : EQ := (thenQ (F17_k5 R J1) (F17_q4 R J1))
def F17_q7 (R : Rt) (J1 : (Int) → World → Prop) : EQ := (blockQ 2 (F17_q6 R J1))
def F17_q8 (R : Rt) (J1 : (Int) → World → Prop) (J2 : (Int × Int) → World → Prop) : EQ := (thenQ (fun ρ _ w => dInt .i64 (ρ 12) fun n12 => dInt .i64 (ρ 15) fun n15 => J2 (n12, n15) w) (F17_q7 R J1))
def F17_2 (R : Rt) (J1 : (Int) → World → Prop) (J2 : (Int × Int) → World → Prop) (p0 : Option Addr) (n1 : Int) (s2 : ByteArray) (n3 : Int) (n4 : Int) (v5 : Value) (n12 : Int) (p13 : Option Addr) (p14 : Option Addr) (n15 : Int) (ds : Ds) (w : World) : Prop :=
 Br (decide (n15 < 32)) (
 Br (decide (n12 < n4)) (
 fnE v5 fun f47 first47 cap47 =>
 hasBody Try.prog f47 = true ∧ Calls Try.prog f47 (first47.toList ++ (([.pointer p14, .int .i64 n15, .int .i64 n12] : List Value) ++ cap47.toList)).toArray w fun e w6 =>
 e = .returned (.tuple #[]) ∧
 J2 ((IntKind.i64.wrap (n12 + 1)), (IntKind.i64.wrap (n15 + 1))) w6) (
 F17_1 R J1 p0 n1 s2 n3 n4 (v5) n12 p13 p14 ds w)) (
 F17_1 R J1 p0 n1 s2 n3 n4 (v5) n12 p13 p14 ds w)
def F17_3 (R : Rt) (J1 : (Int) → World → Prop) (p0 : Option Addr) (n1 : Int) (s2 : ByteArray) (n3 : Int) (n4 : Int) (v5 : Value) (n12 : Int) (p13 : Option Addr) (p14 : Option Addr) (n15 : Int) (ds : Ds) (w : World) : Prop :=
 loopT (fun (J2 : (Int × Int) → World → Prop) (s : Int × Int) (w : World) => F17_2 R J1 J2 p0 n1 s2 n3 n4 v5 s.1 p13 p14 s.2 ds w) (n12, n15) w
@[reducible] def F17_4 (R : Rt) (J1 : (Int) → World → Prop) (p0 : Option Addr) (n1 : Int) (s2 : ByteArray) (n3 : Int) (n4 : Int) (v5 : Value) (n12 : Int) (p13 : Option Addr) (p14 : Option Addr) (n15 : Int) (ds : Ds) (w : World) : Prop := F17_3 R J1 p0 n1 s2 n3 n4 v5 n12 p13 p14 n15 ds w
def F17_k9 (R : Rt) (J1 : (Int) → World → Prop) : EP := (fun ρ ds w => dPtr (ρ 0) fun p0 => dInt .i64 (ρ 1) fun n1 => dStr (ρ 2) fun s2 => dInt .i64 (ρ 3) fun n3 => dInt .i64 (ρ 4) fun n4 => dInt .i64 (ρ 12) fun n12 => dPtr (ρ 13) fun p13 => dPtr (ρ 14) fun p14 => dInt .i64 (ρ 15) fun n15 => F17_4 R J1 p0 n1 s2 n3 n4 (ρ 5) n12 p13 p14 n15 ds w)
def F17_5 (R : Rt) (J1 : (Int) → World → Prop) (p0 : Option Addr) (n1 : Int) (s2 : ByteArray) (n3 : Int) (n4 : Int) (v5 : Value) (n12 : Int) (ds : Ds) (w : World) : Prop :=
 IntKind.i64 = IntKind.i64 ∧ (32 : Int) ≠ 0 ∧
 alE (.cells #[.string (⟨#[]⟩ : ByteArray), .int .i64 0] 66) w fun r13 w7 =>
 stA Try.prog 66 (⟨r13, 0, none⟩ : Addr) #[.string s2, .int .i64 (IntKind.i64.wrap ((IntKind.i64.wrap (n3 + n12)).tdiv 32))] w7 fun w8 =>
 ∃ s27_0 : ByteArray, w8.cell? ((⟨r13, 0, none⟩ : Addr).add 0) = some (.string s27_0) ∧
 ∃ n27_1 : Int, w8.cell? ((⟨r13, 0, none⟩ : Addr).add 1) = some (.int .i64 n27_1) ∧
 Calls Try.prog 33 #[.pointer p0, .int .i64 n1, .agg #[.string s27_0, .int .i64 n27_1], .int .i64 n3, .int .i64 n4] w8 fun e w9 =>
 ∃ c30 : Array Value, c30.size = 96 ∧ e = .returned (.agg c30) ∧
 alE (.cells (zc Try.prog 61) 61) w9 fun r14 w10 =>
 stA Try.prog 61 (⟨r14, 0, none⟩ : Addr) c30 w10 fun w11 =>
 IntKind.i64 = IntKind.i64 ∧ (32 : Int) ≠ 0 ∧
 F17_4 R J1 p0 n1 s2 n3 n4 (v5) n12 (some (⟨r13, 0, none⟩ : Addr)) (some (⟨r14, 0, none⟩ : Addr)) ((IntKind.i64.wrap (n3 + n12)).tmod 32) ds w11
@[reducible] def F17_6 (R : Rt) (J1 : (Int) → World → Prop) (p0 : Option Addr) (n1 : Int) (s2 : ByteArray) (n3 : Int) (n4 : Int) (v5 : Value) (n12 : Int) (ds : Ds) (w : World) : Prop := F17_5 R J1 p0 n1 s2 n3 n4 v5 n12 ds w
def F17_k10 (R : Rt) (J1 : (Int) → World → Prop) : EP := (fun ρ ds w => dPtr (ρ 0) fun p0 => dInt .i64 (ρ 1) fun n1 => dStr (ρ 2) fun s2 => dInt .i64 (ρ 3) fun n3 => dInt .i64 (ρ 4) fun n4 => dInt .i64 (ρ 12) fun n12 => F17_6 R J1 p0 n1 s2 n3 n4 (ρ 5) n12 ds w)
def F17_7 (R : Rt) (J1 : (Int) → World → Prop) (p0 : Option Addr) (n1 : Int) (s2 : ByteArray) (n3 : Int) (n4 : Int) (v5 : Value) (n12 : Int) (ds : Ds) (w : World) : Prop :=
 Br (decide (n12 < n4)) (
 F17_6 R J1 p0 n1 s2 n3 n4 (v5) n12 ds w) (
 runD Try.prog ds w fun w12 =>
 R (.returned (.tuple #[])) w12)
def F17_8 (R : Rt) (p0 : Option Addr) (n1 : Int) (s2 : ByteArray) (n3 : Int) (n4 : Int) (v5 : Value) (n12 : Int) (ds : Ds) (w : World) : Prop :=
 loopT (fun (J1 : (Int) → World → Prop) (s : Int) (w : World) => F17_7 R J1 p0 n1 s2 n3 n4 v5 s ds w) n12 w
@[reducible] def F17_9 (R : Rt) (p0 : Option Addr) (n1 : Int) (s2 : ByteArray) (n3 : Int) (n4 : Int) (v5 : Value) (n12 : Int) (ds : Ds) (w : World) : Prop := F17_8 R p0 n1 s2 n3 n4 v5 n12 ds w
def F17_k11 (R : Rt) : EP := (fun ρ ds w => dPtr (ρ 0) fun p0 => dInt .i64 (ρ 1) fun n1 => dStr (ρ 2) fun s2 => dInt .i64 (ρ 3) fun n3 => dInt .i64 (ρ 4) fun n4 => dInt .i64 (ρ 12) fun n12 => F17_9 R p0 n1 s2 n3 n4 (ρ 5) n12 ds w)
def F17_10 (R : Rt) (p0 : Option Addr) (n1 : Int) (s2 : ByteArray) (n3 : Int) (n4 : Int) (v5 : Value) (ds : Ds) (w : World) : Prop :=
 F17_9 R p0 n1 s2 n3 n4 (v5) 0 ds w
theorem c17_l : flat (bodyOf Try.f17) = [c17_0, c17_1] := by kernel_rfl
theorem c17_1_l : flat (innerC c17_1) = [c17_1_0] := by kernel_rfl
theorem c17_1_0_l : flat (innerC c17_1_0) = [c17_1_0_0, c17_1_0_1, c17_1_0_2] := by kernel_rfl
theorem c17_1_0_2_l : flat (innerC c17_1_0_2) = [c17_1_0_2_0, c17_1_0_2_1, c17_1_0_2_2, c17_1_0_2_3, c17_1_0_2_4] := by kernel_rfl
theorem c17_1_0_2_3_l : flat (innerC c17_1_0_2_3) = [c17_1_0_2_3_0] := by kernel_rfl
theorem c17_1_0_2_3_0_l : flat (innerC c17_1_0_2_3_0) = [c17_1_0_2_3_0_0, c17_1_0_2_3_0_1, c17_1_0_2_3_0_2, c17_1_0_2_3_0_3] := by kernel_rfl
theorem F17_1_ok (R : Rt) (J1 : (Int) → World → Prop) (p0 : Option Addr) (n1 : Int) (s2 : ByteArray) (n3 : Int) (n4 : Int) (v5 : Value) (n12 : Int) (p13 : Option Addr) (p14 : Option Addr) (ds : Ds) (w : World) (ρ : Env) (e0 : ρ 0 = .pointer p0) (e1 : ρ 1 = .int .i64 n1) (e2 : ρ 2 = .string s2) (e3 : ρ 3 = .int .i64 n3) (e4 : ρ 4 = .int .i64 n4) (e5 : ρ 5 = v5) (e12 : ρ 12 = .int .i64 n12) (e13 : ρ 13 = .pointer p13) (e14 : ρ 14 = .pointer p14) (h : F17_1 R J1 p0 n1 s2 n3 n4 v5 n12 p13 p14 ds w) :
    TrL Try.prog Try.f17.ntmps [c17_1_0_2_4] (F17_q4 R J1) ρ ds w :=
  TrL_leaf (X := F17_1 R J1 p0 n1 s2 n3 n4 v5 n12 p13 p14 ds w) (setAll_cons e0 (setAll_cons e1 (setAll_cons e2 (setAll_cons e3 (setAll_cons e4 (setAll_cons e5 (setAll_cons e12 (setAll_cons e13 (setAll_cons e14 setAll_nil))))))))) (by kernel_rfl) (by kernel_rfl) h
theorem F17_2_ok (R : Rt) (J1 : (Int) → World → Prop) (J2 : (Int × Int) → World → Prop) (p0 : Option Addr) (n1 : Int) (s2 : ByteArray) (n3 : Int) (n4 : Int) (v5 : Value) (n12 : Int) (p13 : Option Addr) (p14 : Option Addr) (n15 : Int) (ds : Ds) (w : World) (ρ : Env) (e0 : ρ 0 = .pointer p0) (e1 : ρ 1 = .int .i64 n1) (e2 : ρ 2 = .string s2) (e3 : ρ 3 = .int .i64 n3) (e4 : ρ 4 = .int .i64 n4) (e5 : ρ 5 = v5) (e12 : ρ 12 = .int .i64 n12) (e13 : ρ 13 = .pointer p13) (e14 : ρ 14 = .pointer p14) (e15 : ρ 15 = .int .i64 n15) (h : F17_2 R J1 J2 p0 n1 s2 n3 n4 v5 n12 p13 p14 n15 ds w) :
    TrL Try.prog Try.f17.ntmps [c17_1_0_2_3_0_0, c17_1_0_2_3_0_1, c17_1_0_2_3_0_2, c17_1_0_2_3_0_3] (F17_q8 R J1 J2) ρ ds w :=
  TrL_leaf (X := F17_2 R J1 J2 p0 n1 s2 n3 n4 v5 n12 p13 p14 n15 ds w) (setAll_cons e0 (setAll_cons e1 (setAll_cons e2 (setAll_cons e3 (setAll_cons e4 (setAll_cons e5 (setAll_cons e12 (setAll_cons e13 (setAll_cons e14 (setAll_cons e15 setAll_nil)))))))))) (by kernel_rfl) (by kernel_rfl) h
theorem F17_3_ok (R : Rt) (J1 : (Int) → World → Prop) (p0 : Option Addr) (n1 : Int) (s2 : ByteArray) (n3 : Int) (n4 : Int) (v5 : Value) (n12 : Int) (p13 : Option Addr) (p14 : Option Addr) (n15 : Int) (ds : Ds) (w : World) (ρ : Env) (e0 : ρ 0 = .pointer p0) (e1 : ρ 1 = .int .i64 n1) (e2 : ρ 2 = .string s2) (e3 : ρ 3 = .int .i64 n3) (e4 : ρ 4 = .int .i64 n4) (e5 : ρ 5 = v5) (e12 : ρ 12 = .int .i64 n12) (e13 : ρ 13 = .pointer p13) (e14 : ρ 14 = .pointer p14) (e15 : ρ 15 = .int .i64 n15) (h : F17_3 R J1 p0 n1 s2 n3 n4 v5 n12 p13 p14 n15 ds w) :
    TrL Try.prog Try.f17.ntmps [c17_1_0_2_3_0] (F17_q7 R J1) ρ ds w :=
  TrL_one (Tr_loop' (c := innerC c17_1_0_2_3_0) (σ := Int × Int) (enc := (fun (s : Int × Int) (ρ : Env) => ρ 12 = .int .i64 s.1 ∧ ρ 15 = .int .i64 s.2)) (D := (fun ρ K => dInt .i64 (ρ 12) fun n12 => dInt .i64 (ρ 15) fun n15 => K (n12, n15))) (F := (fun (J2 : (Int × Int) → World → Prop) (s : Int × Int) (w : World) => F17_2 R J1 J2 p0 n1 s2 n3 n4 v5 s.1 p13 p14 s.2 ds w)) (s0 := (n12, n15)) (by kernel_rfl) c17_1_0_2_3_0_l ⟨e12, e15⟩ (by kernel_rfl) (fun ρ K hD => by obtain ⟨n12, e12, hD⟩ := dInt_elim hD; obtain ⟨n15, e15, hD⟩ := dInt_elim hD; exact ⟨(n12, n15), ⟨e12, e15⟩, hD⟩)
      (fun J2 s ρ' w' he ha hF => by
      obtain ⟨e12', e15'⟩ := he
      exact F17_2_ok R J1 J2 p0 n1 s2 n3 n4 v5 s.1 p13 p14 s.2 ds w' ρ' ((ha 0 (by kernel_rfl)).trans e0) ((ha 1 (by kernel_rfl)).trans e1) ((ha 2 (by kernel_rfl)).trans e2) ((ha 3 (by kernel_rfl)).trans e3) ((ha 4 (by kernel_rfl)).trans e4) ((ha 5 (by kernel_rfl)).trans e5) e12' ((ha 13 (by kernel_rfl)).trans e13) ((ha 14 (by kernel_rfl)).trans e14) e15' hF) h)
theorem F17_4_ok (R : Rt) (J1 : (Int) → World → Prop) (p0 : Option Addr) (n1 : Int) (s2 : ByteArray) (n3 : Int) (n4 : Int) (v5 : Value) (n12 : Int) (p13 : Option Addr) (p14 : Option Addr) (n15 : Int) (ds : Ds) (w : World) (ρ : Env) (e0 : ρ 0 = .pointer p0) (e1 : ρ 1 = .int .i64 n1) (e2 : ρ 2 = .string s2) (e3 : ρ 3 = .int .i64 n3) (e4 : ρ 4 = .int .i64 n4) (e5 : ρ 5 = v5) (e12 : ρ 12 = .int .i64 n12) (e13 : ρ 13 = .pointer p13) (e14 : ρ 14 = .pointer p14) (e15 : ρ 15 = .int .i64 n15) (h : F17_4 R J1 p0 n1 s2 n3 n4 v5 n12 p13 p14 n15 ds w) :
    TrL Try.prog Try.f17.ntmps [c17_1_0_2_3, c17_1_0_2_4] (F17_q4 R J1) ρ ds w :=
  TrL_head (K := (F17_k5 R J1)) (Tr_block' (c := innerC c17_1_0_2_3) (by kernel_rfl) c17_1_0_2_3_l (F17_3_ok R J1 p0 n1 s2 n3 n4 v5 n12 p13 p14 n15 ds w ρ e0 e1 e2 e3 e4 e5 e12 e13 e14 e15 h))
    (fun ρ' ds' w' hD => by
      obtain ⟨p0, e0, hD⟩ := dPtr_elim hD; obtain ⟨n1, e1, hD⟩ := dInt_elim hD; obtain ⟨s2, e2, hD⟩ := dStr_elim hD; obtain ⟨n3, e3, hD⟩ := dInt_elim hD; obtain ⟨n4, e4, hD⟩ := dInt_elim hD; obtain ⟨n12, e12, hD⟩ := dInt_elim hD; obtain ⟨p13, e13, hD⟩ := dPtr_elim hD; obtain ⟨p14, e14, hD⟩ := dPtr_elim hD; exact F17_1_ok R J1 p0 n1 s2 n3 n4 (ρ' 5) n12 p13 p14 ds' w' ρ' e0 e1 e2 e3 e4 rfl e12 e13 e14 hD)
theorem F17_5_ok (R : Rt) (J1 : (Int) → World → Prop) (p0 : Option Addr) (n1 : Int) (s2 : ByteArray) (n3 : Int) (n4 : Int) (v5 : Value) (n12 : Int) (ds : Ds) (w : World) (ρ : Env) (e0 : ρ 0 = .pointer p0) (e1 : ρ 1 = .int .i64 n1) (e2 : ρ 2 = .string s2) (e3 : ρ 3 = .int .i64 n3) (e4 : ρ 4 = .int .i64 n4) (e5 : ρ 5 = v5) (e12 : ρ 12 = .int .i64 n12) (h : F17_5 R J1 p0 n1 s2 n3 n4 v5 n12 ds w) :
    TrL Try.prog Try.f17.ntmps [c17_1_0_2_0, c17_1_0_2_1, c17_1_0_2_2, c17_1_0_2_3, c17_1_0_2_4] (F17_q4 R J1) ρ ds w :=
  TrL_piece (pre := [c17_1_0_2_0, c17_1_0_2_1, c17_1_0_2_2]) (K := (F17_k9 R J1)) (X := F17_5 R J1 p0 n1 s2 n3 n4 v5 n12 ds w) (setAll_cons e0 (setAll_cons e1 (setAll_cons e2 (setAll_cons e3 (setAll_cons e4 (setAll_cons e5 (setAll_cons e12 setAll_nil))))))) (by kernel_rfl) (by kernel_rfl)
    (fun ρ' ds' w' hD => by
      obtain ⟨p0, e0, hD⟩ := dPtr_elim hD; obtain ⟨n1, e1, hD⟩ := dInt_elim hD; obtain ⟨s2, e2, hD⟩ := dStr_elim hD; obtain ⟨n3, e3, hD⟩ := dInt_elim hD; obtain ⟨n4, e4, hD⟩ := dInt_elim hD; obtain ⟨n12, e12, hD⟩ := dInt_elim hD; obtain ⟨p13, e13, hD⟩ := dPtr_elim hD; obtain ⟨p14, e14, hD⟩ := dPtr_elim hD; obtain ⟨n15, e15, hD⟩ := dInt_elim hD; exact F17_4_ok R J1 p0 n1 s2 n3 n4 (ρ' 5) n12 p13 p14 n15 ds' w' ρ' e0 e1 e2 e3 e4 rfl e12 e13 e14 e15 hD) h
theorem F17_6_ok (R : Rt) (J1 : (Int) → World → Prop) (p0 : Option Addr) (n1 : Int) (s2 : ByteArray) (n3 : Int) (n4 : Int) (v5 : Value) (n12 : Int) (ds : Ds) (w : World) (ρ : Env) (e0 : ρ 0 = .pointer p0) (e1 : ρ 1 = .int .i64 n1) (e2 : ρ 2 = .string s2) (e3 : ρ 3 = .int .i64 n3) (e4 : ρ 4 = .int .i64 n4) (e5 : ρ 5 = v5) (e12 : ρ 12 = .int .i64 n12) (h : F17_6 R J1 p0 n1 s2 n3 n4 v5 n12 ds w) :
    TrL Try.prog Try.f17.ntmps [c17_1_0_2] (F17_q3 R J1) ρ ds w :=
  TrL_one (Tr_block' (c := innerC c17_1_0_2) (by kernel_rfl) c17_1_0_2_l (F17_5_ok R J1 p0 n1 s2 n3 n4 v5 n12 ds w ρ e0 e1 e2 e3 e4 e5 e12 h))
theorem F17_7_ok (R : Rt) (J1 : (Int) → World → Prop) (p0 : Option Addr) (n1 : Int) (s2 : ByteArray) (n3 : Int) (n4 : Int) (v5 : Value) (n12 : Int) (ds : Ds) (w : World) (ρ : Env) (e0 : ρ 0 = .pointer p0) (e1 : ρ 1 = .int .i64 n1) (e2 : ρ 2 = .string s2) (e3 : ρ 3 = .int .i64 n3) (e4 : ρ 4 = .int .i64 n4) (e5 : ρ 5 = v5) (e12 : ρ 12 = .int .i64 n12) (h : F17_7 R J1 p0 n1 s2 n3 n4 v5 n12 ds w) :
    TrL Try.prog Try.f17.ntmps [c17_1_0_0, c17_1_0_1, c17_1_0_2] (F17_q3 R J1) ρ ds w :=
  TrL_piece (pre := [c17_1_0_0, c17_1_0_1]) (K := (F17_k10 R J1)) (X := F17_7 R J1 p0 n1 s2 n3 n4 v5 n12 ds w) (setAll_cons e0 (setAll_cons e1 (setAll_cons e2 (setAll_cons e3 (setAll_cons e4 (setAll_cons e5 (setAll_cons e12 setAll_nil))))))) (by kernel_rfl) (by kernel_rfl)
    (fun ρ' ds' w' hD => by
      obtain ⟨p0, e0, hD⟩ := dPtr_elim hD; obtain ⟨n1, e1, hD⟩ := dInt_elim hD; obtain ⟨s2, e2, hD⟩ := dStr_elim hD; obtain ⟨n3, e3, hD⟩ := dInt_elim hD; obtain ⟨n4, e4, hD⟩ := dInt_elim hD; obtain ⟨n12, e12, hD⟩ := dInt_elim hD; exact F17_6_ok R J1 p0 n1 s2 n3 n4 (ρ' 5) n12 ds' w' ρ' e0 e1 e2 e3 e4 rfl e12 hD) h
theorem F17_8_ok (R : Rt) (p0 : Option Addr) (n1 : Int) (s2 : ByteArray) (n3 : Int) (n4 : Int) (v5 : Value) (n12 : Int) (ds : Ds) (w : World) (ρ : Env) (e0 : ρ 0 = .pointer p0) (e1 : ρ 1 = .int .i64 n1) (e2 : ρ 2 = .string s2) (e3 : ρ 3 = .int .i64 n3) (e4 : ρ 4 = .int .i64 n4) (e5 : ρ 5 = v5) (e12 : ρ 12 = .int .i64 n12) (h : F17_8 R p0 n1 s2 n3 n4 v5 n12 ds w) :
    TrL Try.prog Try.f17.ntmps [c17_1_0] (F17_q2 R) ρ ds w :=
  TrL_one (Tr_loop' (c := innerC c17_1_0) (σ := Int) (enc := (fun (s : Int) (ρ : Env) => ρ 12 = .int .i64 s)) (D := (fun ρ K => dInt .i64 (ρ 12) fun n12 => K n12)) (F := (fun (J1 : (Int) → World → Prop) (s : Int) (w : World) => F17_7 R J1 p0 n1 s2 n3 n4 v5 s ds w)) (s0 := n12) (by kernel_rfl) c17_1_0_l e12 (by kernel_rfl) (fun ρ K hD => by obtain ⟨n12, e12, hD⟩ := dInt_elim hD; exact ⟨n12, e12, hD⟩)
      (fun J1 s ρ' w' he ha hF => by
      have e12' := he
      exact F17_7_ok R J1 p0 n1 s2 n3 n4 v5 s ds w' ρ' ((ha 0 (by kernel_rfl)).trans e0) ((ha 1 (by kernel_rfl)).trans e1) ((ha 2 (by kernel_rfl)).trans e2) ((ha 3 (by kernel_rfl)).trans e3) ((ha 4 (by kernel_rfl)).trans e4) ((ha 5 (by kernel_rfl)).trans e5) e12' hF) h)
theorem F17_9_ok (R : Rt) (p0 : Option Addr) (n1 : Int) (s2 : ByteArray) (n3 : Int) (n4 : Int) (v5 : Value) (n12 : Int) (ds : Ds) (w : World) (ρ : Env) (e0 : ρ 0 = .pointer p0) (e1 : ρ 1 = .int .i64 n1) (e2 : ρ 2 = .string s2) (e3 : ρ 3 = .int .i64 n3) (e4 : ρ 4 = .int .i64 n4) (e5 : ρ 5 = v5) (e12 : ρ 12 = .int .i64 n12) (h : F17_9 R p0 n1 s2 n3 n4 v5 n12 ds w) :
    TrL Try.prog Try.f17.ntmps [c17_1] (F17_q1 R) ρ ds w :=
  TrL_one (Tr_block' (c := innerC c17_1) (by kernel_rfl) c17_1_l (F17_8_ok R p0 n1 s2 n3 n4 v5 n12 ds w ρ e0 e1 e2 e3 e4 e5 e12 h))
theorem F17_10_ok (R : Rt) (p0 : Option Addr) (n1 : Int) (s2 : ByteArray) (n3 : Int) (n4 : Int) (v5 : Value) (ds : Ds) (w : World) (ρ : Env) (e0 : ρ 0 = .pointer p0) (e1 : ρ 1 = .int .i64 n1) (e2 : ρ 2 = .string s2) (e3 : ρ 3 = .int .i64 n3) (e4 : ρ 4 = .int .i64 n4) (e5 : ρ 5 = v5) (h : F17_10 R p0 n1 s2 n3 n4 v5 ds w) :
    TrL Try.prog Try.f17.ntmps [c17_0, c17_1] (F17_q1 R) ρ ds w :=
  TrL_piece (pre := [c17_0]) (K := (F17_k11 R)) (X := F17_10 R p0 n1 s2 n3 n4 v5 ds w) (setAll_cons e0 (setAll_cons e1 (setAll_cons e2 (setAll_cons e3 (setAll_cons e4 (setAll_cons e5 setAll_nil)))))) (by kernel_rfl) (by kernel_rfl)
    (fun ρ' ds' w' hD => by
      obtain ⟨p0, e0, hD⟩ := dPtr_elim hD; obtain ⟨n1, e1, hD⟩ := dInt_elim hD; obtain ⟨s2, e2, hD⟩ := dStr_elim hD; obtain ⟨n3, e3, hD⟩ := dInt_elim hD; obtain ⟨n4, e4, hD⟩ := dInt_elim hD; obtain ⟨n12, e12, hD⟩ := dInt_elim hD; exact F17_9_ok R p0 n1 s2 n3 n4 (ρ' 5) n12 ds' w' ρ' e0 e1 e2 e3 e4 rfl e12 hD) h
theorem F17_calls (p0 : Option Addr) (n1 : Int) (s2 : ByteArray) (n3 : Int) (n4 : Int) (v5 : Value) (w : World) (R : Rt) (h : F17_10 R p0 n1 s2 n3 n4 v5 [] w) : Calls Try.prog 17 #[.pointer p0, .int .i64 n1, .string s2, .int .i64 n3, .int .i64 n4, v5] w R :=
  calls_of_L (l := [c17_0, c17_1]) Try.func17 (by kernel_rfl) (by rw [Try.ntmps17]; exact Nat.le_of_ble_eq_true (by kernel_rfl)) c17_l
    (F17_10_ok R p0 n1 s2 n3 n4 v5 [] w _ rfl rfl rfl rfl rfl rfl h)
theorem F17_callsD (p0 : Option Addr) (n1 : Int) (s2 : ByteArray) (n3 : Int) (n4 : Int) (v5 : Value) (w : World) (R : Rt) (u : FrameMode) (h : F17_10 R p0 n1 s2 n3 n4 v5 [] w) : CallsD Try.prog 17 #[.pointer p0, .int .i64 n1, .string s2, .int .i64 n3, .int .i64 n4, v5] u w fun e u' w' => u' = u ∧ R e w' :=
  callsD_of_L (l := [c17_0, c17_1]) Try.func17 (by kernel_rfl) (by rw [Try.ntmps17]; exact Nat.le_of_ble_eq_true (by kernel_rfl)) (by kernel_rfl) c17_l
    (F17_10_ok R p0 n1 s2 n3 n4 v5 [] w _ rfl rfl rfl rfl rfl rfl h) u

/-! function 18: (*cabinetry/disk.System).Write$1 -/
noncomputable def c18_0 : Code := itemAt (flat (bodyOf Try.f18)) 0
def F18_q1 (R : Rt) : EQ := endQ Try.prog Try.f18.results.toList R
def F18_1 (R : Rt) (p0 : Option Addr) (n1 : Int) (n2 : Int) (v3 : Value) (ds : Ds) (w : World) : Prop :=
 dwE w fun w1 =>
 addrE v3 fun a2 =>
 ∃ l13 : SV, w1.cell? a2 = some (.slice l13.a l13.len l13.cap) ∧
 ∃ a3 : Addr, l13.a = some a3 ∧ 0 ≤ n2 ∧ n2 < ((l13.len : Nat) : Int) ∧
 ∃ n16 : Int, w1.cell? (a3.add (n2.toNat * 1)) = some (.int .u8 n16) ∧
 ptrE p0 fun a4 =>
 0 ≤ n1 ∧ n1 < ((32 : Nat) : Int) ∧
 ptrE p0 fun a5 =>
 ptrE p0 fun a6 =>
 st1 (a4.add (n1.toNat * 1)) (.int .u8 n16) w1 fun w7 =>
 0 ≤ n1 ∧ n1 < ((32 : Nat) : Int) ∧
 st1 ((a5.add 32).add (n1.toNat * 1)) (.bool true) w7 fun w8 =>
 0 ≤ n1 ∧ n1 < ((32 : Nat) : Int) ∧
 st1 ((a6.add 64).add (n1.toNat * 1)) (.bool true) w8 fun w9 =>
 runD Try.prog ds w9 fun w10 =>
 R (.returned (.tuple #[])) w10
theorem c18_l : flat (bodyOf Try.f18) = [c18_0] := by kernel_rfl
theorem F18_1_ok (R : Rt) (p0 : Option Addr) (n1 : Int) (n2 : Int) (v3 : Value) (ds : Ds) (w : World) (ρ : Env) (e0 : ρ 0 = .pointer p0) (e1 : ρ 1 = .int .i64 n1) (e2 : ρ 2 = .int .i64 n2) (e3 : ρ 3 = v3) (h : F18_1 R p0 n1 n2 v3 ds w) :
    TrL Try.prog Try.f18.ntmps [c18_0] (F18_q1 R) ρ ds w :=
  TrL_leaf (X := F18_1 R p0 n1 n2 v3 ds w) (setAll_cons e0 (setAll_cons e1 (setAll_cons e2 (setAll_cons e3 setAll_nil)))) (by kernel_rfl) (by kernel_rfl) h
theorem F18_calls (p0 : Option Addr) (n1 : Int) (n2 : Int) (v3 : Value) (w : World) (R : Rt) (h : F18_1 R p0 n1 n2 v3 [] w) : Calls Try.prog 18 #[.pointer p0, .int .i64 n1, .int .i64 n2, v3] w R :=
  calls_of_L (l := [c18_0]) Try.func18 (by kernel_rfl) (by rw [Try.ntmps18]; exact Nat.le_of_ble_eq_true (by kernel_rfl)) c18_l
    (F18_1_ok R p0 n1 n2 v3 [] w _ rfl rfl rfl rfl h)
theorem F18_callsD (p0 : Option Addr) (n1 : Int) (n2 : Int) (v3 : Value) (w : World) (R : Rt) (u : FrameMode) (h : F18_1 R p0 n1 n2 v3 [] w) : CallsD Try.prog 18 #[.pointer p0, .int .i64 n1, .int .i64 n2, v3] u w fun e u' w' => u' = u ∧ R e w' :=
  callsD_of_L (l := [c18_0]) Try.func18 (by kernel_rfl) (by rw [Try.ntmps18]; exact Nat.le_of_ble_eq_true (by kernel_rfl)) (by kernel_rfl) c18_l
    (F18_1_ok R p0 n1 n2 v3 [] w _ rfl rfl rfl rfl h) u

/-! function 19: (*cabinetry/disk.System).pages -/
noncomputable def c19_0 : Code := itemAt (flat (bodyOf Try.f19)) 0
noncomputable def c19_1 : Code := itemAt (flat (bodyOf Try.f19)) 1
noncomputable def c19_2 : Code := itemAt (flat (bodyOf Try.f19)) 2
noncomputable def c19_3 : Code := itemAt (flat (bodyOf Try.f19)) 3
noncomputable def c19_4 : Code := itemAt (flat (bodyOf Try.f19)) 4
noncomputable def c19_5 : Code := itemAt (flat (bodyOf Try.f19)) 5
noncomputable def c19_3_0 : Code := itemAt (flat (innerC c19_3)) 0
noncomputable def c19_3_0_0 : Code := itemAt (flat (innerC c19_3_0)) 0
noncomputable def c19_3_0_1 : Code := itemAt (flat (innerC c19_3_0)) 1
noncomputable def c19_3_0_2 : Code := itemAt (flat (innerC c19_3_0)) 2
def F19_q1 (R : Rt) : EQ := endQ Try.prog Try.f19.results.toList R
def F19_1 (R : Rt) (l11 : SV) (ds : Ds) (w : World) : Prop :=
 runD Try.prog ds w fun w1 =>
 R (.returned (.slice l11.a l11.len l11.cap)) w1
def F19_k2 (R : Rt) : EP := (fun ρ ds w => dSl (ρ 11) fun l11 => F19_1 R l11 ds w)
def F19_q3 (R : Rt) : EQ := (thenQ (F19_k2 R) (F19_q1 R))
def F19_q4 (R : Rt) : EQ := (blockQ 0 (F19_q3 R))
def F19_q5 (R : Rt) (J1 : (SV) → World → Prop) : EQ := (thenQ (fun ρ _ w => dSl (ρ 11) fun l11 => J1 l11 w) (F19_q4 R))
def F19_2 (R : Rt) (J1 : (SV) → World → Prop) (s2 : ByteArray) (n3 : Int) (n4 : Int) (l11 : SV) (p19 : Option Addr) (ds : Ds) (w : World) : Prop :=
 (∃ w2 : World, (Instr.next (.pointer p19) false 0).run Try.prog w = .ok (.tuple #[.bool false]) w2 ∧
 F19_1 R l11 ds w2) ∨ (∃ k20 v20 : Value, ∃ w3 : World, (Instr.next (.pointer p19) false 0).run Try.prog w = .ok (.tuple #[.bool true, k20, v20]) w3 ∧
 ∃ k22 v22 : Value, ∃ w4 : World, (Instr.entry (.pointer p19)).run Try.prog w3 = .ok (.tuple #[k22, v22]) w4 ∧
 dAgg k22 fun q23 =>
 dHd q23 fun x23_0 q23_0 =>
 dStr x23_0 fun s23_0 =>
 dHd q23_0 fun x23_1 q23_1 =>
 dInt .i64 x23_1 fun n23_1 =>
 dNil q23_1 (
 alE (.cells #[.string (⟨#[]⟩ : ByteArray), .int .i64 0] 66) w4 fun r12 w5 =>
 stA Try.prog 66 (⟨r12, 0, none⟩ : Addr) #[.string s23_0, .int .i64 n23_1] w5 fun w6 =>
 ∃ s25 : ByteArray, w6.cell? (⟨r12, 0, none⟩ : Addr) = some (.string s25) ∧
 Br (s25.toList == s2.toList) (
 ∃ n30 : Int, w6.cell? ((⟨r12, 0, none⟩ : Addr).add 1) = some (.int .i64 n30) ∧
 Br (decide ((IntKind.i64.wrap (n30 * 32)) < (IntKind.i64.wrap (n3 + n4)))) (
 ∃ n40 : Int, w6.cell? ((⟨r12, 0, none⟩ : Addr).add 1) = some (.int .i64 n40) ∧
 Br (decide (n3 < (IntKind.i64.wrap ((IntKind.i64.wrap (n40 + 1)) * 32)))) (
 ∃ s46_0 : ByteArray, w6.cell? ((⟨r12, 0, none⟩ : Addr).add 0) = some (.string s46_0) ∧
 ∃ n46_1 : Int, w6.cell? ((⟨r12, 0, none⟩ : Addr).add 1) = some (.int .i64 n46_1) ∧
 alE (.cells #[.string s46_0, .int .i64 n46_1] 66) w6 fun r47 w7 =>
 ∃ l48 : SV, ∃ w8 : World, (Builtin.append_ #[63, 63] 63 #[.slice l11.a l11.len l11.cap, .slice (some ⟨r47, 0, none⟩) 1 1]).run Try.prog w7 = .ok (.slice l48.a l48.len l48.cap) w8 ∧
 J1 l48 w8) (
 J1 l11 w6)) (
 J1 l11 w6)) (
 J1 l11 w6)))
def F19_3 (R : Rt) (s2 : ByteArray) (n3 : Int) (n4 : Int) (l11 : SV) (p19 : Option Addr) (ds : Ds) (w : World) : Prop :=
 loopT (fun (J1 : (SV) → World → Prop) (s : SV) (w : World) => F19_2 R J1 s2 n3 n4 s p19 ds w) l11 w
@[reducible] def F19_4 (R : Rt) (s2 : ByteArray) (n3 : Int) (n4 : Int) (l11 : SV) (p19 : Option Addr) (ds : Ds) (w : World) : Prop := F19_3 R s2 n3 n4 l11 p19 ds w
def F19_k6 (R : Rt) : EP := (fun ρ ds w => dStr (ρ 2) fun s2 => dInt .i64 (ρ 3) fun n3 => dInt .i64 (ρ 4) fun n4 => dSl (ρ 11) fun l11 => dPtr (ρ 19) fun p19 => F19_4 R s2 n3 n4 l11 p19 ds w)
def F19_5 (R : Rt) (p0 : Option Addr) (n1 : Int) (s2 : ByteArray) (n3 : Int) (n4 : Int) (ds : Ds) (w : World) : Prop :=
 ptrE p0 fun a9 =>
 0 ≤ n1 ∧ n1 < ((4 : Nat) : Int) ∧
 ∃ m18 : Option Nat, w.cell? ((a9.add 3).add (n1.toNat * 1)) = some (.map m18) ∧
 ∃ p19 : Option Addr, ∃ w10 : World, (Instr.range 48 (.map m18)).run Try.prog w = .ok (.pointer p19) w10 ∧
 F19_4 R s2 n3 n4 ⟨none, 0, 0⟩ p19 ds w10
theorem c19_l : flat (bodyOf Try.f19) = [c19_0, c19_1, c19_2, c19_3, c19_4, c19_5] := by kernel_rfl
theorem c19_3_l : flat (innerC c19_3) = [c19_3_0] := by kernel_rfl
theorem c19_3_0_l : flat (innerC c19_3_0) = [c19_3_0_0, c19_3_0_1, c19_3_0_2] := by kernel_rfl
theorem F19_1_ok (R : Rt) (l11 : SV) (ds : Ds) (w : World) (ρ : Env) (e11 : ρ 11 = .slice l11.a l11.len l11.cap) (h : F19_1 R l11 ds w) :
    TrL Try.prog Try.f19.ntmps [c19_4, c19_5] (F19_q1 R) ρ ds w :=
  TrL_leaf (X := F19_1 R l11 ds w) (setAll_cons e11 setAll_nil) (by kernel_rfl) (by kernel_rfl) h
theorem F19_2_ok (R : Rt) (J1 : (SV) → World → Prop) (s2 : ByteArray) (n3 : Int) (n4 : Int) (l11 : SV) (p19 : Option Addr) (ds : Ds) (w : World) (ρ : Env) (e2 : ρ 2 = .string s2) (e3 : ρ 3 = .int .i64 n3) (e4 : ρ 4 = .int .i64 n4) (e11 : ρ 11 = .slice l11.a l11.len l11.cap) (e19 : ρ 19 = .pointer p19) (h : F19_2 R J1 s2 n3 n4 l11 p19 ds w) :
    TrL Try.prog Try.f19.ntmps [c19_3_0_0, c19_3_0_1, c19_3_0_2] (F19_q5 R J1) ρ ds w :=
  TrL_leaf (X := F19_2 R J1 s2 n3 n4 l11 p19 ds w) (setAll_cons e2 (setAll_cons e3 (setAll_cons e4 (setAll_cons e11 (setAll_cons e19 setAll_nil))))) (by kernel_rfl) (by kernel_rfl) h
theorem F19_3_ok (R : Rt) (s2 : ByteArray) (n3 : Int) (n4 : Int) (l11 : SV) (p19 : Option Addr) (ds : Ds) (w : World) (ρ : Env) (e2 : ρ 2 = .string s2) (e3 : ρ 3 = .int .i64 n3) (e4 : ρ 4 = .int .i64 n4) (e11 : ρ 11 = .slice l11.a l11.len l11.cap) (e19 : ρ 19 = .pointer p19) (h : F19_3 R s2 n3 n4 l11 p19 ds w) :
    TrL Try.prog Try.f19.ntmps [c19_3_0] (F19_q4 R) ρ ds w :=
  TrL_one (Tr_loop' (c := innerC c19_3_0) (σ := SV) (enc := (fun (s : SV) (ρ : Env) => ρ 11 = .slice s.a s.len s.cap)) (D := (fun ρ K => dSl (ρ 11) fun l11 => K l11)) (F := (fun (J1 : (SV) → World → Prop) (s : SV) (w : World) => F19_2 R J1 s2 n3 n4 s p19 ds w)) (s0 := l11) (by kernel_rfl) c19_3_0_l e11 (by kernel_rfl) (fun ρ K hD => by obtain ⟨l11, e11, hD⟩ := dSl_elim hD; exact ⟨l11, e11, hD⟩)
      (fun J1 s ρ' w' he ha hF => by
      have e11' := he
      exact F19_2_ok R J1 s2 n3 n4 s p19 ds w' ρ' ((ha 2 (by kernel_rfl)).trans e2) ((ha 3 (by kernel_rfl)).trans e3) ((ha 4 (by kernel_rfl)).trans e4) e11' ((ha 19 (by kernel_rfl)).trans e19) hF) h)
theorem F19_4_ok (R : Rt) (s2 : ByteArray) (n3 : Int) (n4 : Int) (l11 : SV) (p19 : Option Addr) (ds : Ds) (w : World) (ρ : Env) (e2 : ρ 2 = .string s2) (e3 : ρ 3 = .int .i64 n3) (e4 : ρ 4 = .int .i64 n4) (e11 : ρ 11 = .slice l11.a l11.len l11.cap) (e19 : ρ 19 = .pointer p19) (h : F19_4 R s2 n3 n4 l11 p19 ds w) :
    TrL Try.prog Try.f19.ntmps [c19_3, c19_4, c19_5] (F19_q1 R) ρ ds w :=
  TrL_head (K := (F19_k2 R)) (Tr_block' (c := innerC c19_3) (by kernel_rfl) c19_3_l (F19_3_ok R s2 n3 n4 l11 p19 ds w ρ e2 e3 e4 e11 e19 h))
    (fun ρ' ds' w' hD => by
      obtain ⟨l11, e11, hD⟩ := dSl_elim hD; exact F19_1_ok R l11 ds' w' ρ' e11 hD)
theorem F19_5_ok (R : Rt) (p0 : Option Addr) (n1 : Int) (s2 : ByteArray) (n3 : Int) (n4 : Int) (ds : Ds) (w : World) (ρ : Env) (e0 : ρ 0 = .pointer p0) (e1 : ρ 1 = .int .i64 n1) (e2 : ρ 2 = .string s2) (e3 : ρ 3 = .int .i64 n3) (e4 : ρ 4 = .int .i64 n4) (h : F19_5 R p0 n1 s2 n3 n4 ds w) :
    TrL Try.prog Try.f19.ntmps [c19_0, c19_1, c19_2, c19_3, c19_4, c19_5] (F19_q1 R) ρ ds w :=
  TrL_piece (pre := [c19_0, c19_1, c19_2]) (K := (F19_k6 R)) (X := F19_5 R p0 n1 s2 n3 n4 ds w) (setAll_cons e0 (setAll_cons e1 (setAll_cons e2 (setAll_cons e3 (setAll_cons e4 setAll_nil))))) (by kernel_rfl) (by kernel_rfl)
    (fun ρ' ds' w' hD => by
      obtain ⟨s2, e2, hD⟩ := dStr_elim hD; obtain ⟨n3, e3, hD⟩ := dInt_elim hD; obtain ⟨n4, e4, hD⟩ := dInt_elim hD; obtain ⟨l11, e11, hD⟩ := dSl_elim hD; obtain ⟨p19, e19, hD⟩ := dPtr_elim hD; exact F19_4_ok R s2 n3 n4 l11 p19 ds' w' ρ' e2 e3 e4 e11 e19 hD) h
theorem F19_calls (p0 : Option Addr) (n1 : Int) (s2 : ByteArray) (n3 : Int) (n4 : Int) (w : World) (R : Rt) (h : F19_5 R p0 n1 s2 n3 n4 [] w) : Calls Try.prog 19 #[.pointer p0, .int .i64 n1, .string s2, .int .i64 n3, .int .i64 n4] w R :=
  calls_of_L (l := [c19_0, c19_1, c19_2, c19_3, c19_4, c19_5]) Try.func19 (by kernel_rfl) (by rw [Try.ntmps19]; exact Nat.le_of_ble_eq_true (by kernel_rfl)) c19_l
    (F19_5_ok R p0 n1 s2 n3 n4 [] w _ rfl rfl rfl rfl rfl h)
theorem F19_callsD (p0 : Option Addr) (n1 : Int) (s2 : ByteArray) (n3 : Int) (n4 : Int) (w : World) (R : Rt) (u : FrameMode) (h : F19_5 R p0 n1 s2 n3 n4 [] w) : CallsD Try.prog 19 #[.pointer p0, .int .i64 n1, .string s2, .int .i64 n3, .int .i64 n4] u w fun e u' w' => u' = u ∧ R e w' :=
  callsD_of_L (l := [c19_0, c19_1, c19_2, c19_3, c19_4, c19_5]) Try.func19 (by kernel_rfl) (by rw [Try.ntmps19]; exact Nat.le_of_ble_eq_true (by kernel_rfl)) (by kernel_rfl) c19_l
    (F19_5_ok R p0 n1 s2 n3 n4 [] w _ rfl rfl rfl rfl rfl h) u

/-! function 20: (*cabinetry/disk.System).written -/
noncomputable def c20_0 : Code := itemAt (flat (bodyOf Try.f20)) 0
noncomputable def c20_1 : Code := itemAt (flat (bodyOf Try.f20)) 1
noncomputable def c20_2 : Code := itemAt (flat (bodyOf Try.f20)) 2
noncomputable def c20_3 : Code := itemAt (flat (bodyOf Try.f20)) 3
noncomputable def c20_4 : Code := itemAt (flat (bodyOf Try.f20)) 4
noncomputable def c20_5 : Code := itemAt (flat (bodyOf Try.f20)) 5
noncomputable def c20_6 : Code := itemAt (flat (bodyOf Try.f20)) 6
noncomputable def c20_7 : Code := itemAt (flat (bodyOf Try.f20)) 7
noncomputable def c20_4_0 : Code := itemAt (flat (innerC c20_4)) 0
noncomputable def c20_4_0_0 : Code := itemAt (flat (innerC c20_4_0)) 0
noncomputable def c20_4_0_1 : Code := itemAt (flat (innerC c20_4_0)) 1
noncomputable def c20_4_0_2 : Code := itemAt (flat (innerC c20_4_0)) 2
noncomputable def c20_4_0_3 : Code := itemAt (flat (innerC c20_4_0)) 3
def F20_q1 (R : Rt) : EQ := endQ Try.prog Try.f20.results.toList R
def F20_1 (R : Rt) (p0 : Option Addr) (n1 : Int) (p5 : Option Addr) (p7 : Option Addr) (n8 : Int) (ds : Ds) (w : World) : Prop :=
 dwE w fun w1 =>
 ptrE p0 fun a2 =>
 0 ≤ n1 ∧ n1 < ((4 : Nat) : Int) ∧
 ∃ m53 : Option Nat, w1.cell? ((a2.add 3).add (n1.toNat * 1)) = some (.map m53) ∧
 ptrE p5 fun a3 =>
 ∃ s54_0 : ByteArray, w1.cell? (a3.add 0) = some (.string s54_0) ∧
 ∃ n54_1 : Int, w1.cell? (a3.add 1) = some (.int .i64 n54_1) ∧
 ptrE p7 fun a4 =>
 ∃ c55 : Array Value, c55.size = 96 ∧ (∀ i, i < 96 → w1.cell? (a4.add i) = c55[i]?) ∧
 doE Try.prog (Instr.mapUpdate 48 (.map m53) (.agg #[.string s54_0, .int .i64 n54_1]) (.agg c55)) w1 fun w5 =>
 runD Try.prog ds w5 fun w6 =>
 R (.returned (.int .i64 n8)) w6
def F20_k2 (R : Rt) : EP := (fun ρ ds w => dPtr (ρ 0) fun p0 => dInt .i64 (ρ 1) fun n1 => dPtr (ρ 5) fun p5 => dPtr (ρ 7) fun p7 => dInt .i64 (ρ 8) fun n8 => F20_1 R p0 n1 p5 p7 n8 ds w)
def F20_q3 (R : Rt) : EQ := (thenQ (F20_k2 R) (F20_q1 R))
def F20_q4 (R : Rt) : EQ := (blockQ 0 (F20_q3 R))
def F20_q5 (R : Rt) (J1 : (Int × Int) → World → Prop) : EQ := (thenQ (fun ρ _ w => dInt .i64 (ρ 8) fun n8 => dInt .i64 (ρ 18) fun n18 => J1 (n8, n18) w) (F20_q4 R))
def F20_2 (R : Rt) (J1 : (Int × Int) → World → Prop) (p0 : Option Addr) (n1 : Int) (p5 : Option Addr) (p7 : Option Addr) (n8 : Int) (n18 : Int) (ds : Ds) (w : World) : Prop :=
 Br (decide (n18 < 32)) (
 ptrE p7 fun a7 =>
 0 ≤ n18 ∧ n18 < ((32 : Nat) : Int) ∧
 ∃ b24 : Bool, w.cell? ((a7.add 64).add (n18.toNat * 1)) = some (.bool b24) ∧
 Br b24 (
 dwE w fun w8 =>
 ptrE p0 fun a9 =>
 ∃ m28 : Option Nat, w8.cell? (a9.add 2) = some (.map m28) ∧
 ptrE p5 fun a10 =>
 ∃ s30 : ByteArray, w8.cell? a10 = some (.string s30) ∧
 ∃ l31 : SV, (Instr.lookup 40 (.map m28) (.string s30) false).run Try.prog w8 = .ok (.slice l31.a l31.len l31.cap) w8 ∧
 ptrE p5 fun a11 =>
 ∃ n33 : Int, w8.cell? (a11.add 1) = some (.int .i64 n33) ∧
 ptrE p7 fun a12 =>
 0 ≤ n18 ∧ n18 < ((32 : Nat) : Int) ∧
 ∃ n40 : Int, w8.cell? (a12.add (n18.toNat * 1)) = some (.int .u8 n40) ∧
 ∃ a13 : Addr, l31.a = some a13 ∧ 0 ≤ (IntKind.i64.wrap ((IntKind.i64.wrap (n33 * 32)) + n18)) ∧ (IntKind.i64.wrap ((IntKind.i64.wrap (n33 * 32)) + n18)) < ((l31.len : Nat) : Int) ∧
 st1 (a13.add ((IntKind.i64.wrap ((IntKind.i64.wrap (n33 * 32)) + n18)).toNat * 1)) (.int .u8 n40) w8 fun w14 =>
 ptrE p7 fun a15 =>
 0 ≤ n18 ∧ n18 < ((32 : Nat) : Int) ∧
 st1 ((a15.add 64).add (n18.toNat * 1)) (.bool false) w14 fun w16 =>
 J1 ((IntKind.i64.wrap (n8 + 1)), (IntKind.i64.wrap (n18 + 1))) w16) (
 J1 (n8, (IntKind.i64.wrap (n18 + 1))) w)) (
 F20_1 R p0 n1 p5 p7 n8 ds w)
def F20_3 (R : Rt) (p0 : Option Addr) (n1 : Int) (p5 : Option Addr) (p7 : Option Addr) (n8 : Int) (n18 : Int) (ds : Ds) (w : World) : Prop :=
 loopT (fun (J1 : (Int × Int) → World → Prop) (s : Int × Int) (w : World) => F20_2 R J1 p0 n1 p5 p7 s.1 s.2 ds w) (n8, n18) w
@[reducible] def F20_4 (R : Rt) (p0 : Option Addr) (n1 : Int) (p5 : Option Addr) (p7 : Option Addr) (n8 : Int) (n18 : Int) (ds : Ds) (w : World) : Prop := F20_3 R p0 n1 p5 p7 n8 n18 ds w
def F20_k6 (R : Rt) : EP := (fun ρ ds w => dPtr (ρ 0) fun p0 => dInt .i64 (ρ 1) fun n1 => dPtr (ρ 5) fun p5 => dPtr (ρ 7) fun p7 => dInt .i64 (ρ 8) fun n8 => dInt .i64 (ρ 18) fun n18 => F20_4 R p0 n1 p5 p7 n8 n18 ds w)
def F20_5 (R : Rt) (p0 : Option Addr) (n1 : Int) (s2_0 : ByteArray) (n2_1 : Int) (ds : Ds) (w : World) : Prop :=
 alE (.cells #[.string s2_0, .int .i64 n2_1] 66) w fun r5 w17 =>
 dwE w17 fun w18 =>
 ∃ S3 : World → Prop, S3 w18 ∧
 ptrE p0 fun a19 =>
 0 ≤ n1 ∧ n1 < ((4 : Nat) : Int) ∧
 ∃ m15 : Option Nat, (∀ w', S3 w' → w'.cell? ((a19.add 3).add (n1.toNat * 1)) = some (.map m15)) ∧
 ∃ s16_0 : ByteArray, (∀ w', S3 w' → w'.cell? ((⟨r5, 0, none⟩ : Addr).add 0) = some (.string s16_0)) ∧
 ∃ n16_1 : Int, (∀ w', S3 w' → w'.cell? ((⟨r5, 0, none⟩ : Addr).add 1) = some (.int .i64 n16_1)) ∧
 ∃ c17 : Array Value, c17.size = 96 ∧ (∀ w', S3 w' → (Instr.lookup 48 (.map m15) (.agg #[.string s16_0, .int .i64 n16_1]) false).run Try.prog w' = .ok (.agg c17) w') ∧
 alE (.cells (zc Try.prog 61) 61) w18 fun r7 w20 =>
 S3 w20 ∧
 stA Try.prog 61 (⟨r7, 0, none⟩ : Addr) c17 w20 fun w21 =>
 F20_4 R p0 n1 (some (⟨r5, 0, none⟩ : Addr)) (some (⟨r7, 0, none⟩ : Addr)) 0 0 ds w21
theorem c20_l : flat (bodyOf Try.f20) = [c20_0, c20_1, c20_2, c20_3, c20_4, c20_5, c20_6, c20_7] := by kernel_rfl
theorem c20_4_l : flat (innerC c20_4) = [c20_4_0] := by kernel_rfl
theorem c20_4_0_l : flat (innerC c20_4_0) = [c20_4_0_0, c20_4_0_1, c20_4_0_2, c20_4_0_3] := by kernel_rfl
theorem F20_1_ok (R : Rt) (p0 : Option Addr) (n1 : Int) (p5 : Option Addr) (p7 : Option Addr) (n8 : Int) (ds : Ds) (w : World) (ρ : Env) (e0 : ρ 0 = .pointer p0) (e1 : ρ 1 = .int .i64 n1) (e5 : ρ 5 = .pointer p5) (e7 : ρ 7 = .pointer p7) (e8 : ρ 8 = .int .i64 n8) (h : F20_1 R p0 n1 p5 p7 n8 ds w) :
    TrL Try.prog Try.f20.ntmps [c20_5, c20_6, c20_7] (F20_q1 R) ρ ds w :=
  TrL_leaf (X := F20_1 R p0 n1 p5 p7 n8 ds w) (setAll_cons e0 (setAll_cons e1 (setAll_cons e5 (setAll_cons e7 (setAll_cons e8 setAll_nil))))) (by kernel_rfl) (by kernel_rfl) h
theorem F20_2_ok (R : Rt) (J1 : (Int × Int) → World → Prop) (p0 : Option Addr) (n1 : Int) (p5 : Option Addr) (p7 : Option Addr) (n8 : Int) (n18 : Int) (ds : Ds) (w : World) (ρ : Env) (e0 : ρ 0 = .pointer p0) (e1 : ρ 1 = .int .i64 n1) (e5 : ρ 5 = .pointer p5) (e7 : ρ 7 = .pointer p7) (e8 : ρ 8 = .int .i64 n8) (e18 : ρ 18 = .int .i64 n18) (h : F20_2 R J1 p0 n1 p5 p7 n8 n18 ds w) :
    TrL Try.prog Try.f20.ntmps [c20_4_0_0, c20_4_0_1, c20_4_0_2, c20_4_0_3] (F20_q5 R J1) ρ ds w :=
  TrL_leaf (X := F20_2 R J1 p0 n1 p5 p7 n8 n18 ds w) (setAll_cons e0 (setAll_cons e1 (setAll_cons e5 (setAll_cons e7 (setAll_cons e8 (setAll_cons e18 setAll_nil)))))) (by kernel_rfl) (by kernel_rfl) h
theorem F20_3_ok (R : Rt) (p0 : Option Addr) (n1 : Int) (p5 : Option Addr) (p7 : Option Addr) (n8 : Int) (n18 : Int) (ds : Ds) (w : World) (ρ : Env) (e0 : ρ 0 = .pointer p0) (e1 : ρ 1 = .int .i64 n1) (e5 : ρ 5 = .pointer p5) (e7 : ρ 7 = .pointer p7) (e8 : ρ 8 = .int .i64 n8) (e18 : ρ 18 = .int .i64 n18) (h : F20_3 R p0 n1 p5 p7 n8 n18 ds w) :
    TrL Try.prog Try.f20.ntmps [c20_4_0] (F20_q4 R) ρ ds w :=
  TrL_one (Tr_loop' (c := innerC c20_4_0) (σ := Int × Int) (enc := (fun (s : Int × Int) (ρ : Env) => ρ 8 = .int .i64 s.1 ∧ ρ 18 = .int .i64 s.2)) (D := (fun ρ K => dInt .i64 (ρ 8) fun n8 => dInt .i64 (ρ 18) fun n18 => K (n8, n18))) (F := (fun (J1 : (Int × Int) → World → Prop) (s : Int × Int) (w : World) => F20_2 R J1 p0 n1 p5 p7 s.1 s.2 ds w)) (s0 := (n8, n18)) (by kernel_rfl) c20_4_0_l ⟨e8, e18⟩ (by kernel_rfl) (fun ρ K hD => by obtain ⟨n8, e8, hD⟩ := dInt_elim hD; obtain ⟨n18, e18, hD⟩ := dInt_elim hD; exact ⟨(n8, n18), ⟨e8, e18⟩, hD⟩)
      (fun J1 s ρ' w' he ha hF => by
      obtain ⟨e8', e18'⟩ := he
      exact F20_2_ok R J1 p0 n1 p5 p7 s.1 s.2 ds w' ρ' ((ha 0 (by kernel_rfl)).trans e0) ((ha 1 (by kernel_rfl)).trans e1) ((ha 5 (by kernel_rfl)).trans e5) ((ha 7 (by kernel_rfl)).trans e7) e8' e18' hF) h)
theorem F20_4_ok (R : Rt) (p0 : Option Addr) (n1 : Int) (p5 : Option Addr) (p7 : Option Addr) (n8 : Int) (n18 : Int) (ds : Ds) (w : World) (ρ : Env) (e0 : ρ 0 = .pointer p0) (e1 : ρ 1 = .int .i64 n1) (e5 : ρ 5 = .pointer p5) (e7 : ρ 7 = .pointer p7) (e8 : ρ 8 = .int .i64 n8) (e18 : ρ 18 = .int .i64 n18) (h : F20_4 R p0 n1 p5 p7 n8 n18 ds w) :
    TrL Try.prog Try.f20.ntmps [c20_4, c20_5, c20_6, c20_7] (F20_q1 R) ρ ds w :=
  TrL_head (K := (F20_k2 R)) (Tr_block' (c := innerC c20_4) (by kernel_rfl) c20_4_l (F20_3_ok R p0 n1 p5 p7 n8 n18 ds w ρ e0 e1 e5 e7 e8 e18 h))
    (fun ρ' ds' w' hD => by
      obtain ⟨p0, e0, hD⟩ := dPtr_elim hD; obtain ⟨n1, e1, hD⟩ := dInt_elim hD; obtain ⟨p5, e5, hD⟩ := dPtr_elim hD; obtain ⟨p7, e7, hD⟩ := dPtr_elim hD; obtain ⟨n8, e8, hD⟩ := dInt_elim hD; exact F20_1_ok R p0 n1 p5 p7 n8 ds' w' ρ' e0 e1 e5 e7 e8 hD)
theorem F20_5_ok (R : Rt) (p0 : Option Addr) (n1 : Int) (s2_0 : ByteArray) (n2_1 : Int) (ds : Ds) (w : World) (ρ : Env) (e0 : ρ 0 = .pointer p0) (e1 : ρ 1 = .int .i64 n1) (e2 : ρ 2 = .agg #[.string s2_0, .int .i64 n2_1]) (h : F20_5 R p0 n1 s2_0 n2_1 ds w) :
    TrL Try.prog Try.f20.ntmps [c20_0, c20_1, c20_2, c20_3, c20_4, c20_5, c20_6, c20_7] (F20_q1 R) ρ ds w :=
  TrL_piece (pre := [c20_0, c20_1, c20_2, c20_3]) (K := (F20_k6 R)) (X := F20_5 R p0 n1 s2_0 n2_1 ds w) (setAll_cons e0 (setAll_cons e1 (setAll_cons e2 setAll_nil))) (by kernel_rfl) (by kernel_rfl)
    (fun ρ' ds' w' hD => by
      obtain ⟨p0, e0, hD⟩ := dPtr_elim hD; obtain ⟨n1, e1, hD⟩ := dInt_elim hD; obtain ⟨p5, e5, hD⟩ := dPtr_elim hD; obtain ⟨p7, e7, hD⟩ := dPtr_elim hD; obtain ⟨n8, e8, hD⟩ := dInt_elim hD; obtain ⟨n18, e18, hD⟩ := dInt_elim hD; exact F20_4_ok R p0 n1 p5 p7 n8 n18 ds' w' ρ' e0 e1 e5 e7 e8 e18 hD) h
theorem F20_calls (p0 : Option Addr) (n1 : Int) (s2_0 : ByteArray) (n2_1 : Int) (w : World) (R : Rt) (h : F20_5 R p0 n1 s2_0 n2_1 [] w) : Calls Try.prog 20 #[.pointer p0, .int .i64 n1, .agg #[.string s2_0, .int .i64 n2_1]] w R :=
  calls_of_L (l := [c20_0, c20_1, c20_2, c20_3, c20_4, c20_5, c20_6, c20_7]) Try.func20 (by kernel_rfl) (by rw [Try.ntmps20]; exact Nat.le_of_ble_eq_true (by kernel_rfl)) c20_l
    (F20_5_ok R p0 n1 s2_0 n2_1 [] w _ rfl rfl rfl h)
theorem F20_callsD (p0 : Option Addr) (n1 : Int) (s2_0 : ByteArray) (n2_1 : Int) (w : World) (R : Rt) (u : FrameMode) (h : F20_5 R p0 n1 s2_0 n2_1 [] w) : CallsD Try.prog 20 #[.pointer p0, .int .i64 n1, .agg #[.string s2_0, .int .i64 n2_1]] u w fun e u' w' => u' = u ∧ R e w' :=
  callsD_of_L (l := [c20_0, c20_1, c20_2, c20_3, c20_4, c20_5, c20_6, c20_7]) Try.func20 (by kernel_rfl) (by rw [Try.ntmps20]; exact Nat.le_of_ble_eq_true (by kernel_rfl)) (by kernel_rfl) c20_l
    (F20_5_ok R p0 n1 s2_0 n2_1 [] w _ rfl rfl rfl h) u

/-! function 21: slices.Clone[[]byte,byte] -/
noncomputable def c21_0 : Code := itemAt (flat (bodyOf Try.f21)) 0
noncomputable def c21_1 : Code := itemAt (flat (bodyOf Try.f21)) 1
noncomputable def c21_2 : Code := itemAt (flat (bodyOf Try.f21)) 2
noncomputable def c21_3 : Code := itemAt (flat (bodyOf Try.f21)) 3
noncomputable def c21_4 : Code := itemAt (flat (bodyOf Try.f21)) 4
def F21_q1 (R : Rt) : EQ := endQ Try.prog Try.f21.results.toList R
def F21_1 (R : Rt) (l0 : SV) (ds : Ds) (w : World) : Prop :=
 ∃ b4 : Bool, ∃ w1 : World, (eqS .eql 29 (.tmp 3) (.const (.slice none 0 0)) (.slice l0.a l0.len l0.cap) (.slice none 0 0)).run Try.prog w = .ok (.bool b4) w1 ∧
 Br b4 (
 runD Try.prog ds w1 fun w2 =>
 R (.returned (.slice none 0 0)) w2) (
 alE (.cells #[] 5) w1 fun r5 w3 =>
 ∃ l7 : SV, ∃ w4 : World, (Builtin.append_ #[29, 29] 29 #[.slice (some ⟨r5, 0, none⟩) 0 0, .slice l0.a l0.len l0.cap]).run Try.prog w3 = .ok (.slice l7.a l7.len l7.cap) w4 ∧
 runD Try.prog ds w4 fun w5 =>
 R (.returned (.slice l7.a l7.len l7.cap)) w5)
theorem c21_l : flat (bodyOf Try.f21) = [c21_0, c21_1, c21_2, c21_3, c21_4] := by kernel_rfl
theorem F21_1_ok (R : Rt) (l0 : SV) (ds : Ds) (w : World) (ρ : Env) (e0 : ρ 0 = .slice l0.a l0.len l0.cap) (h : F21_1 R l0 ds w) :
    TrL Try.prog Try.f21.ntmps [c21_0, c21_1, c21_2, c21_3, c21_4] (F21_q1 R) ρ ds w :=
  TrL_leaf (X := F21_1 R l0 ds w) (setAll_cons e0 setAll_nil) (by kernel_rfl) (by kernel_rfl) h
theorem F21_calls (l0 : SV) (w : World) (R : Rt) (h : F21_1 R l0 [] w) : Calls Try.prog 21 #[.slice l0.a l0.len l0.cap] w R :=
  calls_of_L (l := [c21_0, c21_1, c21_2, c21_3, c21_4]) Try.func21 (by kernel_rfl) (by rw [Try.ntmps21]; exact Nat.le_of_ble_eq_true (by kernel_rfl)) c21_l
    (F21_1_ok R l0 [] w _ rfl h)
theorem F21_callsD (l0 : SV) (w : World) (R : Rt) (u : FrameMode) (h : F21_1 R l0 [] w) : CallsD Try.prog 21 #[.slice l0.a l0.len l0.cap] u w fun e u' w' => u' = u ∧ R e w' :=
  callsD_of_L (l := [c21_0, c21_1, c21_2, c21_3, c21_4]) Try.func21 (by kernel_rfl) (by rw [Try.ntmps21]; exact Nat.le_of_ble_eq_true (by kernel_rfl)) (by kernel_rfl) c21_l
    (F21_1_ok R l0 [] w _ rfl h) u

/-! function 22: (*cabinetry/disk.System).Read$1 -/
noncomputable def c22_0 : Code := itemAt (flat (bodyOf Try.f22)) 0
def F22_q1 (R : Rt) : EQ := endQ Try.prog Try.f22.results.toList R
def F22_1 (R : Rt) (p0 : Option Addr) (n1 : Int) (n2 : Int) (v3 : Value) (ds : Ds) (w : World) : Prop :=
 dwE w fun w1 =>
 addrE v3 fun a2 =>
 ∃ l7 : SV, w1.cell? a2 = some (.slice l7.a l7.len l7.cap) ∧
 ptrE p0 fun a3 =>
 0 ≤ n1 ∧ n1 < ((32 : Nat) : Int) ∧
 ∃ n14 : Int, w1.cell? (a3.add (n1.toNat * 1)) = some (.int .u8 n14) ∧
 ∃ a4 : Addr, l7.a = some a4 ∧ 0 ≤ n2 ∧ n2 < ((l7.len : Nat) : Int) ∧
 st1 (a4.add (n2.toNat * 1)) (.int .u8 n14) w1 fun w5 =>
 runD Try.prog ds w5 fun w6 =>
 R (.returned (.tuple #[])) w6
theorem c22_l : flat (bodyOf Try.f22) = [c22_0] := by kernel_rfl
theorem F22_1_ok (R : Rt) (p0 : Option Addr) (n1 : Int) (n2 : Int) (v3 : Value) (ds : Ds) (w : World) (ρ : Env) (e0 : ρ 0 = .pointer p0) (e1 : ρ 1 = .int .i64 n1) (e2 : ρ 2 = .int .i64 n2) (e3 : ρ 3 = v3) (h : F22_1 R p0 n1 n2 v3 ds w) :
    TrL Try.prog Try.f22.ntmps [c22_0] (F22_q1 R) ρ ds w :=
  TrL_leaf (X := F22_1 R p0 n1 n2 v3 ds w) (setAll_cons e0 (setAll_cons e1 (setAll_cons e2 (setAll_cons e3 setAll_nil)))) (by kernel_rfl) (by kernel_rfl) h
theorem F22_calls (p0 : Option Addr) (n1 : Int) (n2 : Int) (v3 : Value) (w : World) (R : Rt) (h : F22_1 R p0 n1 n2 v3 [] w) : Calls Try.prog 22 #[.pointer p0, .int .i64 n1, .int .i64 n2, v3] w R :=
  calls_of_L (l := [c22_0]) Try.func22 (by kernel_rfl) (by rw [Try.ntmps22]; exact Nat.le_of_ble_eq_true (by kernel_rfl)) c22_l
    (F22_1_ok R p0 n1 n2 v3 [] w _ rfl rfl rfl rfl h)
theorem F22_callsD (p0 : Option Addr) (n1 : Int) (n2 : Int) (v3 : Value) (w : World) (R : Rt) (u : FrameMode) (h : F22_1 R p0 n1 n2 v3 [] w) : CallsD Try.prog 22 #[.pointer p0, .int .i64 n1, .int .i64 n2, v3] u w fun e u' w' => u' = u ∧ R e w' :=
  callsD_of_L (l := [c22_0]) Try.func22 (by kernel_rfl) (by rw [Try.ntmps22]; exact Nat.le_of_ble_eq_true (by kernel_rfl)) (by kernel_rfl) c22_l
    (F22_1_ok R p0 n1 n2 v3 [] w _ rfl rfl rfl rfl h) u

/-! function 23: (*cabinetry/disk.System).Lock$1 -/
noncomputable def c23_0 : Code := itemAt (flat (bodyOf Try.f23)) 0
noncomputable def c23_1 : Code := itemAt (flat (bodyOf Try.f23)) 1
noncomputable def c23_2 : Code := itemAt (flat (bodyOf Try.f23)) 2
def F23_q1 (R : Rt) : EQ := endQ Try.prog Try.f23.results.toList R
def F23_1 (R : Rt) (n0_0 : Int) (s0_1 : ByteArray) (n0_2 : Int) (n0_3 : Int) (v1 : Value) (v2 : Value) (v3 : Value) (ds : Ds) (w : World) : Prop :=
 alE (.cells #[.int .i64 n0_0, .string s0_1, .int .i64 n0_2, .int .i64 n0_3] 70) w fun r4 w1 =>
 ∃ n6_0 : Int, w1.cell? ((⟨r4, 0, none⟩ : Addr).add 0) = some (.int .i64 n6_0) ∧
 ∃ s6_1 : ByteArray, w1.cell? ((⟨r4, 0, none⟩ : Addr).add 1) = some (.string s6_1) ∧
 ∃ n6_2 : Int, w1.cell? ((⟨r4, 0, none⟩ : Addr).add 2) = some (.int .i64 n6_2) ∧
 ∃ n6_3 : Int, w1.cell? ((⟨r4, 0, none⟩ : Addr).add 3) = some (.int .i64 n6_3) ∧
 addrE v1 fun a2 =>
 ∃ s7 : ByteArray, w1.cell? a2 = some (.string s7) ∧
 addrE v2 fun a3 =>
 ∃ n8 : Int, w1.cell? a3 = some (.int .i64 n8) ∧
 addrE v3 fun a4 =>
 ∃ n9 : Int, w1.cell? a4 = some (.int .i64 n9) ∧
 Calls Try.prog 24 #[.agg #[.int .i64 n6_0, .string s6_1, .int .i64 n6_2, .int .i64 n6_3], .string s7, .int .i64 n8, .int .i64 n9] w1 fun e w5 =>
 ∃ b10 : Bool, e = .returned (.bool b10) ∧
 runD Try.prog ds w5 fun w6 =>
 R (.returned (.bool b10)) w6
theorem c23_l : flat (bodyOf Try.f23) = [c23_0, c23_1, c23_2] := by kernel_rfl
theorem F23_1_ok (R : Rt) (n0_0 : Int) (s0_1 : ByteArray) (n0_2 : Int) (n0_3 : Int) (v1 : Value) (v2 : Value) (v3 : Value) (ds : Ds) (w : World) (ρ : Env) (e0 : ρ 0 = .agg #[.int .i64 n0_0, .string s0_1, .int .i64 n0_2, .int .i64 n0_3]) (e1 : ρ 1 = v1) (e2 : ρ 2 = v2) (e3 : ρ 3 = v3) (h : F23_1 R n0_0 s0_1 n0_2 n0_3 v1 v2 v3 ds w) :
    TrL Try.prog Try.f23.ntmps [c23_0, c23_1, c23_2] (F23_q1 R) ρ ds w :=
  TrL_leaf (X := F23_1 R n0_0 s0_1 n0_2 n0_3 v1 v2 v3 ds w) (setAll_cons e0 (setAll_cons e1 (setAll_cons e2 (setAll_cons e3 setAll_nil)))) (by kernel_rfl) (by kernel_rfl) h
theorem F23_calls (n0_0 : Int) (s0_1 : ByteArray) (n0_2 : Int) (n0_3 : Int) (v1 : Value) (v2 : Value) (v3 : Value) (w : World) (R : Rt) (h : F23_1 R n0_0 s0_1 n0_2 n0_3 v1 v2 v3 [] w) : Calls Try.prog 23 #[.agg #[.int .i64 n0_0, .string s0_1, .int .i64 n0_2, .int .i64 n0_3], v1, v2, v3] w R :=
  calls_of_L (l := [c23_0, c23_1, c23_2]) Try.func23 (by kernel_rfl) (by rw [Try.ntmps23]; exact Nat.le_of_ble_eq_true (by kernel_rfl)) c23_l
    (F23_1_ok R n0_0 s0_1 n0_2 n0_3 v1 v2 v3 [] w _ rfl rfl rfl rfl h)
theorem F23_callsD (n0_0 : Int) (s0_1 : ByteArray) (n0_2 : Int) (n0_3 : Int) (v1 : Value) (v2 : Value) (v3 : Value) (w : World) (R : Rt) (u : FrameMode) (h : F23_1 R n0_0 s0_1 n0_2 n0_3 v1 v2 v3 [] w) : CallsD Try.prog 23 #[.agg #[.int .i64 n0_0, .string s0_1, .int .i64 n0_2, .int .i64 n0_3], v1, v2, v3] u w fun e u' w' => u' = u ∧ R e w' :=
  callsD_of_L (l := [c23_0, c23_1, c23_2]) Try.func23 (by kernel_rfl) (by rw [Try.ntmps23]; exact Nat.le_of_ble_eq_true (by kernel_rfl)) (by kernel_rfl) c23_l
    (F23_1_ok R n0_0 s0_1 n0_2 n0_3 v1 v2 v3 [] w _ rfl rfl rfl rfl h) u

/-! function 24: (cabinetry/disk.lock).meets -/
noncomputable def c24_0 : Code := itemAt (flat (bodyOf Try.f24)) 0
noncomputable def c24_1 : Code := itemAt (flat (bodyOf Try.f24)) 1
noncomputable def c24_2 : Code := itemAt (flat (bodyOf Try.f24)) 2
def F24_q1 (R : Rt) : EQ := endQ Try.prog Try.f24.results.toList R
def F24_1 (R : Rt) (n0_0 : Int) (s0_1 : ByteArray) (n0_2 : Int) (n0_3 : Int) (s1 : ByteArray) (n2 : Int) (n3 : Int) (ds : Ds) (w : World) : Prop :=
 alE (.cells #[.int .i64 n0_0, .string s0_1, .int .i64 n0_2, .int .i64 n0_3] 70) w fun r4 w1 =>
 ∃ s10 : ByteArray, w1.cell? ((⟨r4, 0, none⟩ : Addr).add 1) = some (.string s10) ∧
 Br (s10.toList == s1.toList) (
 ∃ n15 : Int, w1.cell? ((⟨r4, 0, none⟩ : Addr).add 2) = some (.int .i64 n15) ∧
 Br (decide (n15 < (IntKind.i64.wrap (n2 + n3)))) (
 ∃ n24 : Int, w1.cell? ((⟨r4, 0, none⟩ : Addr).add 2) = some (.int .i64 n24) ∧
 ∃ n26 : Int, w1.cell? ((⟨r4, 0, none⟩ : Addr).add 3) = some (.int .i64 n26) ∧
 runD Try.prog ds w1 fun w2 =>
 R (.returned (.bool (decide (n2 < (IntKind.i64.wrap (n24 + n26)))))) w2) (
 runD Try.prog ds w1 fun w3 =>
 R (.returned (.bool false)) w3)) (
 runD Try.prog ds w1 fun w4 =>
 R (.returned (.bool false)) w4)
theorem c24_l : flat (bodyOf Try.f24) = [c24_0, c24_1, c24_2] := by kernel_rfl
theorem F24_1_ok (R : Rt) (n0_0 : Int) (s0_1 : ByteArray) (n0_2 : Int) (n0_3 : Int) (s1 : ByteArray) (n2 : Int) (n3 : Int) (ds : Ds) (w : World) (ρ : Env) (e0 : ρ 0 = .agg #[.int .i64 n0_0, .string s0_1, .int .i64 n0_2, .int .i64 n0_3]) (e1 : ρ 1 = .string s1) (e2 : ρ 2 = .int .i64 n2) (e3 : ρ 3 = .int .i64 n3) (h : F24_1 R n0_0 s0_1 n0_2 n0_3 s1 n2 n3 ds w) :
    TrL Try.prog Try.f24.ntmps [c24_0, c24_1, c24_2] (F24_q1 R) ρ ds w :=
  TrL_leaf (X := F24_1 R n0_0 s0_1 n0_2 n0_3 s1 n2 n3 ds w) (setAll_cons e0 (setAll_cons e1 (setAll_cons e2 (setAll_cons e3 setAll_nil)))) (by kernel_rfl) (by kernel_rfl) h
theorem F24_calls (n0_0 : Int) (s0_1 : ByteArray) (n0_2 : Int) (n0_3 : Int) (s1 : ByteArray) (n2 : Int) (n3 : Int) (w : World) (R : Rt) (h : F24_1 R n0_0 s0_1 n0_2 n0_3 s1 n2 n3 [] w) : Calls Try.prog 24 #[.agg #[.int .i64 n0_0, .string s0_1, .int .i64 n0_2, .int .i64 n0_3], .string s1, .int .i64 n2, .int .i64 n3] w R :=
  calls_of_L (l := [c24_0, c24_1, c24_2]) Try.func24 (by kernel_rfl) (by rw [Try.ntmps24]; exact Nat.le_of_ble_eq_true (by kernel_rfl)) c24_l
    (F24_1_ok R n0_0 s0_1 n0_2 n0_3 s1 n2 n3 [] w _ rfl rfl rfl rfl h)
theorem F24_callsD (n0_0 : Int) (s0_1 : ByteArray) (n0_2 : Int) (n0_3 : Int) (s1 : ByteArray) (n2 : Int) (n3 : Int) (w : World) (R : Rt) (u : FrameMode) (h : F24_1 R n0_0 s0_1 n0_2 n0_3 s1 n2 n3 [] w) : CallsD Try.prog 24 #[.agg #[.int .i64 n0_0, .string s0_1, .int .i64 n0_2, .int .i64 n0_3], .string s1, .int .i64 n2, .int .i64 n3] u w fun e u' w' => u' = u ∧ R e w' :=
  callsD_of_L (l := [c24_0, c24_1, c24_2]) Try.func24 (by kernel_rfl) (by rw [Try.ntmps24]; exact Nat.le_of_ble_eq_true (by kernel_rfl)) (by kernel_rfl) c24_l
    (F24_1_ok R n0_0 s0_1 n0_2 n0_3 s1 n2 n3 [] w _ rfl rfl rfl rfl h) u

/-! function 25: slices.ContainsFunc[[]cabinetry/disk.lock,cabinetry/disk.lock] -/
noncomputable def c25_0 : Code := itemAt (flat (bodyOf Try.f25)) 0
noncomputable def c25_1 : Code := itemAt (flat (bodyOf Try.f25)) 1
noncomputable def c25_2 : Code := itemAt (flat (bodyOf Try.f25)) 2
def F25_q1 (R : Rt) : EQ := endQ Try.prog Try.f25.results.toList R
def F25_1 (R : Rt) (l0 : SV) (v1 : Value) (ds : Ds) (w : World) : Prop :=
 Calls Try.prog 34 #[.slice l0.a l0.len l0.cap, v1] w fun e w1 =>
 ∃ n7 : Int, e = .returned (.int .i64 n7) ∧
 runD Try.prog ds w1 fun w2 =>
 R (.returned (.bool (decide (n7 ≥ 0)))) w2
theorem c25_l : flat (bodyOf Try.f25) = [c25_0, c25_1, c25_2] := by kernel_rfl
theorem F25_1_ok (R : Rt) (l0 : SV) (v1 : Value) (ds : Ds) (w : World) (ρ : Env) (e0 : ρ 0 = .slice l0.a l0.len l0.cap) (e1 : ρ 1 = v1) (h : F25_1 R l0 v1 ds w) :
    TrL Try.prog Try.f25.ntmps [c25_0, c25_1, c25_2] (F25_q1 R) ρ ds w :=
  TrL_leaf (X := F25_1 R l0 v1 ds w) (setAll_cons e0 (setAll_cons e1 setAll_nil)) (by kernel_rfl) (by kernel_rfl) h
theorem F25_calls (l0 : SV) (v1 : Value) (w : World) (R : Rt) (h : F25_1 R l0 v1 [] w) : Calls Try.prog 25 #[.slice l0.a l0.len l0.cap, v1] w R :=
  calls_of_L (l := [c25_0, c25_1, c25_2]) Try.func25 (by kernel_rfl) (by rw [Try.ntmps25]; exact Nat.le_of_ble_eq_true (by kernel_rfl)) c25_l
    (F25_1_ok R l0 v1 [] w _ rfl rfl h)
theorem F25_callsD (l0 : SV) (v1 : Value) (w : World) (R : Rt) (u : FrameMode) (h : F25_1 R l0 v1 [] w) : CallsD Try.prog 25 #[.slice l0.a l0.len l0.cap, v1] u w fun e u' w' => u' = u ∧ R e w' :=
  callsD_of_L (l := [c25_0, c25_1, c25_2]) Try.func25 (by kernel_rfl) (by rw [Try.ntmps25]; exact Nat.le_of_ble_eq_true (by kernel_rfl)) (by kernel_rfl) c25_l
    (F25_1_ok R l0 v1 [] w _ rfl rfl h) u

/-! function 26: (*cabinetry/disk.System).Lock$2 -/
noncomputable def c26_0 : Code := itemAt (flat (bodyOf Try.f26)) 0
noncomputable def c26_1 : Code := itemAt (flat (bodyOf Try.f26)) 1
noncomputable def c26_2 : Code := itemAt (flat (bodyOf Try.f26)) 2
def F26_q1 (R : Rt) : EQ := endQ Try.prog Try.f26.results.toList R
def F26_1 (R : Rt) (n0_0 : Int) (s0_1 : ByteArray) (n0_2 : Int) (n0_3 : Int) (v1 : Value) (v2 : Value) (ds : Ds) (w : World) : Prop :=
 alE (.cells #[.int .i64 n0_0, .string s0_1, .int .i64 n0_2, .int .i64 n0_3] 70) w fun r3 w1 =>
 ∃ n6 : Int, w1.cell? (⟨r3, 0, none⟩ : Addr) = some (.int .i64 n6) ∧
 addrE v1 fun a2 =>
 ∃ n7 : Int, w1.cell? a2 = some (.int .i64 n7) ∧
 Br (n6 == n7) (
 addrE v2 fun a3 =>
 ∃ v10 : Value, w1.cell? a3 = some (v10) ∧
 ∃ n11_0 : Int, w1.cell? ((⟨r3, 0, none⟩ : Addr).add 0) = some (.int .i64 n11_0) ∧
 ∃ s11_1 : ByteArray, w1.cell? ((⟨r3, 0, none⟩ : Addr).add 1) = some (.string s11_1) ∧
 ∃ n11_2 : Int, w1.cell? ((⟨r3, 0, none⟩ : Addr).add 2) = some (.int .i64 n11_2) ∧
 ∃ n11_3 : Int, w1.cell? ((⟨r3, 0, none⟩ : Addr).add 3) = some (.int .i64 n11_3) ∧
 fnE v10 fun f12 first12 cap12 =>
 hasBody Try.prog f12 = true ∧ Calls Try.prog f12 (first12.toList ++ (([.agg #[.int .i64 n11_0, .string s11_1, .int .i64 n11_2, .int .i64 n11_3]] : List Value) ++ cap12.toList)).toArray w1 fun e w4 =>
 ∃ b12 : Bool, e = .returned (.bool b12) ∧
 runD Try.prog ds w4 fun w5 =>
 R (.returned (.bool b12)) w5) (
 runD Try.prog ds w1 fun w6 =>
 R (.returned (.bool false)) w6)
theorem c26_l : flat (bodyOf Try.f26) = [c26_0, c26_1, c26_2] := by kernel_rfl
theorem F26_1_ok (R : Rt) (n0_0 : Int) (s0_1 : ByteArray) (n0_2 : Int) (n0_3 : Int) (v1 : Value) (v2 : Value) (ds : Ds) (w : World) (ρ : Env) (e0 : ρ 0 = .agg #[.int .i64 n0_0, .string s0_1, .int .i64 n0_2, .int .i64 n0_3]) (e1 : ρ 1 = v1) (e2 : ρ 2 = v2) (h : F26_1 R n0_0 s0_1 n0_2 n0_3 v1 v2 ds w) :
    TrL Try.prog Try.f26.ntmps [c26_0, c26_1, c26_2] (F26_q1 R) ρ ds w :=
  TrL_leaf (X := F26_1 R n0_0 s0_1 n0_2 n0_3 v1 v2 ds w) (setAll_cons e0 (setAll_cons e1 (setAll_cons e2 setAll_nil))) (by kernel_rfl) (by kernel_rfl) h
theorem F26_calls (n0_0 : Int) (s0_1 : ByteArray) (n0_2 : Int) (n0_3 : Int) (v1 : Value) (v2 : Value) (w : World) (R : Rt) (h : F26_1 R n0_0 s0_1 n0_2 n0_3 v1 v2 [] w) : Calls Try.prog 26 #[.agg #[.int .i64 n0_0, .string s0_1, .int .i64 n0_2, .int .i64 n0_3], v1, v2] w R :=
  calls_of_L (l := [c26_0, c26_1, c26_2]) Try.func26 (by kernel_rfl) (by rw [Try.ntmps26]; exact Nat.le_of_ble_eq_true (by kernel_rfl)) c26_l
    (F26_1_ok R n0_0 s0_1 n0_2 n0_3 v1 v2 [] w _ rfl rfl rfl h)
theorem F26_callsD (n0_0 : Int) (s0_1 : ByteArray) (n0_2 : Int) (n0_3 : Int) (v1 : Value) (v2 : Value) (w : World) (R : Rt) (u : FrameMode) (h : F26_1 R n0_0 s0_1 n0_2 n0_3 v1 v2 [] w) : CallsD Try.prog 26 #[.agg #[.int .i64 n0_0, .string s0_1, .int .i64 n0_2, .int .i64 n0_3], v1, v2] u w fun e u' w' => u' = u ∧ R e w' :=
  callsD_of_L (l := [c26_0, c26_1, c26_2]) Try.func26 (by kernel_rfl) (by rw [Try.ntmps26]; exact Nat.le_of_ble_eq_true (by kernel_rfl)) (by kernel_rfl) c26_l
    (F26_1_ok R n0_0 s0_1 n0_2 n0_3 v1 v2 [] w _ rfl rfl rfl h) u

/-! function 27: slices.Index[[]cabinetry/disk.lock,cabinetry/disk.lock] -/
noncomputable def c27_0 : Code := itemAt (flat (bodyOf Try.f27)) 0
noncomputable def c27_1 : Code := itemAt (flat (bodyOf Try.f27)) 1
noncomputable def c27_2 : Code := itemAt (flat (bodyOf Try.f27)) 2
noncomputable def c27_3 : Code := itemAt (flat (bodyOf Try.f27)) 3
noncomputable def c27_4 : Code := itemAt (flat (bodyOf Try.f27)) 4
noncomputable def c27_2_0 : Code := itemAt (flat (innerC c27_2)) 0
noncomputable def c27_2_0_0 : Code := itemAt (flat (innerC c27_2_0)) 0
noncomputable def c27_2_0_1 : Code := itemAt (flat (innerC c27_2_0)) 1
noncomputable def c27_2_0_2 : Code := itemAt (flat (innerC c27_2_0)) 2
noncomputable def c27_2_0_3 : Code := itemAt (flat (innerC c27_2_0)) 3
def F27_q1 (R : Rt) : EQ := endQ Try.prog Try.f27.results.toList R
def F27_1 (R : Rt) (ds : Ds) (w : World) : Prop :=
 runD Try.prog ds w fun w1 =>
 R (.returned (.int .i64 (-1))) w1
def F27_k2 (R : Rt) : EP := (fun ρ ds w => F27_1 R ds w)
def F27_q3 (R : Rt) : EQ := (thenQ (F27_k2 R) (F27_q1 R))
def F27_q4 (R : Rt) : EQ := (blockQ 0 (F27_q3 R))
def F27_q5 (R : Rt) (J1 : (Int) → World → Prop) : EQ := (thenQ (fun ρ _ w => dInt .i64 (ρ 8) fun n8 => J1 n8 w) (F27_q4 R))
def F27_2 (R : Rt) (J1 : (Int) → World → Prop) (l0 : SV) (p3 : Option Addr) (n7 : Int) (n8 : Int) (ds : Ds) (w : World) : Prop :=
 Br (decide (n8 < n7)) (
 dwE w fun w2 =>
 ptrE p3 fun a3 =>
 ∃ n11_0 : Int, w2.cell? (a3.add 0) = some (.int .i64 n11_0) ∧
 ∃ s11_1 : ByteArray, w2.cell? (a3.add 1) = some (.string s11_1) ∧
 ∃ n11_2 : Int, w2.cell? (a3.add 2) = some (.int .i64 n11_2) ∧
 ∃ n11_3 : Int, w2.cell? (a3.add 3) = some (.int .i64 n11_3) ∧
 ∃ a4 : Addr, l0.a = some a4 ∧ 0 ≤ n8 ∧ n8 < ((l0.len : Nat) : Int) ∧
 ∃ n15_0 : Int, w2.cell? ((a4.add (n8.toNat * 4)).add 0) = some (.int .i64 n15_0) ∧
 ∃ s15_1 : ByteArray, w2.cell? ((a4.add (n8.toNat * 4)).add 1) = some (.string s15_1) ∧
 ∃ n15_2 : Int, w2.cell? ((a4.add (n8.toNat * 4)).add 2) = some (.int .i64 n15_2) ∧
 ∃ n15_3 : Int, w2.cell? ((a4.add (n8.toNat * 4)).add 3) = some (.int .i64 n15_3) ∧
 ∃ b16 : Bool, (∀ w, (eqS .eql 70 (.tmp 11) (.tmp 15) (.agg #[.int .i64 n11_0, .string s11_1, .int .i64 n11_2, .int .i64 n11_3]) (.agg #[.int .i64 n15_0, .string s15_1, .int .i64 n15_2, .int .i64 n15_3])).run Try.prog w = .ok (.bool b16) w) ∧
 Br b16 (
 runD Try.prog ds w2 fun w5 =>
 R (.returned (.int .i64 n8)) w5) (
 J1 (IntKind.i64.wrap (n8 + 1)) w2)) (
 F27_1 R ds w)
def F27_3 (R : Rt) (l0 : SV) (p3 : Option Addr) (n7 : Int) (n8 : Int) (ds : Ds) (w : World) : Prop :=
 loopT (fun (J1 : (Int) → World → Prop) (s : Int) (w : World) => F27_2 R J1 l0 p3 n7 s ds w) n8 w
@[reducible] def F27_4 (R : Rt) (l0 : SV) (p3 : Option Addr) (n7 : Int) (n8 : Int) (ds : Ds) (w : World) : Prop := F27_3 R l0 p3 n7 n8 ds w
def F27_k6 (R : Rt) : EP := (fun ρ ds w => dSl (ρ 0) fun l0 => dPtr (ρ 3) fun p3 => dInt .i64 (ρ 7) fun n7 => dInt .i64 (ρ 8) fun n8 => F27_4 R l0 p3 n7 n8 ds w)
def F27_5 (R : Rt) (l0 : SV) (n1_0 : Int) (s1_1 : ByteArray) (n1_2 : Int) (n1_3 : Int) (ds : Ds) (w : World) : Prop :=
 alE (.cells #[.int .i64 n1_0, .string s1_1, .int .i64 n1_2, .int .i64 n1_3] 70) w fun r3 w6 =>
 F27_4 R l0 (some (⟨r3, 0, none⟩ : Addr)) ((l0.len : Nat) : Int) 0 ds w6
theorem c27_l : flat (bodyOf Try.f27) = [c27_0, c27_1, c27_2, c27_3, c27_4] := by kernel_rfl
theorem c27_2_l : flat (innerC c27_2) = [c27_2_0] := by kernel_rfl
theorem c27_2_0_l : flat (innerC c27_2_0) = [c27_2_0_0, c27_2_0_1, c27_2_0_2, c27_2_0_3] := by kernel_rfl
theorem F27_1_ok (R : Rt) (ds : Ds) (w : World) (ρ : Env) (h : F27_1 R ds w) :
    TrL Try.prog Try.f27.ntmps [c27_3, c27_4] (F27_q1 R) ρ ds w :=
  TrL_leaf (X := F27_1 R ds w) setAll_nil (by kernel_rfl) (by kernel_rfl) h
theorem F27_2_ok (R : Rt) (J1 : (Int) → World → Prop) (l0 : SV) (p3 : Option Addr) (n7 : Int) (n8 : Int) (ds : Ds) (w : World) (ρ : Env) (e0 : ρ 0 = .slice l0.a l0.len l0.cap) (e3 : ρ 3 = .pointer p3) (e7 : ρ 7 = .int .i64 n7) (e8 : ρ 8 = .int .i64 n8) (h : F27_2 R J1 l0 p3 n7 n8 ds w) :
    TrL Try.prog Try.f27.ntmps [c27_2_0_0, c27_2_0_1, c27_2_0_2, c27_2_0_3] (F27_q5 R J1) ρ ds w :=
  TrL_leaf (X := F27_2 R J1 l0 p3 n7 n8 ds w) (setAll_cons e0 (setAll_cons e3 (setAll_cons e7 (setAll_cons e8 setAll_nil)))) (by kernel_rfl) (by kernel_rfl) h
theorem F27_3_ok (R : Rt) (l0 : SV) (p3 : Option Addr) (n7 : Int) (n8 : Int) (ds : Ds) (w : World) (ρ : Env) (e0 : ρ 0 = .slice l0.a l0.len l0.cap) (e3 : ρ 3 = .pointer p3) (e7 : ρ 7 = .int .i64 n7) (e8 : ρ 8 = .int .i64 n8) (h : F27_3 R l0 p3 n7 n8 ds w) :
    TrL Try.prog Try.f27.ntmps [c27_2_0] (F27_q4 R) ρ ds w :=
  TrL_one (Tr_loop' (c := innerC c27_2_0) (σ := Int) (enc := (fun (s : Int) (ρ : Env) => ρ 8 = .int .i64 s)) (D := (fun ρ K => dInt .i64 (ρ 8) fun n8 => K n8)) (F := (fun (J1 : (Int) → World → Prop) (s : Int) (w : World) => F27_2 R J1 l0 p3 n7 s ds w)) (s0 := n8) (by kernel_rfl) c27_2_0_l e8 (by kernel_rfl) (fun ρ K hD => by obtain ⟨n8, e8, hD⟩ := dInt_elim hD; exact ⟨n8, e8, hD⟩)
      (fun J1 s ρ' w' he ha hF => by
      have e8' := he
      exact F27_2_ok R J1 l0 p3 n7 s ds w' ρ' ((ha 0 (by kernel_rfl)).trans e0) ((ha 3 (by kernel_rfl)).trans e3) ((ha 7 (by kernel_rfl)).trans e7) e8' hF) h)
theorem F27_4_ok (R : Rt) (l0 : SV) (p3 : Option Addr) (n7 : Int) (n8 : Int) (ds : Ds) (w : World) (ρ : Env) (e0 : ρ 0 = .slice l0.a l0.len l0.cap) (e3 : ρ 3 = .pointer p3) (e7 : ρ 7 = .int .i64 n7) (e8 : ρ 8 = .int .i64 n8) (h : F27_4 R l0 p3 n7 n8 ds w) :
    TrL Try.prog Try.f27.ntmps [c27_2, c27_3, c27_4] (F27_q1 R) ρ ds w :=
  TrL_head (K := (F27_k2 R)) (Tr_block' (c := innerC c27_2) (by kernel_rfl) c27_2_l (F27_3_ok R l0 p3 n7 n8 ds w ρ e0 e3 e7 e8 h))
    (fun ρ' ds' w' hD => by
      exact F27_1_ok R ds' w' ρ'  hD)
theorem F27_5_ok (R : Rt) (l0 : SV) (n1_0 : Int) (s1_1 : ByteArray) (n1_2 : Int) (n1_3 : Int) (ds : Ds) (w : World) (ρ : Env) (e0 : ρ 0 = .slice l0.a l0.len l0.cap) (e1 : ρ 1 = .agg #[.int .i64 n1_0, .string s1_1, .int .i64 n1_2, .int .i64 n1_3]) (h : F27_5 R l0 n1_0 s1_1 n1_2 n1_3 ds w) :
    TrL Try.prog Try.f27.ntmps [c27_0, c27_1, c27_2, c27_3, c27_4] (F27_q1 R) ρ ds w :=
  TrL_piece (pre := [c27_0, c27_1]) (K := (F27_k6 R)) (X := F27_5 R l0 n1_0 s1_1 n1_2 n1_3 ds w) (setAll_cons e0 (setAll_cons e1 setAll_nil)) (by kernel_rfl) (by kernel_rfl)
    (fun ρ' ds' w' hD => by
      obtain ⟨l0, e0, hD⟩ := dSl_elim hD; obtain ⟨p3, e3, hD⟩ := dPtr_elim hD; obtain ⟨n7, e7, hD⟩ := dInt_elim hD; obtain ⟨n8, e8, hD⟩ := dInt_elim hD; exact F27_4_ok R l0 p3 n7 n8 ds' w' ρ' e0 e3 e7 e8 hD) h
theorem F27_calls (l0 : SV) (n1_0 : Int) (s1_1 : ByteArray) (n1_2 : Int) (n1_3 : Int) (w : World) (R : Rt) (h : F27_5 R l0 n1_0 s1_1 n1_2 n1_3 [] w) : Calls Try.prog 27 #[.slice l0.a l0.len l0.cap, .agg #[.int .i64 n1_0, .string s1_1, .int .i64 n1_2, .int .i64 n1_3]] w R :=
  calls_of_L (l := [c27_0, c27_1, c27_2, c27_3, c27_4]) Try.func27 (by kernel_rfl) (by rw [Try.ntmps27]; exact Nat.le_of_ble_eq_true (by kernel_rfl)) c27_l
    (F27_5_ok R l0 n1_0 s1_1 n1_2 n1_3 [] w _ rfl rfl h)
theorem F27_callsD (l0 : SV) (n1_0 : Int) (s1_1 : ByteArray) (n1_2 : Int) (n1_3 : Int) (w : World) (R : Rt) (u : FrameMode) (h : F27_5 R l0 n1_0 s1_1 n1_2 n1_3 [] w) : CallsD Try.prog 27 #[.slice l0.a l0.len l0.cap, .agg #[.int .i64 n1_0, .string s1_1, .int .i64 n1_2, .int .i64 n1_3]] u w fun e u' w' => u' = u ∧ R e w' :=
  callsD_of_L (l := [c27_0, c27_1, c27_2, c27_3, c27_4]) Try.func27 (by kernel_rfl) (by rw [Try.ntmps27]; exact Nat.le_of_ble_eq_true (by kernel_rfl)) (by kernel_rfl) c27_l
    (F27_5_ok R l0 n1_0 s1_1 n1_2 n1_3 [] w _ rfl rfl h) u

/-! function 28: slices.Delete[[]cabinetry/disk.lock,cabinetry/disk.lock] -/
noncomputable def c28_0 : Code := itemAt (flat (bodyOf Try.f28)) 0
noncomputable def c28_1 : Code := itemAt (flat (bodyOf Try.f28)) 1
noncomputable def c28_2 : Code := itemAt (flat (bodyOf Try.f28)) 2
noncomputable def c28_3 : Code := itemAt (flat (bodyOf Try.f28)) 3
noncomputable def c28_4 : Code := itemAt (flat (bodyOf Try.f28)) 4
noncomputable def c28_5 : Code := itemAt (flat (bodyOf Try.f28)) 5
noncomputable def c28_6 : Code := itemAt (flat (bodyOf Try.f28)) 6
noncomputable def c28_7 : Code := itemAt (flat (bodyOf Try.f28)) 7
noncomputable def c28_8 : Code := itemAt (flat (bodyOf Try.f28)) 8
def F28_q1 (R : Rt) : EQ := endQ Try.prog Try.f28.results.toList R
def F28_1 (R : Rt) (l0 : SV) (n1 : Int) (n2 : Int) (ds : Ds) (w : World) : Prop :=
 ∃ l13 : SV, ∃ w1 : World, (Instr.sliceAt 50 (.slice l0.a l0.len l0.cap) (some (.int .i64 n1)) (some (.int .i64 n2)) (some (.int .i64 ((l0.len : Nat) : Int)))).run Try.prog w = .ok (.slice l13.a l13.len l13.cap) w1 ∧
 Br (n1 == n2) (
 runD Try.prog ds w1 fun w2 =>
 R (.returned (.slice l0.a l0.len l0.cap)) w2) (
 dwE w1 fun w3 =>
 0 ≤ n1 ∧ n1.toNat ≤ l0.cap ∧ 0 ≤ n1.toNat ∧
 l0.len ≤ l0.cap ∧ 0 ≤ n2 ∧ n2.toNat ≤ l0.len ∧
 ∃ l26 : SV, ∃ w4 : World, (Builtin.append_ #[50, 50] 50 #[.slice (if l0.cap = 0 then l0.a else l0.a.map (fun x => x.add (0 * 4))) (n1.toNat - 0) (l0.cap - 0), .slice (if l0.cap = n2.toNat then l0.a else l0.a.map (fun x => x.add (n2.toNat * 4))) (l0.len - n2.toNat) (l0.cap - n2.toNat)]).run Try.prog w3 = .ok (.slice l26.a l26.len l26.cap) w4 ∧
 0 ≤ ((l0.len : Nat) : Int) ∧ ((l0.len : Nat) : Int).toNat ≤ l26.cap ∧ 0 ≤ ((l26.len : Nat) : Int) ∧ ((l26.len : Nat) : Int).toNat ≤ ((l0.len : Nat) : Int).toNat ∧
 ∃ w5 : World, (Builtin.clear_ #[50] 0 #[.slice (if l26.cap = ((l26.len : Nat) : Int).toNat then l26.a else l26.a.map (fun x => x.add (((l26.len : Nat) : Int).toNat * 4))) (((l0.len : Nat) : Int).toNat - ((l26.len : Nat) : Int).toNat) (l26.cap - ((l26.len : Nat) : Int).toNat)]).run Try.prog w4 = .ok (.tuple #[]) w5 ∧
 runD Try.prog ds w5 fun w6 =>
 R (.returned (.slice l26.a l26.len l26.cap)) w6)
theorem c28_l : flat (bodyOf Try.f28) = [c28_0, c28_1, c28_2, c28_3, c28_4, c28_5, c28_6, c28_7, c28_8] := by kernel_rfl
theorem F28_1_ok (R : Rt) (l0 : SV) (n1 : Int) (n2 : Int) (ds : Ds) (w : World) (ρ : Env) (e0 : ρ 0 = .slice l0.a l0.len l0.cap) (e1 : ρ 1 = .int .i64 n1) (e2 : ρ 2 = .int .i64 n2) (h : F28_1 R l0 n1 n2 ds w) :
    TrL Try.prog Try.f28.ntmps [c28_0, c28_1, c28_2, c28_3, c28_4, c28_5, c28_6, c28_7, c28_8] (F28_q1 R) ρ ds w :=
  TrL_leaf (X := F28_1 R l0 n1 n2 ds w) (setAll_cons e0 (setAll_cons e1 (setAll_cons e2 setAll_nil))) (by kernel_rfl) (by kernel_rfl) h
theorem F28_calls (l0 : SV) (n1 : Int) (n2 : Int) (w : World) (R : Rt) (h : F28_1 R l0 n1 n2 [] w) : Calls Try.prog 28 #[.slice l0.a l0.len l0.cap, .int .i64 n1, .int .i64 n2] w R :=
  calls_of_L (l := [c28_0, c28_1, c28_2, c28_3, c28_4, c28_5, c28_6, c28_7, c28_8]) Try.func28 (by kernel_rfl) (by rw [Try.ntmps28]; exact Nat.le_of_ble_eq_true (by kernel_rfl)) c28_l
    (F28_1_ok R l0 n1 n2 [] w _ rfl rfl rfl h)
theorem F28_callsD (l0 : SV) (n1 : Int) (n2 : Int) (w : World) (R : Rt) (u : FrameMode) (h : F28_1 R l0 n1 n2 [] w) : CallsD Try.prog 28 #[.slice l0.a l0.len l0.cap, .int .i64 n1, .int .i64 n2] u w fun e u' w' => u' = u ∧ R e w' :=
  callsD_of_L (l := [c28_0, c28_1, c28_2, c28_3, c28_4, c28_5, c28_6, c28_7, c28_8]) Try.func28 (by kernel_rfl) (by rw [Try.ntmps28]; exact Nat.le_of_ble_eq_true (by kernel_rfl)) (by kernel_rfl) c28_l
    (F28_1_ok R l0 n1 n2 [] w _ rfl rfl rfl h) u

/-! function 29: (*cabinetry/disk.System).enter$1 -/
noncomputable def c29_0 : Code := itemAt (flat (bodyOf Try.f29)) 0
def F29_q1 (R : Rt) : EQ := endQ Try.prog Try.f29.results.toList R
def F29_1 (R : Rt) (ds : Ds) (w : World) : Prop :=
 runD Try.prog ds w fun w1 =>
 R (.returned (.tuple #[])) w1
theorem c29_l : flat (bodyOf Try.f29) = [c29_0] := by kernel_rfl
theorem F29_1_ok (R : Rt) (ds : Ds) (w : World) (ρ : Env) (h : F29_1 R ds w) :
    TrL Try.prog Try.f29.ntmps [c29_0] (F29_q1 R) ρ ds w :=
  TrL_leaf (X := F29_1 R ds w) setAll_nil (by kernel_rfl) (by kernel_rfl) h
theorem F29_calls  (w : World) (R : Rt) (h : F29_1 R [] w) : Calls Try.prog 29 #[] w R :=
  calls_of_L (l := [c29_0]) Try.func29 (by kernel_rfl) (by rw [Try.ntmps29]; exact Nat.le_of_ble_eq_true (by kernel_rfl)) c29_l
    (F29_1_ok R [] w _  h)
theorem F29_callsD  (w : World) (R : Rt) (u : FrameMode) (h : F29_1 R [] w) : CallsD Try.prog 29 #[] u w fun e u' w' => u' = u ∧ R e w' :=
  callsD_of_L (l := [c29_0]) Try.func29 (by kernel_rfl) (by rw [Try.ntmps29]; exact Nat.le_of_ble_eq_true (by kernel_rfl)) (by kernel_rfl) c29_l
    (F29_1_ok R [] w _  h) u

/-! function 30: (*sync.Mutex).Lock -/
noncomputable def c30_0 : Code := itemAt (flat (bodyOf Try.f30)) 0
def F30_q1 (R : Rt) : EQ := endQ Try.prog Try.f30.results.toList R
def F30_1 (R : Rt) (p0 : Option Addr) (ds : Ds) (w : World) : Prop :=
 ptrE p0 fun a1 =>
 Calls Try.prog 35 #[.pointer (some a1)] w fun e w2 =>
 e = .returned (.tuple #[]) ∧
 runD Try.prog ds w2 fun w3 =>
 R (.returned (.tuple #[])) w3
theorem c30_l : flat (bodyOf Try.f30) = [c30_0] := by kernel_rfl
theorem F30_1_ok (R : Rt) (p0 : Option Addr) (ds : Ds) (w : World) (ρ : Env) (e0 : ρ 0 = .pointer p0) (h : F30_1 R p0 ds w) :
    TrL Try.prog Try.f30.ntmps [c30_0] (F30_q1 R) ρ ds w :=
  TrL_leaf (X := F30_1 R p0 ds w) (setAll_cons e0 setAll_nil) (by kernel_rfl) (by kernel_rfl) h
theorem F30_calls (p0 : Option Addr) (w : World) (R : Rt) (h : F30_1 R p0 [] w) : Calls Try.prog 30 #[.pointer p0] w R :=
  calls_of_L (l := [c30_0]) Try.func30 (by kernel_rfl) (by rw [Try.ntmps30]; exact Nat.le_of_ble_eq_true (by kernel_rfl)) c30_l
    (F30_1_ok R p0 [] w _ rfl h)
theorem F30_callsD (p0 : Option Addr) (w : World) (R : Rt) (u : FrameMode) (h : F30_1 R p0 [] w) : CallsD Try.prog 30 #[.pointer p0] u w fun e u' w' => u' = u ∧ R e w' :=
  callsD_of_L (l := [c30_0]) Try.func30 (by kernel_rfl) (by rw [Try.ntmps30]; exact Nat.le_of_ble_eq_true (by kernel_rfl)) (by kernel_rfl) c30_l
    (F30_1_ok R p0 [] w _ rfl h) u

/-! function 31: cabinetry/disk.isName -/
noncomputable def c31_0 : Code := itemAt (flat (bodyOf Try.f31)) 0
noncomputable def c31_1 : Code := itemAt (flat (bodyOf Try.f31)) 1
noncomputable def c31_2 : Code := itemAt (flat (bodyOf Try.f31)) 2
noncomputable def c31_3 : Code := itemAt (flat (bodyOf Try.f31)) 3
noncomputable def c31_4 : Code := itemAt (flat (bodyOf Try.f31)) 4
noncomputable def c31_5 : Code := itemAt (flat (bodyOf Try.f31)) 5
noncomputable def c31_6 : Code := itemAt (flat (bodyOf Try.f31)) 6
noncomputable def c31_4_0 : Code := itemAt (flat (innerC c31_4)) 0
noncomputable def c31_4_0_0 : Code := itemAt (flat (innerC c31_4_0)) 0
noncomputable def c31_4_0_1 : Code := itemAt (flat (innerC c31_4_0)) 1
noncomputable def c31_4_0_2 : Code := itemAt (flat (innerC c31_4_0)) 2
noncomputable def c31_4_0_3 : Code := itemAt (flat (innerC c31_4_0)) 3
def F31_q1 (R : Rt) : EQ := endQ Try.prog Try.f31.results.toList R
def F31_1 (R : Rt) (ds : Ds) (w : World) : Prop :=
 runD Try.prog ds w fun w1 =>
 R (.returned (.bool true)) w1
def F31_k2 (R : Rt) : EP := (fun ρ ds w => F31_1 R ds w)
def F31_q3 (R : Rt) : EQ := (thenQ (F31_k2 R) (F31_q1 R))
def F31_q4 (R : Rt) : EQ := (blockQ 0 (F31_q3 R))
def F31_q5 (R : Rt) (J1 : (Int) → World → Prop) : EQ := (thenQ (fun ρ _ w => dInt .i64 (ρ 15) fun n15 => J1 n15 w) (F31_q4 R))
def F31_2 (R : Rt) (J1 : (Int) → World → Prop) (l13 : SV) (n14 : Int) (n15 : Int) (ds : Ds) (w : World) : Prop :=
 J1 (IntKind.i64.wrap (n15 + 1)) w
def F31_k6 (R : Rt) (J1 : (Int) → World → Prop) : EP := (fun ρ ds w => dSl (ρ 13) fun l13 => dInt .i64 (ρ 14) fun n14 => dInt .i64 (ρ 15) fun n15 => F31_2 R J1 l13 n14 n15 ds w)
def F31_3 (R : Rt) (J1 : (Int) → World → Prop) (l13 : SV) (n14 : Int) (n15 : Int) (ds : Ds) (w : World) : Prop :=
 ∃ a2 : Addr, l13.a = some a2 ∧ 0 ≤ n15 ∧ n15 < ((l13.len : Nat) : Int) ∧
 ∃ n18 : Int, w.cell? (a2.add (n15.toNat * 1)) = some (.int .u8 n18) ∧
 Br (n18 != 46) (
 Br (decide (n18 < 48)) (
 Br (decide (n18 < 65)) (
 Br (decide (n18 < 97)) (
 runD Try.prog ds w fun w3 =>
 R (.returned (.bool false)) w3) (
 Br (decide (n18 > 122)) (
 runD Try.prog ds w fun w4 =>
 R (.returned (.bool false)) w4) (
 F31_2 R J1 l13 n14 n15 ds w))) (
 Br (decide (n18 > 90)) (
 Br (decide (n18 < 97)) (
 runD Try.prog ds w fun w5 =>
 R (.returned (.bool false)) w5) (
 Br (decide (n18 > 122)) (
 runD Try.prog ds w fun w6 =>
 R (.returned (.bool false)) w6) (
 F31_2 R J1 l13 n14 n15 ds w))) (
 F31_2 R J1 l13 n14 n15 ds w))) (
 Br (decide (n18 > 57)) (
 Br (decide (n18 < 65)) (
 Br (decide (n18 < 97)) (
 runD Try.prog ds w fun w7 =>
 R (.returned (.bool false)) w7) (
 Br (decide (n18 > 122)) (
 runD Try.prog ds w fun w8 =>
 R (.returned (.bool false)) w8) (
 F31_2 R J1 l13 n14 n15 ds w))) (
 Br (decide (n18 > 90)) (
 Br (decide (n18 < 97)) (
 runD Try.prog ds w fun w9 =>
 R (.returned (.bool false)) w9) (
 Br (decide (n18 > 122)) (
 runD Try.prog ds w fun w10 =>
 R (.returned (.bool false)) w10) (
 F31_2 R J1 l13 n14 n15 ds w))) (
 F31_2 R J1 l13 n14 n15 ds w))) (
 F31_2 R J1 l13 n14 n15 ds w))) (
 F31_2 R J1 l13 n14 n15 ds w)
def F31_k7 (R : Rt) (J1 : (Int) → World → Prop) : EP := (fun ρ ds w => dSl (ρ 13) fun l13 => dInt .i64 (ρ 14) fun n14 => dInt .i64 (ρ 15) fun n15 => F31_3 R J1 l13 n14 n15 ds w)
def F31_4 (R : Rt) (J1 : (Int) → World → Prop) (l13 : SV) (n14 : Int) (n15 : Int) (ds : Ds) (w : World) : Prop :=
 Br (decide (n15 < n14)) (
 F31_3 R J1 l13 n14 n15 ds w) (
 F31_1 R ds w)
def F31_5 (R : Rt) (l13 : SV) (n14 : Int) (n15 : Int) (ds : Ds) (w : World) : Prop :=
 loopT (fun (J1 : (Int) → World → Prop) (s : Int) (w : World) => F31_4 R J1 l13 n14 s ds w) n15 w
@[reducible] def F31_6 (R : Rt) (l13 : SV) (n14 : Int) (n15 : Int) (ds : Ds) (w : World) : Prop := F31_5 R l13 n14 n15 ds w
def F31_k8 (R : Rt) : EP := (fun ρ ds w => dSl (ρ 13) fun l13 => dInt .i64 (ρ 14) fun n14 => dInt .i64 (ρ 15) fun n15 => F31_6 R l13 n14 n15 ds w)
def F31_7 (R : Rt) (s0 : ByteArray) (ds : Ds) (w : World) : Prop :=
 Br (s0.toList == (⟨#[]⟩ : ByteArray).toList) (
 runD Try.prog ds w fun w11 =>
 R (.returned (.bool false)) w11) (
 Br (decide (((s0.size : Nat) : Int) > 10)) (
 runD Try.prog ds w fun w12 =>
 R (.returned (.bool false)) w12) (
 ∃ l13 : SV, ∃ w13 : World, (convert 9 29 (.string s0)).run Try.prog w = .ok (.slice l13.a l13.len l13.cap) w13 ∧
 F31_6 R l13 ((l13.len : Nat) : Int) 0 ds w13))
theorem c31_l : flat (bodyOf Try.f31) = [c31_0, c31_1, c31_2, c31_3, c31_4, c31_5, c31_6] := by kernel_rfl
theorem c31_4_l : flat (innerC c31_4) = [c31_4_0] := by kernel_rfl
theorem c31_4_0_l : flat (innerC c31_4_0) = [c31_4_0_0, c31_4_0_1, c31_4_0_2, c31_4_0_3] := by kernel_rfl
theorem F31_1_ok (R : Rt) (ds : Ds) (w : World) (ρ : Env) (h : F31_1 R ds w) :
    TrL Try.prog Try.f31.ntmps [c31_5, c31_6] (F31_q1 R) ρ ds w :=
  TrL_leaf (X := F31_1 R ds w) setAll_nil (by kernel_rfl) (by kernel_rfl) h
theorem F31_2_ok (R : Rt) (J1 : (Int) → World → Prop) (l13 : SV) (n14 : Int) (n15 : Int) (ds : Ds) (w : World) (ρ : Env) (e13 : ρ 13 = .slice l13.a l13.len l13.cap) (e14 : ρ 14 = .int .i64 n14) (e15 : ρ 15 = .int .i64 n15) (h : F31_2 R J1 l13 n14 n15 ds w) :
    TrL Try.prog Try.f31.ntmps [c31_4_0_3] (F31_q5 R J1) ρ ds w :=
  TrL_leaf (X := F31_2 R J1 l13 n14 n15 ds w) (setAll_cons e13 (setAll_cons e14 (setAll_cons e15 setAll_nil))) (by kernel_rfl) (by kernel_rfl) h
theorem F31_3_ok (R : Rt) (J1 : (Int) → World → Prop) (l13 : SV) (n14 : Int) (n15 : Int) (ds : Ds) (w : World) (ρ : Env) (e13 : ρ 13 = .slice l13.a l13.len l13.cap) (e14 : ρ 14 = .int .i64 n14) (e15 : ρ 15 = .int .i64 n15) (h : F31_3 R J1 l13 n14 n15 ds w) :
    TrL Try.prog Try.f31.ntmps [c31_4_0_2, c31_4_0_3] (F31_q5 R J1) ρ ds w :=
  TrL_piece (pre := [c31_4_0_2]) (K := (F31_k6 R J1)) (X := F31_3 R J1 l13 n14 n15 ds w) (setAll_cons e13 (setAll_cons e14 (setAll_cons e15 setAll_nil))) (by kernel_rfl) (by kernel_rfl)
    (fun ρ' ds' w' hD => by
      obtain ⟨l13, e13, hD⟩ := dSl_elim hD; obtain ⟨n14, e14, hD⟩ := dInt_elim hD; obtain ⟨n15, e15, hD⟩ := dInt_elim hD; exact F31_2_ok R J1 l13 n14 n15 ds' w' ρ' e13 e14 e15 hD) h
theorem F31_4_ok (R : Rt) (J1 : (Int) → World → Prop) (l13 : SV) (n14 : Int) (n15 : Int) (ds : Ds) (w : World) (ρ : Env) (e13 : ρ 13 = .slice l13.a l13.len l13.cap) (e14 : ρ 14 = .int .i64 n14) (e15 : ρ 15 = .int .i64 n15) (h : F31_4 R J1 l13 n14 n15 ds w) :
    TrL Try.prog Try.f31.ntmps [c31_4_0_0, c31_4_0_1, c31_4_0_2, c31_4_0_3] (F31_q5 R J1) ρ ds w :=
  TrL_piece (pre := [c31_4_0_0, c31_4_0_1]) (K := (F31_k7 R J1)) (X := F31_4 R J1 l13 n14 n15 ds w) (setAll_cons e13 (setAll_cons e14 (setAll_cons e15 setAll_nil))) (by kernel_rfl) (by kernel_rfl)
    (fun ρ' ds' w' hD => by
      obtain ⟨l13, e13, hD⟩ := dSl_elim hD; obtain ⟨n14, e14, hD⟩ := dInt_elim hD; obtain ⟨n15, e15, hD⟩ := dInt_elim hD; exact F31_3_ok R J1 l13 n14 n15 ds' w' ρ' e13 e14 e15 hD) h
theorem F31_5_ok (R : Rt) (l13 : SV) (n14 : Int) (n15 : Int) (ds : Ds) (w : World) (ρ : Env) (e13 : ρ 13 = .slice l13.a l13.len l13.cap) (e14 : ρ 14 = .int .i64 n14) (e15 : ρ 15 = .int .i64 n15) (h : F31_5 R l13 n14 n15 ds w) :
    TrL Try.prog Try.f31.ntmps [c31_4_0] (F31_q4 R) ρ ds w :=
  TrL_one (Tr_loop' (c := innerC c31_4_0) (σ := Int) (enc := (fun (s : Int) (ρ : Env) => ρ 15 = .int .i64 s)) (D := (fun ρ K => dInt .i64 (ρ 15) fun n15 => K n15)) (F := (fun (J1 : (Int) → World → Prop) (s : Int) (w : World) => F31_4 R J1 l13 n14 s ds w)) (s0 := n15) (by kernel_rfl) c31_4_0_l e15 (by kernel_rfl) (fun ρ K hD => by obtain ⟨n15, e15, hD⟩ := dInt_elim hD; exact ⟨n15, e15, hD⟩)
      (fun J1 s ρ' w' he ha hF => by
      have e15' := he
      exact F31_4_ok R J1 l13 n14 s ds w' ρ' ((ha 13 (by kernel_rfl)).trans e13) ((ha 14 (by kernel_rfl)).trans e14) e15' hF) h)
theorem F31_6_ok (R : Rt) (l13 : SV) (n14 : Int) (n15 : Int) (ds : Ds) (w : World) (ρ : Env) (e13 : ρ 13 = .slice l13.a l13.len l13.cap) (e14 : ρ 14 = .int .i64 n14) (e15 : ρ 15 = .int .i64 n15) (h : F31_6 R l13 n14 n15 ds w) :
    TrL Try.prog Try.f31.ntmps [c31_4, c31_5, c31_6] (F31_q1 R) ρ ds w :=
  TrL_head (K := (F31_k2 R)) (Tr_block' (c := innerC c31_4) (by kernel_rfl) c31_4_l (F31_5_ok R l13 n14 n15 ds w ρ e13 e14 e15 h))
    (fun ρ' ds' w' hD => by
      exact F31_1_ok R ds' w' ρ'  hD)
theorem F31_7_ok (R : Rt) (s0 : ByteArray) (ds : Ds) (w : World) (ρ : Env) (e0 : ρ 0 = .string s0) (h : F31_7 R s0 ds w) :
    TrL Try.prog Try.f31.ntmps [c31_0, c31_1, c31_2, c31_3, c31_4, c31_5, c31_6] (F31_q1 R) ρ ds w :=
  TrL_piece (pre := [c31_0, c31_1, c31_2, c31_3]) (K := (F31_k8 R)) (X := F31_7 R s0 ds w) (setAll_cons e0 setAll_nil) (by kernel_rfl) (by kernel_rfl)
    (fun ρ' ds' w' hD => by
      obtain ⟨l13, e13, hD⟩ := dSl_elim hD; obtain ⟨n14, e14, hD⟩ := dInt_elim hD; obtain ⟨n15, e15, hD⟩ := dInt_elim hD; exact F31_6_ok R l13 n14 n15 ds' w' ρ' e13 e14 e15 hD) h
theorem F31_calls (s0 : ByteArray) (w : World) (R : Rt) (h : F31_7 R s0 [] w) : Calls Try.prog 31 #[.string s0] w R :=
  calls_of_L (l := [c31_0, c31_1, c31_2, c31_3, c31_4, c31_5, c31_6]) Try.func31 (by kernel_rfl) (by rw [Try.ntmps31]; exact Nat.le_of_ble_eq_true (by kernel_rfl)) c31_l
    (F31_7_ok R s0 [] w _ rfl h)
theorem F31_callsD (s0 : ByteArray) (w : World) (R : Rt) (u : FrameMode) (h : F31_7 R s0 [] w) : CallsD Try.prog 31 #[.string s0] u w fun e u' w' => u' = u ∧ R e w' :=
  callsD_of_L (l := [c31_0, c31_1, c31_2, c31_3, c31_4, c31_5, c31_6]) Try.func31 (by kernel_rfl) (by rw [Try.ntmps31]; exact Nat.le_of_ble_eq_true (by kernel_rfl)) (by kernel_rfl) c31_l
    (F31_7_ok R s0 [] w _ rfl h) u

/-! function 32: (*sync.Mutex).Unlock -/
noncomputable def c32_0 : Code := itemAt (flat (bodyOf Try.f32)) 0
def F32_q1 (R : Rt) : EQ := endQ Try.prog Try.f32.results.toList R
def F32_1 (R : Rt) (p0 : Option Addr) (ds : Ds) (w : World) : Prop :=
 ptrE p0 fun a1 =>
 Calls Try.prog 36 #[.pointer (some a1)] w fun e w2 =>
 e = .returned (.tuple #[]) ∧
 runD Try.prog ds w2 fun w3 =>
 R (.returned (.tuple #[])) w3
theorem c32_l : flat (bodyOf Try.f32) = [c32_0] := by kernel_rfl
theorem F32_1_ok (R : Rt) (p0 : Option Addr) (ds : Ds) (w : World) (ρ : Env) (e0 : ρ 0 = .pointer p0) (h : F32_1 R p0 ds w) :
    TrL Try.prog Try.f32.ntmps [c32_0] (F32_q1 R) ρ ds w :=
  TrL_leaf (X := F32_1 R p0 ds w) (setAll_cons e0 setAll_nil) (by kernel_rfl) (by kernel_rfl) h
theorem F32_calls (p0 : Option Addr) (w : World) (R : Rt) (h : F32_1 R p0 [] w) : Calls Try.prog 32 #[.pointer p0] w R :=
  calls_of_L (l := [c32_0]) Try.func32 (by kernel_rfl) (by rw [Try.ntmps32]; exact Nat.le_of_ble_eq_true (by kernel_rfl)) c32_l
    (F32_1_ok R p0 [] w _ rfl h)
theorem F32_callsD (p0 : Option Addr) (w : World) (R : Rt) (u : FrameMode) (h : F32_1 R p0 [] w) : CallsD Try.prog 32 #[.pointer p0] u w fun e u' w' => u' = u ∧ R e w' :=
  callsD_of_L (l := [c32_0]) Try.func32 (by kernel_rfl) (by rw [Try.ntmps32]; exact Nat.le_of_ble_eq_true (by kernel_rfl)) (by kernel_rfl) c32_l
    (F32_1_ok R p0 [] w _ rfl h) u

/-! function 33: (*cabinetry/disk.System).page -/
noncomputable def c33_0 : Code := itemAt (flat (bodyOf Try.f33)) 0
noncomputable def c33_1 : Code := itemAt (flat (bodyOf Try.f33)) 1
noncomputable def c33_2 : Code := itemAt (flat (bodyOf Try.f33)) 2
noncomputable def c33_3 : Code := itemAt (flat (bodyOf Try.f33)) 3
noncomputable def c33_4 : Code := itemAt (flat (bodyOf Try.f33)) 4
noncomputable def c33_5 : Code := itemAt (flat (bodyOf Try.f33)) 5
noncomputable def c33_6 : Code := itemAt (flat (bodyOf Try.f33)) 6
noncomputable def c33_7 : Code := itemAt (flat (bodyOf Try.f33)) 7
noncomputable def c33_8 : Code := itemAt (flat (bodyOf Try.f33)) 8
noncomputable def c33_6_0 : Code := itemAt (flat (innerC c33_6)) 0
noncomputable def c33_6_0_0 : Code := itemAt (flat (innerC c33_6_0)) 0
noncomputable def c33_6_0_1 : Code := itemAt (flat (innerC c33_6_0)) 1
noncomputable def c33_6_0_2 : Code := itemAt (flat (innerC c33_6_0)) 2
noncomputable def c33_6_0_3 : Code := itemAt (flat (innerC c33_6_0)) 3
def F33_q1 (R : Rt) : EQ := endQ Try.prog Try.f33.results.toList R
def F33_1 (R : Rt) (p10 : Option Addr) (p11 : Option Addr) (ds : Ds) (w : World) : Prop :=
 ptrE p11 fun a1 =>
 ∃ c82 : Array Value, c82.size = 96 ∧ (∀ i, i < 96 → w.cell? (a1.add i) = c82[i]?) ∧
 ptrE p10 fun a2 =>
 stA Try.prog 61 a2 c82 w fun w3 =>
 runD Try.prog ds w3 fun w4 =>
 ptrE p10 fun a5 =>
 ∃ cR0 : Array Value, cR0.size = 96 ∧ (∀ i, i < 96 → w4.cell? (a5.add i) = cR0[i]?) ∧
 R (.returned (.agg cR0)) w4
def F33_k2 (R : Rt) : EP := (fun ρ ds w => dPtr (ρ 10) fun p10 => dPtr (ρ 11) fun p11 => F33_1 R p10 p11 ds w)
def F33_q3 (R : Rt) : EQ := (thenQ (F33_k2 R) (F33_q1 R))
def F33_q4 (R : Rt) : EQ := (blockQ 0 (F33_q3 R))
def F33_q5 (R : Rt) (J1 : (Int) → World → Prop) : EQ := (thenQ (fun ρ _ w => dInt .i64 (ρ 40) fun n40 => J1 n40 w) (F33_q4 R))
def F33_2 (R : Rt) (J1 : (Int) → World → Prop) (n3 : Int) (n4 : Int) (p7 : Option Addr) (p10 : Option Addr) (p11 : Option Addr) (l13 : SV) (n40 : Int) (ds : Ds) (w : World) : Prop :=
 J1 (IntKind.i64.wrap (n40 + 1)) w
def F33_k6 (R : Rt) (J1 : (Int) → World → Prop) : EP := (fun ρ ds w => dInt .i64 (ρ 3) fun n3 => dInt .i64 (ρ 4) fun n4 => dPtr (ρ 7) fun p7 => dPtr (ρ 10) fun p10 => dPtr (ρ 11) fun p11 => dSl (ρ 13) fun l13 => dInt .i64 (ρ 40) fun n40 => F33_2 R J1 n3 n4 p7 p10 p11 l13 n40 ds w)
def F33_3 (R : Rt) (J1 : (Int) → World → Prop) (n3 : Int) (n4 : Int) (p7 : Option Addr) (p10 : Option Addr) (p11 : Option Addr) (l13 : SV) (n40 : Int) (ds : Ds) (w : World) : Prop :=
 Br (decide (n40 < 32)) (
 ptrE p7 fun a6 =>
 ∃ n44 : Int, w.cell? (a6.add 1) = some (.int .i64 n44) ∧
 Br (decide ((IntKind.i64.wrap ((IntKind.i64.wrap (n44 * 32)) + n40)) ≥ n3)) (
 Br (decide ((IntKind.i64.wrap ((IntKind.i64.wrap (n44 * 32)) + n40)) < (IntKind.i64.wrap (n3 + n4)))) (
 Br (decide ((IntKind.i64.wrap ((IntKind.i64.wrap (n44 * 32)) + n40)) < ((l13.len : Nat) : Int))) (
 ptrE p11 fun a7 =>
 0 ≤ n40 ∧ n40 < ((32 : Nat) : Int) ∧
 ∃ b68 : Bool, w.cell? ((a7.add 32).add (n40.toNat * 1)) = some (.bool b68) ∧
 Br (!b68) (
 dwE w fun w8 =>
 ∃ S1 : World → Prop, S1 w8 ∧
 ∃ a9 : Addr, l13.a = some a9 ∧ 0 ≤ (IntKind.i64.wrap ((IntKind.i64.wrap (n44 * 32)) + n40)) ∧ (IntKind.i64.wrap ((IntKind.i64.wrap (n44 * 32)) + n40)) < ((l13.len : Nat) : Int) ∧
 ∃ n76 : Int, (∀ w', S1 w' → w'.cell? (a9.add ((IntKind.i64.wrap ((IntKind.i64.wrap (n44 * 32)) + n40)).toNat * 1)) = some (.int .u8 n76)) ∧
 ptrE p11 fun a10 =>
 0 ≤ n40 ∧ n40 < ((32 : Nat) : Int) ∧
 ptrE p11 fun a11 =>
 st1 ((a10.add 32).add (n40.toNat * 1)) (.bool true) w8 fun w12 =>
 S1 w12 ∧
 0 ≤ n40 ∧ n40 < ((32 : Nat) : Int) ∧
 st1 (a11.add (n40.toNat * 1)) (.int .u8 n76) w12 fun w13 =>
 F33_2 R J1 n3 n4 p7 p10 p11 l13 n40 ds w13) (
 F33_2 R J1 n3 n4 p7 p10 p11 l13 n40 ds w)) (
 F33_2 R J1 n3 n4 p7 p10 p11 l13 n40 ds w)) (
 F33_2 R J1 n3 n4 p7 p10 p11 l13 n40 ds w)) (
 F33_2 R J1 n3 n4 p7 p10 p11 l13 n40 ds w)) (
 F33_1 R p10 p11 ds w)
def F33_4 (R : Rt) (n3 : Int) (n4 : Int) (p7 : Option Addr) (p10 : Option Addr) (p11 : Option Addr) (l13 : SV) (n40 : Int) (ds : Ds) (w : World) : Prop :=
 loopT (fun (J1 : (Int) → World → Prop) (s : Int) (w : World) => F33_3 R J1 n3 n4 p7 p10 p11 l13 s ds w) n40 w
@[reducible] def F33_5 (R : Rt) (n3 : Int) (n4 : Int) (p7 : Option Addr) (p10 : Option Addr) (p11 : Option Addr) (l13 : SV) (n40 : Int) (ds : Ds) (w : World) : Prop := F33_4 R n3 n4 p7 p10 p11 l13 n40 ds w
def F33_k7 (R : Rt) : EP := (fun ρ ds w => dInt .i64 (ρ 3) fun n3 => dInt .i64 (ρ 4) fun n4 => dPtr (ρ 7) fun p7 => dPtr (ρ 10) fun p10 => dPtr (ρ 11) fun p11 => dSl (ρ 13) fun l13 => dInt .i64 (ρ 40) fun n40 => F33_5 R n3 n4 p7 p10 p11 l13 n40 ds w)
def F33_6 (R : Rt) (p0 : Option Addr) (n1 : Int) (s2_0 : ByteArray) (n2_1 : Int) (n3 : Int) (n4 : Int) (ds : Ds) (w : World) : Prop :=
 alE (.cells #[.string s2_0, .int .i64 n2_1] 66) w fun r7 w14 =>
 alE (.cells (zc Try.prog 61) 61) w14 fun r10 w15 =>
 dwE w15 fun w16 =>
 ∃ S2 : World → Prop, S2 w16 ∧
 ptrE p0 fun a17 =>
 0 ≤ n1 ∧ n1 < ((4 : Nat) : Int) ∧
 ∃ m22 : Option Nat, (∀ w', S2 w' → w'.cell? ((a17.add 3).add (n1.toNat * 1)) = some (.map m22)) ∧
 ∃ s23_0 : ByteArray, (∀ w', S2 w' → w'.cell? ((⟨r7, 0, none⟩ : Addr).add 0) = some (.string s23_0)) ∧
 ∃ n23_1 : Int, (∀ w', S2 w' → w'.cell? ((⟨r7, 0, none⟩ : Addr).add 1) = some (.int .i64 n23_1)) ∧
 ∃ c24_0 : Array Value, c24_0.size = 96 ∧ ∃ b24_1 : Bool, (∀ w', S2 w' → (Instr.lookup 48 (.map m22) (.agg #[.string s23_0, .int .i64 n23_1]) true).run Try.prog w' = .ok (.tuple #[.agg c24_0, .bool b24_1]) w') ∧
 alE (.cells (zc Try.prog 61) 61) w16 fun r11 w18 =>
 S2 w18 ∧
 stA Try.prog 61 (⟨r11, 0, none⟩ : Addr) c24_0 w18 fun w19 =>
 Br (!b24_1) (
 ∃ s31_0 : ByteArray, w19.cell? ((⟨r7, 0, none⟩ : Addr).add 0) = some (.string s31_0) ∧
 ∃ n31_1 : Int, w19.cell? ((⟨r7, 0, none⟩ : Addr).add 1) = some (.int .i64 n31_1) ∧
 Calls Try.prog 37 #[.pointer p0, .int .i64 n1, .agg #[.string s31_0, .int .i64 n31_1]] w19 fun e w20 =>
 ∃ c32 : Array Value, c32.size = 96 ∧ e = .returned (.agg c32) ∧
 stA Try.prog 61 (⟨r10, 0, none⟩ : Addr) c32 w20 fun w21 =>
 runD Try.prog ds w21 fun w22 =>
 ∃ cR0 : Array Value, cR0.size = 96 ∧ (∀ i, i < 96 → w22.cell? ((⟨r10, 0, none⟩ : Addr).add i) = cR0[i]?) ∧
 R (.returned (.agg cR0)) w22) (
 dwE w19 fun w23 =>
 ptrE p0 fun a24 =>
 ∃ m36 : Option Nat, w23.cell? (a24.add 2) = some (.map m36) ∧
 ∃ s38 : ByteArray, w23.cell? (⟨r7, 0, none⟩ : Addr) = some (.string s38) ∧
 ∃ l39 : SV, (Instr.lookup 40 (.map m36) (.string s38) false).run Try.prog w23 = .ok (.slice l39.a l39.len l39.cap) w23 ∧
 F33_5 R n3 n4 (some (⟨r7, 0, none⟩ : Addr)) (some (⟨r10, 0, none⟩ : Addr)) (some (⟨r11, 0, none⟩ : Addr)) l39 0 ds w23)
theorem c33_l : flat (bodyOf Try.f33) = [c33_0, c33_1, c33_2, c33_3, c33_4, c33_5, c33_6, c33_7, c33_8] := by kernel_rfl
theorem c33_6_l : flat (innerC c33_6) = [c33_6_0] := by kernel_rfl
theorem c33_6_0_l : flat (innerC c33_6_0) = [c33_6_0_0, c33_6_0_1, c33_6_0_2, c33_6_0_3] := by kernel_rfl
theorem F33_1_ok (R : Rt) (p10 : Option Addr) (p11 : Option Addr) (ds : Ds) (w : World) (ρ : Env) (e10 : ρ 10 = .pointer p10) (e11 : ρ 11 = .pointer p11) (h : F33_1 R p10 p11 ds w) :
    TrL Try.prog Try.f33.ntmps [c33_7, c33_8] (F33_q1 R) ρ ds w :=
  TrL_leaf (X := F33_1 R p10 p11 ds w) (setAll_cons e10 (setAll_cons e11 setAll_nil)) (by kernel_rfl) (by kernel_rfl) h
theorem F33_2_ok (R : Rt) (J1 : (Int) → World → Prop) (n3 : Int) (n4 : Int) (p7 : Option Addr) (p10 : Option Addr) (p11 : Option Addr) (l13 : SV) (n40 : Int) (ds : Ds) (w : World) (ρ : Env) (e3 : ρ 3 = .int .i64 n3) (e4 : ρ 4 = .int .i64 n4) (e7 : ρ 7 = .pointer p7) (e10 : ρ 10 = .pointer p10) (e11 : ρ 11 = .pointer p11) (e13 : ρ 13 = .slice l13.a l13.len l13.cap) (e40 : ρ 40 = .int .i64 n40) (h : F33_2 R J1 n3 n4 p7 p10 p11 l13 n40 ds w) :
    TrL Try.prog Try.f33.ntmps [c33_6_0_3] (F33_q5 R J1) ρ ds w :=
  TrL_leaf (X := F33_2 R J1 n3 n4 p7 p10 p11 l13 n40 ds w) (setAll_cons e3 (setAll_cons e4 (setAll_cons e7 (setAll_cons e10 (setAll_cons e11 (setAll_cons e13 (setAll_cons e40 setAll_nil))))))) (by kernel_rfl) (by kernel_rfl) h
theorem F33_3_ok (R : Rt) (J1 : (Int) → World → Prop) (n3 : Int) (n4 : Int) (p7 : Option Addr) (p10 : Option Addr) (p11 : Option Addr) (l13 : SV) (n40 : Int) (ds : Ds) (w : World) (ρ : Env) (e3 : ρ 3 = .int .i64 n3) (e4 : ρ 4 = .int .i64 n4) (e7 : ρ 7 = .pointer p7) (e10 : ρ 10 = .pointer p10) (e11 : ρ 11 = .pointer p11) (e13 : ρ 13 = .slice l13.a l13.len l13.cap) (e40 : ρ 40 = .int .i64 n40) (h : F33_3 R J1 n3 n4 p7 p10 p11 l13 n40 ds w) :
    TrL Try.prog Try.f33.ntmps [c33_6_0_0, c33_6_0_1, c33_6_0_2, c33_6_0_3] (F33_q5 R J1) ρ ds w :=
  TrL_piece (pre := [c33_6_0_0, c33_6_0_1, c33_6_0_2]) (K := (F33_k6 R J1)) (X := F33_3 R J1 n3 n4 p7 p10 p11 l13 n40 ds w) (setAll_cons e3 (setAll_cons e4 (setAll_cons e7 (setAll_cons e10 (setAll_cons e11 (setAll_cons e13 (setAll_cons e40 setAll_nil))))))) (by kernel_rfl) (by kernel_rfl)
    (fun ρ' ds' w' hD => by
      obtain ⟨n3, e3, hD⟩ := dInt_elim hD; obtain ⟨n4, e4, hD⟩ := dInt_elim hD; obtain ⟨p7, e7, hD⟩ := dPtr_elim hD; obtain ⟨p10, e10, hD⟩ := dPtr_elim hD; obtain ⟨p11, e11, hD⟩ := dPtr_elim hD; obtain ⟨l13, e13, hD⟩ := dSl_elim hD; obtain ⟨n40, e40, hD⟩ := dInt_elim hD; exact F33_2_ok R J1 n3 n4 p7 p10 p11 l13 n40 ds' w' ρ' e3 e4 e7 e10 e11 e13 e40 hD) h
theorem F33_4_ok (R : Rt) (n3 : Int) (n4 : Int) (p7 : Option Addr) (p10 : Option Addr) (p11 : Option Addr) (l13 : SV) (n40 : Int) (ds : Ds) (w : World) (ρ : Env) (e3 : ρ 3 = .int .i64 n3) (e4 : ρ 4 = .int .i64 n4) (e7 : ρ 7 = .pointer p7) (e10 : ρ 10 = .pointer p10) (e11 : ρ 11 = .pointer p11) (e13 : ρ 13 = .slice l13.a l13.len l13.cap) (e40 : ρ 40 = .int .i64 n40) (h : F33_4 R n3 n4 p7 p10 p11 l13 n40 ds w) :
    TrL Try.prog Try.f33.ntmps [c33_6_0] (F33_q4 R) ρ ds w :=
  TrL_one (Tr_loop' (c := innerC c33_6_0) (σ := Int) (enc := (fun (s : Int) (ρ : Env) => ρ 40 = .int .i64 s)) (D := (fun ρ K => dInt .i64 (ρ 40) fun n40 => K n40)) (F := (fun (J1 : (Int) → World → Prop) (s : Int) (w : World) => F33_3 R J1 n3 n4 p7 p10 p11 l13 s ds w)) (s0 := n40) (by kernel_rfl) c33_6_0_l e40 (by kernel_rfl) (fun ρ K hD => by obtain ⟨n40, e40, hD⟩ := dInt_elim hD; exact ⟨n40, e40, hD⟩)
      (fun J1 s ρ' w' he ha hF => by
      have e40' := he
      exact F33_3_ok R J1 n3 n4 p7 p10 p11 l13 s ds w' ρ' ((ha 3 (by kernel_rfl)).trans e3) ((ha 4 (by kernel_rfl)).trans e4) ((ha 7 (by kernel_rfl)).trans e7) ((ha 10 (by kernel_rfl)).trans e10) ((ha 11 (by kernel_rfl)).trans e11) ((ha 13 (by kernel_rfl)).trans e13) e40' hF) h)
theorem F33_5_ok (R : Rt) (n3 : Int) (n4 : Int) (p7 : Option Addr) (p10 : Option Addr) (p11 : Option Addr) (l13 : SV) (n40 : Int) (ds : Ds) (w : World) (ρ : Env) (e3 : ρ 3 = .int .i64 n3) (e4 : ρ 4 = .int .i64 n4) (e7 : ρ 7 = .pointer p7) (e10 : ρ 10 = .pointer p10) (e11 : ρ 11 = .pointer p11) (e13 : ρ 13 = .slice l13.a l13.len l13.cap) (e40 : ρ 40 = .int .i64 n40) (h : F33_5 R n3 n4 p7 p10 p11 l13 n40 ds w) :
    TrL Try.prog Try.f33.ntmps [c33_6, c33_7, c33_8] (F33_q1 R) ρ ds w :=
  TrL_head (K := (F33_k2 R)) (Tr_block' (c := innerC c33_6) (by kernel_rfl) c33_6_l (F33_4_ok R n3 n4 p7 p10 p11 l13 n40 ds w ρ e3 e4 e7 e10 e11 e13 e40 h))
    (fun ρ' ds' w' hD => by
      obtain ⟨p10, e10, hD⟩ := dPtr_elim hD; obtain ⟨p11, e11, hD⟩ := dPtr_elim hD; exact F33_1_ok R p10 p11 ds' w' ρ' e10 e11 hD)
theorem F33_6_ok (R : Rt) (p0 : Option Addr) (n1 : Int) (s2_0 : ByteArray) (n2_1 : Int) (n3 : Int) (n4 : Int) (ds : Ds) (w : World) (ρ : Env) (e0 : ρ 0 = .pointer p0) (e1 : ρ 1 = .int .i64 n1) (e2 : ρ 2 = .agg #[.string s2_0, .int .i64 n2_1]) (e3 : ρ 3 = .int .i64 n3) (e4 : ρ 4 = .int .i64 n4) (h : F33_6 R p0 n1 s2_0 n2_1 n3 n4 ds w) :
    TrL Try.prog Try.f33.ntmps [c33_0, c33_1, c33_2, c33_3, c33_4, c33_5, c33_6, c33_7, c33_8] (F33_q1 R) ρ ds w :=
  TrL_piece (pre := [c33_0, c33_1, c33_2, c33_3, c33_4, c33_5]) (K := (F33_k7 R)) (X := F33_6 R p0 n1 s2_0 n2_1 n3 n4 ds w) (setAll_cons e0 (setAll_cons e1 (setAll_cons e2 (setAll_cons e3 (setAll_cons e4 setAll_nil))))) (by kernel_rfl) (by kernel_rfl)
    (fun ρ' ds' w' hD => by
      obtain ⟨n3, e3, hD⟩ := dInt_elim hD; obtain ⟨n4, e4, hD⟩ := dInt_elim hD; obtain ⟨p7, e7, hD⟩ := dPtr_elim hD; obtain ⟨p10, e10, hD⟩ := dPtr_elim hD; obtain ⟨p11, e11, hD⟩ := dPtr_elim hD; obtain ⟨l13, e13, hD⟩ := dSl_elim hD; obtain ⟨n40, e40, hD⟩ := dInt_elim hD; exact F33_5_ok R n3 n4 p7 p10 p11 l13 n40 ds' w' ρ' e3 e4 e7 e10 e11 e13 e40 hD) h
theorem F33_calls (p0 : Option Addr) (n1 : Int) (s2_0 : ByteArray) (n2_1 : Int) (n3 : Int) (n4 : Int) (w : World) (R : Rt) (h : F33_6 R p0 n1 s2_0 n2_1 n3 n4 [] w) : Calls Try.prog 33 #[.pointer p0, .int .i64 n1, .agg #[.string s2_0, .int .i64 n2_1], .int .i64 n3, .int .i64 n4] w R :=
  calls_of_L (l := [c33_0, c33_1, c33_2, c33_3, c33_4, c33_5, c33_6, c33_7, c33_8]) Try.func33 (by kernel_rfl) (by rw [Try.ntmps33]; exact Nat.le_of_ble_eq_true (by kernel_rfl)) c33_l
    (F33_6_ok R p0 n1 s2_0 n2_1 n3 n4 [] w _ rfl rfl rfl rfl rfl h)
theorem F33_callsD (p0 : Option Addr) (n1 : Int) (s2_0 : ByteArray) (n2_1 : Int) (n3 : Int) (n4 : Int) (w : World) (R : Rt) (u : FrameMode) (h : F33_6 R p0 n1 s2_0 n2_1 n3 n4 [] w) : CallsD Try.prog 33 #[.pointer p0, .int .i64 n1, .agg #[.string s2_0, .int .i64 n2_1], .int .i64 n3, .int .i64 n4] u w fun e u' w' => u' = u ∧ R e w' :=
  callsD_of_L (l := [c33_0, c33_1, c33_2, c33_3, c33_4, c33_5, c33_6, c33_7, c33_8]) Try.func33 (by kernel_rfl) (by rw [Try.ntmps33]; exact Nat.le_of_ble_eq_true (by kernel_rfl)) (by kernel_rfl) c33_l
    (F33_6_ok R p0 n1 s2_0 n2_1 n3 n4 [] w _ rfl rfl rfl rfl rfl h) u

/-! function 34: slices.IndexFunc[[]cabinetry/disk.lock,cabinetry/disk.lock] -/
noncomputable def c34_0 : Code := itemAt (flat (bodyOf Try.f34)) 0
noncomputable def c34_1 : Code := itemAt (flat (bodyOf Try.f34)) 1
noncomputable def c34_2 : Code := itemAt (flat (bodyOf Try.f34)) 2
noncomputable def c34_3 : Code := itemAt (flat (bodyOf Try.f34)) 3
noncomputable def c34_4 : Code := itemAt (flat (bodyOf Try.f34)) 4
noncomputable def c34_2_0 : Code := itemAt (flat (innerC c34_2)) 0
noncomputable def c34_2_0_0 : Code := itemAt (flat (innerC c34_2_0)) 0
noncomputable def c34_2_0_1 : Code := itemAt (flat (innerC c34_2_0)) 1
noncomputable def c34_2_0_2 : Code := itemAt (flat (innerC c34_2_0)) 2
noncomputable def c34_2_0_3 : Code := itemAt (flat (innerC c34_2_0)) 3
def F34_q1 (R : Rt) : EQ := endQ Try.prog Try.f34.results.toList R
def F34_1 (R : Rt) (ds : Ds) (w : World) : Prop :=
 runD Try.prog ds w fun w1 =>
 R (.returned (.int .i64 (-1))) w1
def F34_k2 (R : Rt) : EP := (fun ρ ds w => F34_1 R ds w)
def F34_q3 (R : Rt) : EQ := (thenQ (F34_k2 R) (F34_q1 R))
def F34_q4 (R : Rt) : EQ := (blockQ 0 (F34_q3 R))
def F34_q5 (R : Rt) (J1 : (Int) → World → Prop) : EQ := (thenQ (fun ρ _ w => dInt .i64 (ρ 8) fun n8 => J1 n8 w) (F34_q4 R))
def F34_2 (R : Rt) (J1 : (Int) → World → Prop) (l0 : SV) (v1 : Value) (n7 : Int) (n8 : Int) (ds : Ds) (w : World) : Prop :=
 Br (decide (n8 < n7)) (
 ∃ a2 : Addr, l0.a = some a2 ∧ 0 ≤ n8 ∧ n8 < ((l0.len : Nat) : Int) ∧
 ∃ n15_0 : Int, w.cell? ((a2.add (n8.toNat * 4)).add 0) = some (.int .i64 n15_0) ∧
 ∃ s15_1 : ByteArray, w.cell? ((a2.add (n8.toNat * 4)).add 1) = some (.string s15_1) ∧
 ∃ n15_2 : Int, w.cell? ((a2.add (n8.toNat * 4)).add 2) = some (.int .i64 n15_2) ∧
 ∃ n15_3 : Int, w.cell? ((a2.add (n8.toNat * 4)).add 3) = some (.int .i64 n15_3) ∧
 fnE v1 fun f16 first16 cap16 =>
 hasBody Try.prog f16 = true ∧ Calls Try.prog f16 (first16.toList ++ (([.agg #[.int .i64 n15_0, .string s15_1, .int .i64 n15_2, .int .i64 n15_3]] : List Value) ++ cap16.toList)).toArray w fun e w3 =>
 ∃ b16 : Bool, e = .returned (.bool b16) ∧
 Br b16 (
 runD Try.prog ds w3 fun w4 =>
 R (.returned (.int .i64 n8)) w4) (
 J1 (IntKind.i64.wrap (n8 + 1)) w3)) (
 F34_1 R ds w)
def F34_3 (R : Rt) (l0 : SV) (v1 : Value) (n7 : Int) (n8 : Int) (ds : Ds) (w : World) : Prop :=
 loopT (fun (J1 : (Int) → World → Prop) (s : Int) (w : World) => F34_2 R J1 l0 v1 n7 s ds w) n8 w
@[reducible] def F34_4 (R : Rt) (l0 : SV) (v1 : Value) (n7 : Int) (n8 : Int) (ds : Ds) (w : World) : Prop := F34_3 R l0 v1 n7 n8 ds w
def F34_k6 (R : Rt) : EP := (fun ρ ds w => dSl (ρ 0) fun l0 => dInt .i64 (ρ 7) fun n7 => dInt .i64 (ρ 8) fun n8 => F34_4 R l0 (ρ 1) n7 n8 ds w)
def F34_5 (R : Rt) (l0 : SV) (v1 : Value) (ds : Ds) (w : World) : Prop :=
 F34_4 R l0 (v1) ((l0.len : Nat) : Int) 0 ds w
theorem c34_l : flat (bodyOf Try.f34) = [c34_0, c34_1, c34_2, c34_3, c34_4] := by kernel_rfl
theorem c34_2_l : flat (innerC c34_2) = [c34_2_0] := by kernel_rfl
theorem c34_2_0_l : flat (innerC c34_2_0) = [c34_2_0_0, c34_2_0_1, c34_2_0_2, c34_2_0_3] := by kernel_rfl
theorem F34_1_ok (R : Rt) (ds : Ds) (w : World) (ρ : Env) (h : F34_1 R ds w) :
    TrL Try.prog Try.f34.ntmps [c34_3, c34_4] (F34_q1 R) ρ ds w :=
  TrL_leaf (X := F34_1 R ds w) setAll_nil (by kernel_rfl) (by kernel_rfl) h
theorem F34_2_ok (R : Rt) (J1 : (Int) → World → Prop) (l0 : SV) (v1 : Value) (n7 : Int) (n8 : Int) (ds : Ds) (w : World) (ρ : Env) (e0 : ρ 0 = .slice l0.a l0.len l0.cap) (e1 : ρ 1 = v1) (e7 : ρ 7 = .int .i64 n7) (e8 : ρ 8 = .int .i64 n8) (h : F34_2 R J1 l0 v1 n7 n8 ds w) :
    TrL Try.prog Try.f34.ntmps [c34_2_0_0, c34_2_0_1, c34_2_0_2, c34_2_0_3] (F34_q5 R J1) ρ ds w :=
  TrL_leaf (X := F34_2 R J1 l0 v1 n7 n8 ds w) (setAll_cons e0 (setAll_cons e1 (setAll_cons e7 (setAll_cons e8 setAll_nil)))) (by kernel_rfl) (by kernel_rfl) h
theorem F34_3_ok (R : Rt) (l0 : SV) (v1 : Value) (n7 : Int) (n8 : Int) (ds : Ds) (w : World) (ρ : Env) (e0 : ρ 0 = .slice l0.a l0.len l0.cap) (e1 : ρ 1 = v1) (e7 : ρ 7 = .int .i64 n7) (e8 : ρ 8 = .int .i64 n8) (h : F34_3 R l0 v1 n7 n8 ds w) :
    TrL Try.prog Try.f34.ntmps [c34_2_0] (F34_q4 R) ρ ds w :=
  TrL_one (Tr_loop' (c := innerC c34_2_0) (σ := Int) (enc := (fun (s : Int) (ρ : Env) => ρ 8 = .int .i64 s)) (D := (fun ρ K => dInt .i64 (ρ 8) fun n8 => K n8)) (F := (fun (J1 : (Int) → World → Prop) (s : Int) (w : World) => F34_2 R J1 l0 v1 n7 s ds w)) (s0 := n8) (by kernel_rfl) c34_2_0_l e8 (by kernel_rfl) (fun ρ K hD => by obtain ⟨n8, e8, hD⟩ := dInt_elim hD; exact ⟨n8, e8, hD⟩)
      (fun J1 s ρ' w' he ha hF => by
      have e8' := he
      exact F34_2_ok R J1 l0 v1 n7 s ds w' ρ' ((ha 0 (by kernel_rfl)).trans e0) ((ha 1 (by kernel_rfl)).trans e1) ((ha 7 (by kernel_rfl)).trans e7) e8' hF) h)
theorem F34_4_ok (R : Rt) (l0 : SV) (v1 : Value) (n7 : Int) (n8 : Int) (ds : Ds) (w : World) (ρ : Env) (e0 : ρ 0 = .slice l0.a l0.len l0.cap) (e1 : ρ 1 = v1) (e7 : ρ 7 = .int .i64 n7) (e8 : ρ 8 = .int .i64 n8) (h : F34_4 R l0 v1 n7 n8 ds w) :
    TrL Try.prog Try.f34.ntmps [c34_2, c34_3, c34_4] (F34_q1 R) ρ ds w :=
  TrL_head (K := (F34_k2 R)) (Tr_block' (c := innerC c34_2) (by kernel_rfl) c34_2_l (F34_3_ok R l0 v1 n7 n8 ds w ρ e0 e1 e7 e8 h))
    (fun ρ' ds' w' hD => by
      exact F34_1_ok R ds' w' ρ'  hD)
theorem F34_5_ok (R : Rt) (l0 : SV) (v1 : Value) (ds : Ds) (w : World) (ρ : Env) (e0 : ρ 0 = .slice l0.a l0.len l0.cap) (e1 : ρ 1 = v1) (h : F34_5 R l0 v1 ds w) :
    TrL Try.prog Try.f34.ntmps [c34_0, c34_1, c34_2, c34_3, c34_4] (F34_q1 R) ρ ds w :=
  TrL_piece (pre := [c34_0, c34_1]) (K := (F34_k6 R)) (X := F34_5 R l0 v1 ds w) (setAll_cons e0 (setAll_cons e1 setAll_nil)) (by kernel_rfl) (by kernel_rfl)
    (fun ρ' ds' w' hD => by
      obtain ⟨l0, e0, hD⟩ := dSl_elim hD; obtain ⟨n7, e7, hD⟩ := dInt_elim hD; obtain ⟨n8, e8, hD⟩ := dInt_elim hD; exact F34_4_ok R l0 (ρ' 1) n7 n8 ds' w' ρ' e0 rfl e7 e8 hD) h
theorem F34_calls (l0 : SV) (v1 : Value) (w : World) (R : Rt) (h : F34_5 R l0 v1 [] w) : Calls Try.prog 34 #[.slice l0.a l0.len l0.cap, v1] w R :=
  calls_of_L (l := [c34_0, c34_1, c34_2, c34_3, c34_4]) Try.func34 (by kernel_rfl) (by rw [Try.ntmps34]; exact Nat.le_of_ble_eq_true (by kernel_rfl)) c34_l
    (F34_5_ok R l0 v1 [] w _ rfl rfl h)
theorem F34_callsD (l0 : SV) (v1 : Value) (w : World) (R : Rt) (u : FrameMode) (h : F34_5 R l0 v1 [] w) : CallsD Try.prog 34 #[.slice l0.a l0.len l0.cap, v1] u w fun e u' w' => u' = u ∧ R e w' :=
  callsD_of_L (l := [c34_0, c34_1, c34_2, c34_3, c34_4]) Try.func34 (by kernel_rfl) (by rw [Try.ntmps34]; exact Nat.le_of_ble_eq_true (by kernel_rfl)) (by kernel_rfl) c34_l
    (F34_5_ok R l0 v1 [] w _ rfl rfl h) u

/-! function 35: (*internal/sync.Mutex).Lock -/
noncomputable def c35_0 : Code := itemAt (flat (bodyOf Try.f35)) 0
noncomputable def c35_1 : Code := itemAt (flat (bodyOf Try.f35)) 1
noncomputable def c35_2 : Code := itemAt (flat (bodyOf Try.f35)) 2
noncomputable def c35_3 : Code := itemAt (flat (bodyOf Try.f35)) 3
def F35_q1 (R : Rt) : EQ := endQ Try.prog Try.f35.results.toList R
def F35_1 (R : Rt) (p0 : Option Addr) (ds : Ds) (w : World) : Prop :=
 ∃ w1 : World, (callFunc 38 #[]).run Try.prog w = .ok (.value (.tuple #[])) w1 ∧
 ptrE p0 fun a2 =>
 ∃ b6 : Bool, ∃ w3 : World, (callFunc 39 #[.pointer (some a2), .int .i32 0, .int .i32 1]).run Try.prog w1 = .ok (.value (.bool b6)) w3 ∧
 Br b6 (
 ∃ w4 : World, (callFunc 40 #[]).run Try.prog w3 = .ok (.value (.tuple #[])) w4 ∧
 ∃ v9 : Value, ∃ w5 : World, (convert 83 87 (.pointer p0)).run Try.prog w4 = .ok (v9) w5 ∧
 ∃ w6 : World, (callFunc 41 #[v9]).run Try.prog w5 = .ok (.value (.tuple #[])) w6 ∧
 runD Try.prog ds w6 fun w7 =>
 R (.returned (.tuple #[])) w7) (
 Calls Try.prog 42 #[.pointer p0] w3 fun e w8 =>
 e = .returned (.tuple #[]) ∧
 runD Try.prog ds w8 fun w9 =>
 R (.returned (.tuple #[])) w9)
theorem c35_l : flat (bodyOf Try.f35) = [c35_0, c35_1, c35_2, c35_3] := by kernel_rfl
theorem F35_1_ok (R : Rt) (p0 : Option Addr) (ds : Ds) (w : World) (ρ : Env) (e0 : ρ 0 = .pointer p0) (h : F35_1 R p0 ds w) :
    TrL Try.prog Try.f35.ntmps [c35_0, c35_1, c35_2, c35_3] (F35_q1 R) ρ ds w :=
  TrL_leaf (X := F35_1 R p0 ds w) (setAll_cons e0 setAll_nil) (by kernel_rfl) (by kernel_rfl) h
theorem F35_calls (p0 : Option Addr) (w : World) (R : Rt) (h : F35_1 R p0 [] w) : Calls Try.prog 35 #[.pointer p0] w R :=
  calls_of_L (l := [c35_0, c35_1, c35_2, c35_3]) Try.func35 (by kernel_rfl) (by rw [Try.ntmps35]; exact Nat.le_of_ble_eq_true (by kernel_rfl)) c35_l
    (F35_1_ok R p0 [] w _ rfl h)
theorem F35_callsD (p0 : Option Addr) (w : World) (R : Rt) (u : FrameMode) (h : F35_1 R p0 [] w) : CallsD Try.prog 35 #[.pointer p0] u w fun e u' w' => u' = u ∧ R e w' :=
  callsD_of_L (l := [c35_0, c35_1, c35_2, c35_3]) Try.func35 (by kernel_rfl) (by rw [Try.ntmps35]; exact Nat.le_of_ble_eq_true (by kernel_rfl)) (by kernel_rfl) c35_l
    (F35_1_ok R p0 [] w _ rfl h) u

/-! function 36: (*internal/sync.Mutex).Unlock -/
noncomputable def c36_0 : Code := itemAt (flat (bodyOf Try.f36)) 0
noncomputable def c36_1 : Code := itemAt (flat (bodyOf Try.f36)) 1
noncomputable def c36_2 : Code := itemAt (flat (bodyOf Try.f36)) 2
noncomputable def c36_3 : Code := itemAt (flat (bodyOf Try.f36)) 3
noncomputable def c36_4 : Code := itemAt (flat (bodyOf Try.f36)) 4
def F36_q1 (R : Rt) : EQ := endQ Try.prog Try.f36.results.toList R
def F36_1 (R : Rt) (p0 : Option Addr) (ds : Ds) (w : World) : Prop :=
 ptrE p0 fun a1 =>
 ∃ n6 : Int, w.cell? a1 = some (.int .i32 n6) ∧
 ∃ v8 : Value, ∃ w2 : World, (convert 83 87 (.pointer p0)).run Try.prog w = .ok (v8) w2 ∧
 ∃ w3 : World, (callFunc 43 #[v8]).run Try.prog w2 = .ok (.value (.tuple #[])) w3 ∧
 ∃ w4 : World, (callFunc 38 #[]).run Try.prog w3 = .ok (.value (.tuple #[])) w4 ∧
 ptrE p0 fun a5 =>
 ∃ n14 : Int, ∃ w6 : World, (callFunc 44 #[.pointer (some a5), .int .i32 (-1)]).run Try.prog w4 = .ok (.value (.int .i32 n14)) w6 ∧
 Br (n14 != 0) (
 Calls Try.prog 45 #[.pointer p0, .int .i32 n14] w6 fun e w7 =>
 e = .returned (.tuple #[]) ∧
 ∃ w8 : World, (callFunc 40 #[]).run Try.prog w7 = .ok (.value (.tuple #[])) w8 ∧
 runD Try.prog ds w8 fun w9 =>
 R (.returned (.tuple #[])) w9) (
 ∃ w10 : World, (callFunc 40 #[]).run Try.prog w6 = .ok (.value (.tuple #[])) w10 ∧
 runD Try.prog ds w10 fun w11 =>
 R (.returned (.tuple #[])) w11)
theorem c36_l : flat (bodyOf Try.f36) = [c36_0, c36_1, c36_2, c36_3, c36_4] := by kernel_rfl
theorem F36_1_ok (R : Rt) (p0 : Option Addr) (ds : Ds) (w : World) (ρ : Env) (e0 : ρ 0 = .pointer p0) (h : F36_1 R p0 ds w) :
    TrL Try.prog Try.f36.ntmps [c36_0, c36_1, c36_2, c36_3, c36_4] (F36_q1 R) ρ ds w :=
  TrL_leaf (X := F36_1 R p0 ds w) (setAll_cons e0 setAll_nil) (by kernel_rfl) (by kernel_rfl) h
theorem F36_calls (p0 : Option Addr) (w : World) (R : Rt) (h : F36_1 R p0 [] w) : Calls Try.prog 36 #[.pointer p0] w R :=
  calls_of_L (l := [c36_0, c36_1, c36_2, c36_3, c36_4]) Try.func36 (by kernel_rfl) (by rw [Try.ntmps36]; exact Nat.le_of_ble_eq_true (by kernel_rfl)) c36_l
    (F36_1_ok R p0 [] w _ rfl h)
theorem F36_callsD (p0 : Option Addr) (w : World) (R : Rt) (u : FrameMode) (h : F36_1 R p0 [] w) : CallsD Try.prog 36 #[.pointer p0] u w fun e u' w' => u' = u ∧ R e w' :=
  callsD_of_L (l := [c36_0, c36_1, c36_2, c36_3, c36_4]) Try.func36 (by kernel_rfl) (by rw [Try.ntmps36]; exact Nat.le_of_ble_eq_true (by kernel_rfl)) (by kernel_rfl) c36_l
    (F36_1_ok R p0 [] w _ rfl h) u

/-! function 37: (*cabinetry/disk.System).fetched -/
noncomputable def c37_0 : Code := itemAt (flat (bodyOf Try.f37)) 0
noncomputable def c37_1 : Code := itemAt (flat (bodyOf Try.f37)) 1
noncomputable def c37_2 : Code := itemAt (flat (bodyOf Try.f37)) 2
noncomputable def c37_3 : Code := itemAt (flat (bodyOf Try.f37)) 3
noncomputable def c37_4 : Code := itemAt (flat (bodyOf Try.f37)) 4
noncomputable def c37_5 : Code := itemAt (flat (bodyOf Try.f37)) 5
noncomputable def c37_6 : Code := itemAt (flat (bodyOf Try.f37)) 6
noncomputable def c37_4_0 : Code := itemAt (flat (innerC c37_4)) 0
noncomputable def c37_4_0_0 : Code := itemAt (flat (innerC c37_4_0)) 0
noncomputable def c37_4_0_1 : Code := itemAt (flat (innerC c37_4_0)) 1
noncomputable def c37_4_0_2 : Code := itemAt (flat (innerC c37_4_0)) 2
noncomputable def c37_4_0_3 : Code := itemAt (flat (innerC c37_4_0)) 3
def F37_q1 (R : Rt) : EQ := endQ Try.prog Try.f37.results.toList R
def F37_1 (R : Rt) (p6 : Option Addr) (p7 : Option Addr) (ds : Ds) (w : World) : Prop :=
 ptrE p7 fun a1 =>
 ∃ c58 : Array Value, c58.size = 96 ∧ (∀ i, i < 96 → w.cell? (a1.add i) = c58[i]?) ∧
 ptrE p6 fun a2 =>
 stA Try.prog 61 a2 c58 w fun w3 =>
 runD Try.prog ds w3 fun w4 =>
 ptrE p6 fun a5 =>
 ∃ cR0 : Array Value, cR0.size = 96 ∧ (∀ i, i < 96 → w4.cell? (a5.add i) = cR0[i]?) ∧
 R (.returned (.agg cR0)) w4
def F37_k2 (R : Rt) : EP := (fun ρ ds w => dPtr (ρ 6) fun p6 => dPtr (ρ 7) fun p7 => F37_1 R p6 p7 ds w)
def F37_q3 (R : Rt) : EQ := (thenQ (F37_k2 R) (F37_q1 R))
def F37_q4 (R : Rt) : EQ := (blockQ 0 (F37_q3 R))
def F37_q5 (R : Rt) (J1 : (Int) → World → Prop) : EQ := (thenQ (fun ρ _ w => dInt .i64 (ρ 9) fun n9 => J1 n9 w) (F37_q4 R))
def F37_2 (R : Rt) (J1 : (Int) → World → Prop) (p5 : Option Addr) (p6 : Option Addr) (p7 : Option Addr) (l8 : SV) (n9 : Int) (ds : Ds) (w : World) : Prop :=
 Br (decide (n9 < 32)) (
 ptrE p5 fun a6 =>
 ∃ n29 : Int, w.cell? (a6.add 1) = some (.int .i64 n29) ∧
 Br (decide ((IntKind.i64.wrap ((IntKind.i64.wrap (n29 * 32)) + n9)) < ((l8.len : Nat) : Int))) (
 ptrE p7 fun a7 =>
 0 ≤ n9 ∧ n9 < ((32 : Nat) : Int) ∧
 ∃ b42 : Bool, w.cell? ((a7.add 32).add (n9.toNat * 1)) = some (.bool b42) ∧
 Br (!b42) (
 dwE w fun w8 =>
 ∃ S1 : World → Prop, S1 w8 ∧
 ptrE p5 fun a9 =>
 ∃ n48 : Int, (∀ w', S1 w' → w'.cell? (a9.add 1) = some (.int .i64 n48)) ∧
 ∃ a10 : Addr, l8.a = some a10 ∧ 0 ≤ (IntKind.i64.wrap ((IntKind.i64.wrap (n48 * 32)) + n9)) ∧ (IntKind.i64.wrap ((IntKind.i64.wrap (n48 * 32)) + n9)) < ((l8.len : Nat) : Int) ∧
 ∃ n53 : Int, (∀ w', S1 w' → w'.cell? (a10.add ((IntKind.i64.wrap ((IntKind.i64.wrap (n48 * 32)) + n9)).toNat * 1)) = some (.int .u8 n53)) ∧
 ptrE p7 fun a11 =>
 0 ≤ n9 ∧ n9 < ((32 : Nat) : Int) ∧
 ptrE p7 fun a12 =>
 st1 ((a11.add 32).add (n9.toNat * 1)) (.bool true) w8 fun w13 =>
 S1 w13 ∧
 0 ≤ n9 ∧ n9 < ((32 : Nat) : Int) ∧
 st1 (a12.add (n9.toNat * 1)) (.int .u8 n53) w13 fun w14 =>
 J1 (IntKind.i64.wrap (n9 + 1)) w14) (
 J1 (IntKind.i64.wrap (n9 + 1)) w)) (
 F37_1 R p6 p7 ds w)) (
 F37_1 R p6 p7 ds w)
def F37_3 (R : Rt) (p5 : Option Addr) (p6 : Option Addr) (p7 : Option Addr) (l8 : SV) (n9 : Int) (ds : Ds) (w : World) : Prop :=
 loopT (fun (J1 : (Int) → World → Prop) (s : Int) (w : World) => F37_2 R J1 p5 p6 p7 l8 s ds w) n9 w
@[reducible] def F37_4 (R : Rt) (p5 : Option Addr) (p6 : Option Addr) (p7 : Option Addr) (l8 : SV) (n9 : Int) (ds : Ds) (w : World) : Prop := F37_3 R p5 p6 p7 l8 n9 ds w
def F37_k6 (R : Rt) : EP := (fun ρ ds w => dPtr (ρ 5) fun p5 => dPtr (ρ 6) fun p6 => dPtr (ρ 7) fun p7 => dSl (ρ 8) fun l8 => dInt .i64 (ρ 9) fun n9 => F37_4 R p5 p6 p7 l8 n9 ds w)
def F37_5 (R : Rt) (p0 : Option Addr) (n1 : Int) (s2_0 : ByteArray) (n2_1 : Int) (ds : Ds) (w : World) : Prop :=
 alE (.cells #[.string s2_0, .int .i64 n2_1] 66) w fun r5 w15 =>
 alE (.cells (zc Try.prog 61) 61) w15 fun r6 w16 =>
 dwE w16 fun w17 =>
 ∃ S2 : World → Prop, S2 w17 ∧
 ptrE p0 fun a18 =>
 0 ≤ n1 ∧ n1 < ((4 : Nat) : Int) ∧
 ∃ m15 : Option Nat, (∀ w', S2 w' → w'.cell? ((a18.add 3).add (n1.toNat * 1)) = some (.map m15)) ∧
 ∃ s16_0 : ByteArray, (∀ w', S2 w' → w'.cell? ((⟨r5, 0, none⟩ : Addr).add 0) = some (.string s16_0)) ∧
 ∃ n16_1 : Int, (∀ w', S2 w' → w'.cell? ((⟨r5, 0, none⟩ : Addr).add 1) = some (.int .i64 n16_1)) ∧
 ∃ c17 : Array Value, c17.size = 96 ∧ (∀ w', S2 w' → (Instr.lookup 48 (.map m15) (.agg #[.string s16_0, .int .i64 n16_1]) false).run Try.prog w' = .ok (.agg c17) w') ∧
 alE (.cells (zc Try.prog 61) 61) w17 fun r7 w19 =>
 S2 w19 ∧
 stA Try.prog 61 (⟨r7, 0, none⟩ : Addr) c17 w19 fun w20 =>
 dwE w20 fun w21 =>
 ptrE p0 fun a22 =>
 ∃ m21 : Option Nat, w21.cell? (a22.add 2) = some (.map m21) ∧
 ∃ s23 : ByteArray, w21.cell? (⟨r5, 0, none⟩ : Addr) = some (.string s23) ∧
 ∃ l24 : SV, (Instr.lookup 40 (.map m21) (.string s23) false).run Try.prog w21 = .ok (.slice l24.a l24.len l24.cap) w21 ∧
 F37_4 R (some (⟨r5, 0, none⟩ : Addr)) (some (⟨r6, 0, none⟩ : Addr)) (some (⟨r7, 0, none⟩ : Addr)) l24 0 ds w21
theorem c37_l : flat (bodyOf Try.f37) = [c37_0, c37_1, c37_2, c37_3, c37_4, c37_5, c37_6] := by kernel_rfl
theorem c37_4_l : flat (innerC c37_4) = [c37_4_0] := by kernel_rfl
theorem c37_4_0_l : flat (innerC c37_4_0) = [c37_4_0_0, c37_4_0_1, c37_4_0_2, c37_4_0_3] := by kernel_rfl
theorem F37_1_ok (R : Rt) (p6 : Option Addr) (p7 : Option Addr) (ds : Ds) (w : World) (ρ : Env) (e6 : ρ 6 = .pointer p6) (e7 : ρ 7 = .pointer p7) (h : F37_1 R p6 p7 ds w) :
    TrL Try.prog Try.f37.ntmps [c37_5, c37_6] (F37_q1 R) ρ ds w :=
  TrL_leaf (X := F37_1 R p6 p7 ds w) (setAll_cons e6 (setAll_cons e7 setAll_nil)) (by kernel_rfl) (by kernel_rfl) h
theorem F37_2_ok (R : Rt) (J1 : (Int) → World → Prop) (p5 : Option Addr) (p6 : Option Addr) (p7 : Option Addr) (l8 : SV) (n9 : Int) (ds : Ds) (w : World) (ρ : Env) (e5 : ρ 5 = .pointer p5) (e6 : ρ 6 = .pointer p6) (e7 : ρ 7 = .pointer p7) (e8 : ρ 8 = .slice l8.a l8.len l8.cap) (e9 : ρ 9 = .int .i64 n9) (h : F37_2 R J1 p5 p6 p7 l8 n9 ds w) :
    TrL Try.prog Try.f37.ntmps [c37_4_0_0, c37_4_0_1, c37_4_0_2, c37_4_0_3] (F37_q5 R J1) ρ ds w :=
  TrL_leaf (X := F37_2 R J1 p5 p6 p7 l8 n9 ds w) (setAll_cons e5 (setAll_cons e6 (setAll_cons e7 (setAll_cons e8 (setAll_cons e9 setAll_nil))))) (by kernel_rfl) (by kernel_rfl) h
theorem F37_3_ok (R : Rt) (p5 : Option Addr) (p6 : Option Addr) (p7 : Option Addr) (l8 : SV) (n9 : Int) (ds : Ds) (w : World) (ρ : Env) (e5 : ρ 5 = .pointer p5) (e6 : ρ 6 = .pointer p6) (e7 : ρ 7 = .pointer p7) (e8 : ρ 8 = .slice l8.a l8.len l8.cap) (e9 : ρ 9 = .int .i64 n9) (h : F37_3 R p5 p6 p7 l8 n9 ds w) :
    TrL Try.prog Try.f37.ntmps [c37_4_0] (F37_q4 R) ρ ds w :=
  TrL_one (Tr_loop' (c := innerC c37_4_0) (σ := Int) (enc := (fun (s : Int) (ρ : Env) => ρ 9 = .int .i64 s)) (D := (fun ρ K => dInt .i64 (ρ 9) fun n9 => K n9)) (F := (fun (J1 : (Int) → World → Prop) (s : Int) (w : World) => F37_2 R J1 p5 p6 p7 l8 s ds w)) (s0 := n9) (by kernel_rfl) c37_4_0_l e9 (by kernel_rfl) (fun ρ K hD => by obtain ⟨n9, e9, hD⟩ := dInt_elim hD; exact ⟨n9, e9, hD⟩)
      (fun J1 s ρ' w' he ha hF => by
      have e9' := he
      exact F37_2_ok R J1 p5 p6 p7 l8 s ds w' ρ' ((ha 5 (by kernel_rfl)).trans e5) ((ha 6 (by kernel_rfl)).trans e6) ((ha 7 (by kernel_rfl)).trans e7) ((ha 8 (by kernel_rfl)).trans e8) e9' hF) h)
theorem F37_4_ok (R : Rt) (p5 : Option Addr) (p6 : Option Addr) (p7 : Option Addr) (l8 : SV) (n9 : Int) (ds : Ds) (w : World) (ρ : Env) (e5 : ρ 5 = .pointer p5) (e6 : ρ 6 = .pointer p6) (e7 : ρ 7 = .pointer p7) (e8 : ρ 8 = .slice l8.a l8.len l8.cap) (e9 : ρ 9 = .int .i64 n9) (h : F37_4 R p5 p6 p7 l8 n9 ds w) :
    TrL Try.prog Try.f37.ntmps [c37_4, c37_5, c37_6] (F37_q1 R) ρ ds w :=
  TrL_head (K := (F37_k2 R)) (Tr_block' (c := innerC c37_4) (by kernel_rfl) c37_4_l (F37_3_ok R p5 p6 p7 l8 n9 ds w ρ e5 e6 e7 e8 e9 h))
    (fun ρ' ds' w' hD => by
      obtain ⟨p6, e6, hD⟩ := dPtr_elim hD; obtain ⟨p7, e7, hD⟩ := dPtr_elim hD; exact F37_1_ok R p6 p7 ds' w' ρ' e6 e7 hD)
theorem F37_5_ok (R : Rt) (p0 : Option Addr) (n1 : Int) (s2_0 : ByteArray) (n2_1 : Int) (ds : Ds) (w : World) (ρ : Env) (e0 : ρ 0 = .pointer p0) (e1 : ρ 1 = .int .i64 n1) (e2 : ρ 2 = .agg #[.string s2_0, .int .i64 n2_1]) (h : F37_5 R p0 n1 s2_0 n2_1 ds w) :
    TrL Try.prog Try.f37.ntmps [c37_0, c37_1, c37_2, c37_3, c37_4, c37_5, c37_6] (F37_q1 R) ρ ds w :=
  TrL_piece (pre := [c37_0, c37_1, c37_2, c37_3]) (K := (F37_k6 R)) (X := F37_5 R p0 n1 s2_0 n2_1 ds w) (setAll_cons e0 (setAll_cons e1 (setAll_cons e2 setAll_nil))) (by kernel_rfl) (by kernel_rfl)
    (fun ρ' ds' w' hD => by
      obtain ⟨p5, e5, hD⟩ := dPtr_elim hD; obtain ⟨p6, e6, hD⟩ := dPtr_elim hD; obtain ⟨p7, e7, hD⟩ := dPtr_elim hD; obtain ⟨l8, e8, hD⟩ := dSl_elim hD; obtain ⟨n9, e9, hD⟩ := dInt_elim hD; exact F37_4_ok R p5 p6 p7 l8 n9 ds' w' ρ' e5 e6 e7 e8 e9 hD) h
theorem F37_calls (p0 : Option Addr) (n1 : Int) (s2_0 : ByteArray) (n2_1 : Int) (w : World) (R : Rt) (h : F37_5 R p0 n1 s2_0 n2_1 [] w) : Calls Try.prog 37 #[.pointer p0, .int .i64 n1, .agg #[.string s2_0, .int .i64 n2_1]] w R :=
  calls_of_L (l := [c37_0, c37_1, c37_2, c37_3, c37_4, c37_5, c37_6]) Try.func37 (by kernel_rfl) (by rw [Try.ntmps37]; exact Nat.le_of_ble_eq_true (by kernel_rfl)) c37_l
    (F37_5_ok R p0 n1 s2_0 n2_1 [] w _ rfl rfl rfl h)
theorem F37_callsD (p0 : Option Addr) (n1 : Int) (s2_0 : ByteArray) (n2_1 : Int) (w : World) (R : Rt) (u : FrameMode) (h : F37_5 R p0 n1 s2_0 n2_1 [] w) : CallsD Try.prog 37 #[.pointer p0, .int .i64 n1, .agg #[.string s2_0, .int .i64 n2_1]] u w fun e u' w' => u' = u ∧ R e w' :=
  callsD_of_L (l := [c37_0, c37_1, c37_2, c37_3, c37_4, c37_5, c37_6]) Try.func37 (by kernel_rfl) (by rw [Try.ntmps37]; exact Nat.le_of_ble_eq_true (by kernel_rfl)) (by kernel_rfl) c37_l
    (F37_5_ok R p0 n1 s2_0 n2_1 [] w _ rfl rfl rfl h) u

end Go.Proofs.Ytnigfiljenfgjaa
