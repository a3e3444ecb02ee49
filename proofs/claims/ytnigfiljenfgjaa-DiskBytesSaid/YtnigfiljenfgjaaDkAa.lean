/- Shallow texts of functions, printed by program, each checked by the kernel against the loaded code. No condition. -/
import Derived.Test.YtnigfiljenfgjaaProg
import Derived.Test.YtnigfiljenfgjaaShEight
set_option maxRecDepth 100000
set_option linter.unusedVariables false
namespace Go.Proofs.Ytnigfiljenfgjaa
open Go.Sh
/-! function 3: cabinetry/cabinetrylaw19.DiskBytes -/
noncomputable def c3_0 : Code := itemAt (flat (bodyOf Try.f3)) 0
noncomputable def c3_1 : Code := itemAt (flat (bodyOf Try.f3)) 1
noncomputable def c3_2 : Code := itemAt (flat (bodyOf Try.f3)) 2
noncomputable def c3_3 : Code := itemAt (flat (bodyOf Try.f3)) 3
noncomputable def c3_4 : Code := itemAt (flat (bodyOf Try.f3)) 4
noncomputable def c3_5 : Code := itemAt (flat (bodyOf Try.f3)) 5
noncomputable def c3_6 : Code := itemAt (flat (bodyOf Try.f3)) 6
noncomputable def c3_7 : Code := itemAt (flat (bodyOf Try.f3)) 7
noncomputable def c3_8 : Code := itemAt (flat (bodyOf Try.f3)) 8
noncomputable def c3_9 : Code := itemAt (flat (bodyOf Try.f3)) 9
noncomputable def c3_10 : Code := itemAt (flat (bodyOf Try.f3)) 10
noncomputable def c3_11 : Code := itemAt (flat (bodyOf Try.f3)) 11
noncomputable def c3_12 : Code := itemAt (flat (bodyOf Try.f3)) 12
noncomputable def c3_13 : Code := itemAt (flat (bodyOf Try.f3)) 13
def F3_q1 (R : Rt) : EQ := endQ Try.prog Try.f3.results.toList R
def F3_1 (R : Rt) (b6 : Bool) (ds : Ds) (w : World) : Prop :=
 runD Try.prog ds w fun w1 =>
 R (.returned (.bool b6)) w1
def F3_k2 (R : Rt) : EP := (fun ρ ds w => dBl (ρ 6) fun b6 => F3_1 R b6 ds w)
def F3_2 (R : Rt) (n0 : Int) (n1 : Int) (p5 : Option Addr) (n8 : Int) (n9 : Int) (n10 : Int) (n11 : Int) (l12 : SV) (n13 : Int) (ds : Ds) (w : World) : Prop :=
 dwE w fun w2 =>
 Br (n8 == 1) (
 Br (n10 == 1) (
 Br (n9 == 0) (
 Br (n11 == 0) (
 Br (n13 == 0) (
 Br (((l12.len : Nat) : Int) == 64) (
 ∃ a3 : Addr, l12.a = some a3 ∧ 0 ≤ n0 ∧ n0 < ((l12.len : Nat) : Int) ∧
 ∃ n95 : Int, w2.cell? (a3.add (n0.toNat * 1)) = some (.int .u8 n95) ∧
 ptrE p5 fun a4 =>
 0 ≤ (0 : Int) ∧ (0 : Int) < ((2 : Nat) : Int) ∧
 ∃ n97 : Int, w2.cell? (a4.add ((0 : Int).toNat * 1)) = some (.int .u8 n97) ∧
 Br (n95 == n97) (
 ∃ a5 : Addr, l12.a = some a5 ∧ 0 ≤ n1 ∧ n1 < ((l12.len : Nat) : Int) ∧
 ∃ n104 : Int, w2.cell? (a5.add (n1.toNat * 1)) = some (.int .u8 n104) ∧
 ptrE p5 fun a6 =>
 0 ≤ (1 : Int) ∧ (1 : Int) < ((2 : Nat) : Int) ∧
 ∃ n106 : Int, w2.cell? (a6.add ((1 : Int).toNat * 1)) = some (.int .u8 n106) ∧
 Br (n104 == n106) (
 Calls Try.prog 11 #[] w2 fun e w7 =>
 ∃ b110 : Bool, e = .returned (.bool b110) ∧
 F3_1 R b110 ds w7) (
 F3_1 R false ds w2)) (
 F3_1 R false ds w2)) (
 F3_1 R false ds w2)) (
 F3_1 R false ds w2)) (
 F3_1 R false ds w2)) (
 F3_1 R false ds w2)) (
 F3_1 R false ds w2)) (
 F3_1 R false ds w2)
def F3_k3 (R : Rt) : EP := (fun ρ ds w => dInt .i64 (ρ 0) fun n0 => dInt .i64 (ρ 1) fun n1 => dPtr (ρ 5) fun p5 => dInt .i64 (ρ 8) fun n8 => dInt .i64 (ρ 9) fun n9 => dInt .i64 (ρ 10) fun n10 => dInt .i64 (ρ 11) fun n11 => dSl (ρ 12) fun l12 => dInt .i64 (ρ 13) fun n13 => F3_2 R n0 n1 p5 n8 n9 n10 n11 l12 n13 ds w)
def F3_3 (R : Rt) (n0 : Int) (n1 : Int) (p5 : Option Addr) (p7 : Option Addr) (ds : Ds) (w : World) : Prop :=
 ptrE p5 fun a8 =>
 0 ≤ (1 : Int) ∧ (1 : Int).toNat ≤ 2 ∧ 0 ≤ (1 : Int).toNat ∧
 Calls Try.prog 8 #[.pointer p7, .int .i64 0, .string (⟨#[70]⟩ : ByteArray), .int .i64 n0, .slice (some (if 2 = 0 then a8 else a8.add (0 * 1))) ((1 : Int).toNat - 0) (2 - 0)] w fun e w9 =>
 ∃ n44 : Int, e = .returned (.int .i64 n44) ∧
 Br (n44 != 0) (
 runD Try.prog ds w9 fun w10 =>
 R (.returned (.bool false)) w10) (
 ptrE p5 fun a11 =>
 2 ≤ 2 ∧ 0 ≤ (1 : Int) ∧ (1 : Int).toNat ≤ 2 ∧
 Calls Try.prog 8 #[.pointer p7, .int .i64 1, .string (⟨#[70]⟩ : ByteArray), .int .i64 n1, .slice (some (if 2 = (1 : Int).toNat then a11 else a11.add ((1 : Int).toNat * 1))) (2 - (1 : Int).toNat) (2 - (1 : Int).toNat)] w9 fun e w12 =>
 ∃ n50 : Int, e = .returned (.int .i64 n50) ∧
 Br (n50 != 0) (
 runD Try.prog ds w12 fun w13 =>
 R (.returned (.bool false)) w13) (
 Calls Try.prog 9 #[.pointer p7, .int .i64 1, .string (⟨#[70]⟩ : ByteArray)] w12 fun e w14 =>
 ∃ n55_0 : Int, ∃ n55_1 : Int, e = .returned (.tuple #[.int .i64 n55_0, .int .i64 n55_1]) ∧
 Calls Try.prog 9 #[.pointer p7, .int .i64 0, .string (⟨#[70]⟩ : ByteArray)] w14 fun e w15 =>
 ∃ n60_0 : Int, ∃ n60_1 : Int, e = .returned (.tuple #[.int .i64 n60_0, .int .i64 n60_1]) ∧
 Calls Try.prog 10 #[.pointer p7, .string (⟨#[70]⟩ : ByteArray)] w15 fun e w16 =>
 ∃ l65_0 : SV, ∃ n65_1 : Int, e = .returned (.tuple #[.slice l65_0.a l65_0.len l65_0.cap, .int .i64 n65_1]) ∧
 F3_2 R n0 n1 p5 n55_0 n55_1 n60_0 n60_1 l65_0 n65_1 ds w16))
def F3_k4 (R : Rt) : EP := (fun ρ ds w => dInt .i64 (ρ 0) fun n0 => dInt .i64 (ρ 1) fun n1 => dPtr (ρ 5) fun p5 => dPtr (ρ 7) fun p7 => F3_3 R n0 n1 p5 p7 ds w)
def F3_4 (R : Rt) (n0 : Int) (n1 : Int) (n2_0 : Int) (n2_1 : Int) (ds : Ds) (w : World) : Prop :=
 alE (.cells #[.int .u8 n2_0, .int .u8 n2_1] 22) w fun r5 w17 =>
 Calls Try.prog 5 #[] w17 fun e w18 =>
 ∃ p14 : Option Addr, e = .returned (.pointer p14) ∧
 ∃ b16 : Bool, ∃ w19 : World, (eqS .eql 23 (.tmp 15) (.const (.pointer none)) (.pointer p14) (.pointer none)).run Try.prog w18 = .ok (.bool b16) w19 ∧
 Br b16 (
 runD Try.prog ds w19 fun w20 =>
 R (.returned (.bool false)) w20) (
 Calls Try.prog 6 #[.pointer p14, .string (⟨#[70]⟩ : ByteArray)] w19 fun e w21 =>
 ∃ n19 : Int, e = .returned (.int .i64 n19) ∧
 Br (n19 != 0) (
 runD Try.prog ds w21 fun w22 =>
 R (.returned (.bool false)) w22) (
 Calls Try.prog 7 #[.pointer p14, .string (⟨#[70]⟩ : ByteArray), .int .i64 64] w21 fun e w23 =>
 ∃ n24 : Int, e = .returned (.int .i64 n24) ∧
 Br (n24 != 0) (
 runD Try.prog ds w23 fun w24 =>
 R (.returned (.bool false)) w24) (
 IntKind.i64 = IntKind.i64 ∧ (64 : Int) ≠ 0 ∧
 IntKind.i64 = IntKind.i64 ∧ (64 : Int) ≠ 0 ∧
 IntKind.i64 = IntKind.i64 ∧ (64 : Int) ≠ 0 ∧
 IntKind.i64 = IntKind.i64 ∧ (64 : Int) ≠ 0 ∧
 Br (((IntKind.i64.wrap ((n0.tmod 64) + 64)).tmod 64) == ((IntKind.i64.wrap ((n1.tmod 64) + 64)).tmod 64)) (
 IntKind.i64 = IntKind.i64 ∧ (64 : Int) ≠ 0 ∧
 F3_3 R ((IntKind.i64.wrap ((n0.tmod 64) + 64)).tmod 64) ((IntKind.i64.wrap (((IntKind.i64.wrap ((n1.tmod 64) + 64)).tmod 64) + 1)).tmod 64) (some (⟨r5, 0, none⟩ : Addr)) p14 ds w23) (
 F3_3 R ((IntKind.i64.wrap ((n0.tmod 64) + 64)).tmod 64) ((IntKind.i64.wrap ((n1.tmod 64) + 64)).tmod 64) (some (⟨r5, 0, none⟩ : Addr)) p14 ds w23))))
theorem c3_l : flat (bodyOf Try.f3) = [c3_0, c3_1, c3_2, c3_3, c3_4, c3_5, c3_6, c3_7, c3_8, c3_9, c3_10, c3_11, c3_12, c3_13] := by kernel_rfl
theorem F3_1_ok (R : Rt) (b6 : Bool) (ds : Ds) (w : World) (ρ : Env) (e6 : ρ 6 = .bool b6) (h : F3_1 R b6 ds w) :
    TrL Try.prog Try.f3.ntmps [c3_13] (F3_q1 R) ρ ds w :=
  TrL_leaf (X := F3_1 R b6 ds w) (setAll_cons e6 setAll_nil) (by kernel_rfl) (by kernel_rfl) h
theorem F3_2_ok (R : Rt) (n0 : Int) (n1 : Int) (p5 : Option Addr) (n8 : Int) (n9 : Int) (n10 : Int) (n11 : Int) (l12 : SV) (n13 : Int) (ds : Ds) (w : World) (ρ : Env) (e0 : ρ 0 = .int .i64 n0) (e1 : ρ 1 = .int .i64 n1) (e5 : ρ 5 = .pointer p5) (e8 : ρ 8 = .int .i64 n8) (e9 : ρ 9 = .int .i64 n9) (e10 : ρ 10 = .int .i64 n10) (e11 : ρ 11 = .int .i64 n11) (e12 : ρ 12 = .slice l12.a l12.len l12.cap) (e13 : ρ 13 = .int .i64 n13) (h : F3_2 R n0 n1 p5 n8 n9 n10 n11 l12 n13 ds w) :
    TrL Try.prog Try.f3.ntmps [c3_12, c3_13] (F3_q1 R) ρ ds w :=
  TrL_piece (pre := [c3_12]) (K := (F3_k2 R)) (X := F3_2 R n0 n1 p5 n8 n9 n10 n11 l12 n13 ds w) (setAll_cons e0 (setAll_cons e1 (setAll_cons e5 (setAll_cons e8 (setAll_cons e9 (setAll_cons e10 (setAll_cons e11 (setAll_cons e12 (setAll_cons e13 setAll_nil))))))))) (by kernel_rfl) (by kernel_rfl)
    (fun ρ' ds' w' hD => by
      obtain ⟨b6, e6, hD⟩ := dBl_elim hD; exact F3_1_ok R b6 ds' w' ρ' e6 hD) h
theorem F3_3_ok (R : Rt) (n0 : Int) (n1 : Int) (p5 : Option Addr) (p7 : Option Addr) (ds : Ds) (w : World) (ρ : Env) (e0 : ρ 0 = .int .i64 n0) (e1 : ρ 1 = .int .i64 n1) (e5 : ρ 5 = .pointer p5) (e7 : ρ 7 = .pointer p7) (h : F3_3 R n0 n1 p5 p7 ds w) :
    TrL Try.prog Try.f3.ntmps [c3_7, c3_8, c3_9, c3_10, c3_11, c3_12, c3_13] (F3_q1 R) ρ ds w :=
  TrL_piece (pre := [c3_7, c3_8, c3_9, c3_10, c3_11]) (K := (F3_k3 R)) (X := F3_3 R n0 n1 p5 p7 ds w) (setAll_cons e0 (setAll_cons e1 (setAll_cons e5 (setAll_cons e7 setAll_nil)))) (by kernel_rfl) (by kernel_rfl)
    (fun ρ' ds' w' hD => by
      obtain ⟨n0, e0, hD⟩ := dInt_elim hD; obtain ⟨n1, e1, hD⟩ := dInt_elim hD; obtain ⟨p5, e5, hD⟩ := dPtr_elim hD; obtain ⟨n8, e8, hD⟩ := dInt_elim hD; obtain ⟨n9, e9, hD⟩ := dInt_elim hD; obtain ⟨n10, e10, hD⟩ := dInt_elim hD; obtain ⟨n11, e11, hD⟩ := dInt_elim hD; obtain ⟨l12, e12, hD⟩ := dSl_elim hD; obtain ⟨n13, e13, hD⟩ := dInt_elim hD; exact F3_2_ok R n0 n1 p5 n8 n9 n10 n11 l12 n13 ds' w' ρ' e0 e1 e5 e8 e9 e10 e11 e12 e13 hD) h
theorem F3_4_ok (R : Rt) (n0 : Int) (n1 : Int) (n2_0 : Int) (n2_1 : Int) (ds : Ds) (w : World) (ρ : Env) (e0 : ρ 0 = .int .i64 n0) (e1 : ρ 1 = .int .i64 n1) (e2 : ρ 2 = .agg #[.int .u8 n2_0, .int .u8 n2_1]) (h : F3_4 R n0 n1 n2_0 n2_1 ds w) :
    TrL Try.prog Try.f3.ntmps [c3_0, c3_1, c3_2, c3_3, c3_4, c3_5, c3_6, c3_7, c3_8, c3_9, c3_10, c3_11, c3_12, c3_13] (F3_q1 R) ρ ds w :=
  TrL_piece (pre := [c3_0, c3_1, c3_2, c3_3, c3_4, c3_5, c3_6]) (K := (F3_k4 R)) (X := F3_4 R n0 n1 n2_0 n2_1 ds w) (setAll_cons e0 (setAll_cons e1 (setAll_cons e2 setAll_nil))) (by kernel_rfl) (by kernel_rfl)
    (fun ρ' ds' w' hD => by
      obtain ⟨n0, e0, hD⟩ := dInt_elim hD; obtain ⟨n1, e1, hD⟩ := dInt_elim hD; obtain ⟨p5, e5, hD⟩ := dPtr_elim hD; obtain ⟨p7, e7, hD⟩ := dPtr_elim hD; exact F3_3_ok R n0 n1 p5 p7 ds' w' ρ' e0 e1 e5 e7 hD) h
theorem F3_calls (n0 : Int) (n1 : Int) (n2_0 : Int) (n2_1 : Int) (w : World) (R : Rt) (h : F3_4 R n0 n1 n2_0 n2_1 [] w) : Calls Try.prog 3 #[.int .i64 n0, .int .i64 n1, .agg #[.int .u8 n2_0, .int .u8 n2_1]] w R :=
  calls_of_L (l := [c3_0, c3_1, c3_2, c3_3, c3_4, c3_5, c3_6, c3_7, c3_8, c3_9, c3_10, c3_11, c3_12, c3_13]) Try.func3 (by kernel_rfl) (by rw [Try.ntmps3]; exact Nat.le_of_ble_eq_true (by kernel_rfl)) c3_l
    (F3_4_ok R n0 n1 n2_0 n2_1 [] w _ rfl rfl rfl h)
theorem F3_callsD (n0 : Int) (n1 : Int) (n2_0 : Int) (n2_1 : Int) (w : World) (R : Rt) (u : FrameMode) (h : F3_4 R n0 n1 n2_0 n2_1 [] w) : CallsD Try.prog 3 #[.int .i64 n0, .int .i64 n1, .agg #[.int .u8 n2_0, .int .u8 n2_1]] u w fun e u' w' => u' = u ∧ R e w' :=
  callsD_of_L (l := [c3_0, c3_1, c3_2, c3_3, c3_4, c3_5, c3_6, c3_7, c3_8, c3_9, c3_10, c3_11, c3_12, c3_13]) Try.func3 (by kernel_rfl) (by rw [Try.ntmps3]; exact Nat.le_of_ble_eq_true (by kernel_rfl)) (by kernel_rfl) c3_l
    (F3_4_ok R n0 n1 n2_0 n2_1 [] w _ rfl rfl rfl h) u

/-! function 5: cabinetry/disk.New -/
noncomputable def c5_0 : Code := itemAt (flat (bodyOf Try.f5)) 0
noncomputable def c5_1 : Code := itemAt (flat (bodyOf Try.f5)) 1
noncomputable def c5_2 : Code := itemAt (flat (bodyOf Try.f5)) 2
noncomputable def c5_3 : Code := itemAt (flat (bodyOf Try.f5)) 3
noncomputable def c5_4 : Code := itemAt (flat (bodyOf Try.f5)) 4
noncomputable def c5_5 : Code := itemAt (flat (bodyOf Try.f5)) 5
noncomputable def c5_3_0 : Code := itemAt (flat (innerC c5_3)) 0
noncomputable def c5_3_0_0 : Code := itemAt (flat (innerC c5_3_0)) 0
noncomputable def c5_3_0_1 : Code := itemAt (flat (innerC c5_3_0)) 1
noncomputable def c5_3_0_2 : Code := itemAt (flat (innerC c5_3_0)) 2
noncomputable def c5_3_0_3 : Code := itemAt (flat (innerC c5_3_0)) 3
def F5_q1 (R : Rt) : EQ := endQ Try.prog Try.f5.results.toList R
def F5_1 (R : Rt) (p1 : Option Addr) (ds : Ds) (w : World) : Prop :=
 runD Try.prog ds w fun w1 =>
 R (.returned (.pointer p1)) w1
def F5_k2 (R : Rt) : EP := (fun ρ ds w => dPtr (ρ 1) fun p1 => F5_1 R p1 ds w)
def F5_q3 (R : Rt) : EQ := (thenQ (F5_k2 R) (F5_q1 R))
def F5_q4 (R : Rt) : EQ := (blockQ 0 (F5_q3 R))
def F5_q5 (R : Rt) (J1 : (Int) → World → Prop) : EQ := (thenQ (fun ρ _ w => dInt .i64 (ρ 6) fun n6 => J1 n6 w) (F5_q4 R))
def F5_2 (R : Rt) (J1 : (Int) → World → Prop) (p1 : Option Addr) (n6 : Int) (ds : Ds) (w : World) : Prop :=
 Br (decide (n6 < 4)) (
 alE (.map #[] 0) w fun r11 w2 =>
 ptrE p1 fun a3 =>
 0 ≤ n6 ∧ n6 < ((4 : Nat) : Int) ∧
 st1 ((a3.add 3).add (n6.toNat * 1)) (.map (some r11)) w2 fun w4 =>
 J1 (IntKind.i64.wrap (n6 + 1)) w4) (
 F5_1 R p1 ds w)
def F5_3 (R : Rt) (p1 : Option Addr) (n6 : Int) (ds : Ds) (w : World) : Prop :=
 loopT (fun (J1 : (Int) → World → Prop) (s : Int) (w : World) => F5_2 R J1 p1 s ds w) n6 w
@[reducible] def F5_4 (R : Rt) (p1 : Option Addr) (n6 : Int) (ds : Ds) (w : World) : Prop := F5_3 R p1 n6 ds w
def F5_k6 (R : Rt) : EP := (fun ρ ds w => dPtr (ρ 1) fun p1 => dInt .i64 (ρ 6) fun n6 => F5_4 R p1 n6 ds w)
def F5_5 (R : Rt) (ds : Ds) (w : World) : Prop :=
 alE (.map #[] 0) w fun r3 w5 =>
 alE (.cells #[.int .i32 0, .int .u32 0, .map (some r3), .map none, .map none, .map none, .map none, .slice none 0 0] 52) w5 fun r5 w6 =>
 F5_4 R (some (⟨r5, 0, none⟩ : Addr)) 0 ds w6
theorem c5_l : flat (bodyOf Try.f5) = [c5_0, c5_1, c5_2, c5_3, c5_4, c5_5] := by kernel_rfl
theorem c5_3_l : flat (innerC c5_3) = [c5_3_0] := by kernel_rfl
theorem c5_3_0_l : flat (innerC c5_3_0) = [c5_3_0_0, c5_3_0_1, c5_3_0_2, c5_3_0_3] := by kernel_rfl
theorem F5_1_ok (R : Rt) (p1 : Option Addr) (ds : Ds) (w : World) (ρ : Env) (e1 : ρ 1 = .pointer p1) (h : F5_1 R p1 ds w) :
    TrL Try.prog Try.f5.ntmps [c5_4, c5_5] (F5_q1 R) ρ ds w :=
  TrL_leaf (X := F5_1 R p1 ds w) (setAll_cons e1 setAll_nil) (by kernel_rfl) (by kernel_rfl) h
theorem F5_2_ok (R : Rt) (J1 : (Int) → World → Prop) (p1 : Option Addr) (n6 : Int) (ds : Ds) (w : World) (ρ : Env) (e1 : ρ 1 = .pointer p1) (e6 : ρ 6 = .int .i64 n6) (h : F5_2 R J1 p1 n6 ds w) :
    TrL Try.prog Try.f5.ntmps [c5_3_0_0, c5_3_0_1, c5_3_0_2, c5_3_0_3] (F5_q5 R J1) ρ ds w :=
  TrL_leaf (X := F5_2 R J1 p1 n6 ds w) (setAll_cons e1 (setAll_cons e6 setAll_nil)) (by kernel_rfl) (by kernel_rfl) h
theorem F5_3_ok (R : Rt) (p1 : Option Addr) (n6 : Int) (ds : Ds) (w : World) (ρ : Env) (e1 : ρ 1 = .pointer p1) (e6 : ρ 6 = .int .i64 n6) (h : F5_3 R p1 n6 ds w) :
    TrL Try.prog Try.f5.ntmps [c5_3_0] (F5_q4 R) ρ ds w :=
  TrL_one (Tr_loop' (c := innerC c5_3_0) (σ := Int) (enc := (fun (s : Int) (ρ : Env) => ρ 6 = .int .i64 s)) (D := (fun ρ K => dInt .i64 (ρ 6) fun n6 => K n6)) (F := (fun (J1 : (Int) → World → Prop) (s : Int) (w : World) => F5_2 R J1 p1 s ds w)) (s0 := n6) (by kernel_rfl) c5_3_0_l e6 (by kernel_rfl) (fun ρ K hD => by obtain ⟨n6, e6, hD⟩ := dInt_elim hD; exact ⟨n6, e6, hD⟩)
      (fun J1 s ρ' w' he ha hF => by
      have e6' := he
      exact F5_2_ok R J1 p1 s ds w' ρ' ((ha 1 (by kernel_rfl)).trans e1) e6' hF) h)
theorem F5_4_ok (R : Rt) (p1 : Option Addr) (n6 : Int) (ds : Ds) (w : World) (ρ : Env) (e1 : ρ 1 = .pointer p1) (e6 : ρ 6 = .int .i64 n6) (h : F5_4 R p1 n6 ds w) :
    TrL Try.prog Try.f5.ntmps [c5_3, c5_4, c5_5] (F5_q1 R) ρ ds w :=
  TrL_head (K := (F5_k2 R)) (Tr_block' (c := innerC c5_3) (by kernel_rfl) c5_3_l (F5_3_ok R p1 n6 ds w ρ e1 e6 h))
    (fun ρ' ds' w' hD => by
      obtain ⟨p1, e1, hD⟩ := dPtr_elim hD; exact F5_1_ok R p1 ds' w' ρ' e1 hD)
theorem F5_5_ok (R : Rt) (ds : Ds) (w : World) (ρ : Env) (h : F5_5 R ds w) :
    TrL Try.prog Try.f5.ntmps [c5_0, c5_1, c5_2, c5_3, c5_4, c5_5] (F5_q1 R) ρ ds w :=
  TrL_piece (pre := [c5_0, c5_1, c5_2]) (K := (F5_k6 R)) (X := F5_5 R ds w) setAll_nil (by kernel_rfl) (by kernel_rfl)
    (fun ρ' ds' w' hD => by
      obtain ⟨p1, e1, hD⟩ := dPtr_elim hD; obtain ⟨n6, e6, hD⟩ := dInt_elim hD; exact F5_4_ok R p1 n6 ds' w' ρ' e1 e6 hD) h
theorem F5_calls  (w : World) (R : Rt) (h : F5_5 R [] w) : Calls Try.prog 5 #[] w R :=
  calls_of_L (l := [c5_0, c5_1, c5_2, c5_3, c5_4, c5_5]) Try.func5 (by kernel_rfl) (by rw [Try.ntmps5]; exact Nat.le_of_ble_eq_true (by kernel_rfl)) c5_l
    (F5_5_ok R [] w _  h)
theorem F5_callsD  (w : World) (R : Rt) (u : FrameMode) (h : F5_5 R [] w) : CallsD Try.prog 5 #[] u w fun e u' w' => u' = u ∧ R e w' :=
  callsD_of_L (l := [c5_0, c5_1, c5_2, c5_3, c5_4, c5_5]) Try.func5 (by kernel_rfl) (by rw [Try.ntmps5]; exact Nat.le_of_ble_eq_true (by kernel_rfl)) (by kernel_rfl) c5_l
    (F5_5_ok R [] w _  h) u

/-! function 6: (*cabinetry/disk.System).Make -/
noncomputable def c6_0 : Code := itemAt (flat (bodyOf Try.f6)) 0
noncomputable def c6_1 : Code := itemAt (flat (bodyOf Try.f6)) 1
noncomputable def c6_2 : Code := itemAt (flat (bodyOf Try.f6)) 2
noncomputable def c6_3 : Code := itemAt (flat (bodyOf Try.f6)) 3
noncomputable def c6_4 : Code := itemAt (flat (bodyOf Try.f6)) 4
noncomputable def c6_5 : Code := itemAt (flat (bodyOf Try.f6)) 5
noncomputable def c6_6 : Code := itemAt (flat (bodyOf Try.f6)) 6
def F6_q1 (R : Rt) : EQ := endQ Try.prog Try.f6.results.toList R
def F6_1 (R : Rt) (p0 : Option Addr) (s1 : ByteArray) (ds : Ds) (w : World) : Prop :=
 Calls Try.prog 15 #[.pointer p0, .int .i64 0, .string s1] w fun e w1 =>
 ∃ v10_0 : Value, ∃ n10_1 : Int, e = .returned (.tuple #[v10_0, .int .i64 n10_1]) ∧
 fnE v10_0 fun fx firstx capx =>
 Br (n10_1 == 0) (
 runD Try.prog ({ target := .fn (.func fx) capx, args := (firstx.toList ++ ([] : List Value)).toArray } :: ds) w1 fun w2 =>
 R (.returned (.int .i64 5)) w2) (
 Br (n10_1 != 4) (
 runD Try.prog ({ target := .fn (.func fx) capx, args := (firstx.toList ++ ([] : List Value)).toArray } :: ds) w1 fun w3 =>
 R (.returned (.int .i64 n10_1)) w3) (
 ptrE p0 fun a4 =>
 ∃ m25 : Option Nat, w1.cell? (a4.add 2) = some (.map m25) ∧
 ∃ n26 : Int, ∃ w5 : World, (Builtin.len_ #[40] 3 #[.map m25]).run Try.prog w1 = .ok (.int .i64 n26) w5 ∧
 Br (decide (n26 ≥ 8)) (
 runD Try.prog ({ target := .fn (.func fx) capx, args := (firstx.toList ++ ([] : List Value)).toArray } :: ds) w5 fun w6 =>
 R (.returned (.int .i64 3)) w6) (
 ptrE p0 fun a7 =>
 ∃ m31 : Option Nat, w5.cell? (a7.add 2) = some (.map m31) ∧
 doE Try.prog (Instr.mapUpdate 40 (.map m31) (.string s1) (.slice none 0 0)) w5 fun w8 =>
 runD Try.prog ({ target := .fn (.func fx) capx, args := (firstx.toList ++ ([] : List Value)).toArray } :: ds) w8 fun w9 =>
 R (.returned (.int .i64 0)) w9)))
theorem c6_l : flat (bodyOf Try.f6) = [c6_0, c6_1, c6_2, c6_3, c6_4, c6_5, c6_6] := by kernel_rfl
theorem F6_1_ok (R : Rt) (p0 : Option Addr) (s1 : ByteArray) (ds : Ds) (w : World) (ρ : Env) (e0 : ρ 0 = .pointer p0) (e1 : ρ 1 = .string s1) (h : F6_1 R p0 s1 ds w) :
    TrL Try.prog Try.f6.ntmps [c6_0, c6_1, c6_2, c6_3, c6_4, c6_5, c6_6] (F6_q1 R) ρ ds w :=
  TrL_leaf (X := F6_1 R p0 s1 ds w) (setAll_cons e0 (setAll_cons e1 setAll_nil)) (by kernel_rfl) (by kernel_rfl) h
theorem F6_calls (p0 : Option Addr) (s1 : ByteArray) (w : World) (R : Rt) (h : F6_1 R p0 s1 [] w) : Calls Try.prog 6 #[.pointer p0, .string s1] w R :=
  calls_of_L (l := [c6_0, c6_1, c6_2, c6_3, c6_4, c6_5, c6_6]) Try.func6 (by kernel_rfl) (by rw [Try.ntmps6]; exact Nat.le_of_ble_eq_true (by kernel_rfl)) c6_l
    (F6_1_ok R p0 s1 [] w _ rfl rfl h)

/-! function 7: (*cabinetry/disk.System).Resize -/
noncomputable def c7_0 : Code := itemAt (flat (bodyOf Try.f7)) 0
noncomputable def c7_1 : Code := itemAt (flat (bodyOf Try.f7)) 1
noncomputable def c7_2 : Code := itemAt (flat (bodyOf Try.f7)) 2
noncomputable def c7_3 : Code := itemAt (flat (bodyOf Try.f7)) 3
noncomputable def c7_4 : Code := itemAt (flat (bodyOf Try.f7)) 4
noncomputable def c7_5 : Code := itemAt (flat (bodyOf Try.f7)) 5
noncomputable def c7_6 : Code := itemAt (flat (bodyOf Try.f7)) 6
noncomputable def c7_7 : Code := itemAt (flat (bodyOf Try.f7)) 7
noncomputable def c7_8 : Code := itemAt (flat (bodyOf Try.f7)) 8
noncomputable def c7_9 : Code := itemAt (flat (bodyOf Try.f7)) 9
noncomputable def c7_10 : Code := itemAt (flat (bodyOf Try.f7)) 10
noncomputable def c7_11 : Code := itemAt (flat (bodyOf Try.f7)) 11
noncomputable def c7_12 : Code := itemAt (flat (bodyOf Try.f7)) 12
noncomputable def c7_13 : Code := itemAt (flat (bodyOf Try.f7)) 13
noncomputable def c7_11_0 : Code := itemAt (flat (innerC c7_11)) 0
noncomputable def c7_11_0_0 : Code := itemAt (flat (innerC c7_11_0)) 0
noncomputable def c7_11_0_1 : Code := itemAt (flat (innerC c7_11_0)) 1
noncomputable def c7_11_0_2 : Code := itemAt (flat (innerC c7_11_0)) 2
noncomputable def c7_11_0_3 : Code := itemAt (flat (innerC c7_11_0)) 3
def F7_q1 (R : Rt) : EQ := endQ Try.prog Try.f7.results.toList R
def F7_1 (R : Rt) (ds : Ds) (w : World) : Prop :=
 runD Try.prog ds w fun w1 =>
 R (.returned (.int .i64 0)) w1
def F7_k2 (R : Rt) : EP := (fun ρ ds w => F7_1 R ds w)
def F7_q3 (R : Rt) : EQ := (thenQ (F7_k2 R) (F7_q1 R))
def F7_q4 (R : Rt) : EQ := (blockQ 0 (F7_q3 R))
def F7_q5 (R : Rt) (J1 : (Int) → World → Prop) : EQ := (thenQ (fun ρ _ w => dInt .i64 (ρ 43) fun n43 => J1 n43 w) (F7_q4 R))
def F7_2 (R : Rt) (J1 : (Int) → World → Prop) (p0 : Option Addr) (s1 : ByteArray) (n2 : Int) (n43 : Int) (ds : Ds) (w : World) : Prop :=
 Br (decide (n43 < 4)) (
 Calls Try.prog 16 #[.pointer p0, .int .i64 n43, .string s1, .int .i64 n2] w fun e w2 =>
 e = .returned (.tuple #[]) ∧
 J1 (IntKind.i64.wrap (n43 + 1)) w2) (
 F7_1 R ds w)
def F7_3 (R : Rt) (p0 : Option Addr) (s1 : ByteArray) (n2 : Int) (n43 : Int) (ds : Ds) (w : World) : Prop :=
 loopT (fun (J1 : (Int) → World → Prop) (s : Int) (w : World) => F7_2 R J1 p0 s1 n2 s ds w) n43 w
@[reducible] def F7_4 (R : Rt) (p0 : Option Addr) (s1 : ByteArray) (n2 : Int) (n43 : Int) (ds : Ds) (w : World) : Prop := F7_3 R p0 s1 n2 n43 ds w
def F7_k6 (R : Rt) : EP := (fun ρ ds w => dPtr (ρ 0) fun p0 => dStr (ρ 1) fun s1 => dInt .i64 (ρ 2) fun n2 => dInt .i64 (ρ 43) fun n43 => F7_4 R p0 s1 n2 n43 ds w)
def F7_5 (R : Rt) (p0 : Option Addr) (s1 : ByteArray) (n2 : Int) (ds : Ds) (w : World) : Prop :=
 Calls Try.prog 15 #[.pointer p0, .int .i64 0, .string s1] w fun e w3 =>
 ∃ v14_0 : Value, ∃ n14_1 : Int, e = .returned (.tuple #[v14_0, .int .i64 n14_1]) ∧
 fnE v14_0 fun fx firstx capx =>
 Br (n14_1 != 0) (
 runD Try.prog ({ target := .fn (.func fx) capx, args := (firstx.toList ++ ([] : List Value)).toArray } :: ds) w3 fun w4 =>
 R (.returned (.int .i64 n14_1)) w4) (
 Br (decide (n2 < 0)) (
 runD Try.prog ({ target := .fn (.func fx) capx, args := (firstx.toList ++ ([] : List Value)).toArray } :: ds) w3 fun w5 =>
 R (.returned (.int .i64 1)) w5) (
 Br (decide (n2 > 65536)) (
 runD Try.prog ({ target := .fn (.func fx) capx, args := (firstx.toList ++ ([] : List Value)).toArray } :: ds) w3 fun w6 =>
 R (.returned (.int .i64 1)) w6) (
 ∃ l28 : SV, ∃ w7 : World, (Instr.makeSlice 29 (.int .i64 n2) (.int .i64 n2)).run Try.prog w3 = .ok (.slice l28.a l28.len l28.cap) w7 ∧
 ptrE p0 fun a8 =>
 ∃ m33 : Option Nat, w7.cell? (a8.add 2) = some (.map m33) ∧
 ∃ l35 : SV, ∃ w9 : World, (Instr.lookup 40 (.map m33) (.string s1) false).run Try.prog w7 = .ok (.slice l35.a l35.len l35.cap) w9 ∧
 ∃ n36 : Int, ∃ w10 : World, (Builtin.copy_ #[29, 29] 3 #[.slice l28.a l28.len l28.cap, .slice l35.a l35.len l35.cap]).run Try.prog w9 = .ok (.int .i64 n36) w10 ∧
 ptrE p0 fun a11 =>
 ∃ m40 : Option Nat, w10.cell? (a11.add 2) = some (.map m40) ∧
 doE Try.prog (Instr.mapUpdate 40 (.map m40) (.string s1) (.slice l28.a l28.len l28.cap)) w10 fun w12 =>
 F7_4 R p0 s1 n2 0 ({ target := .fn (.func fx) capx, args := (firstx.toList ++ ([] : List Value)).toArray } :: ds) w12)))
theorem c7_l : flat (bodyOf Try.f7) = [c7_0, c7_1, c7_2, c7_3, c7_4, c7_5, c7_6, c7_7, c7_8, c7_9, c7_10, c7_11, c7_12, c7_13] := by kernel_rfl
theorem c7_11_l : flat (innerC c7_11) = [c7_11_0] := by kernel_rfl
theorem c7_11_0_l : flat (innerC c7_11_0) = [c7_11_0_0, c7_11_0_1, c7_11_0_2, c7_11_0_3] := by kernel_rfl
theorem F7_1_ok (R : Rt) (ds : Ds) (w : World) (ρ : Env) (h : F7_1 R ds w) :
    TrL Try.prog Try.f7.ntmps [c7_12, c7_13] (F7_q1 R) ρ ds w :=
  TrL_leaf (X := F7_1 R ds w) setAll_nil (by kernel_rfl) (by kernel_rfl) h
theorem F7_2_ok (R : Rt) (J1 : (Int) → World → Prop) (p0 : Option Addr) (s1 : ByteArray) (n2 : Int) (n43 : Int) (ds : Ds) (w : World) (ρ : Env) (e0 : ρ 0 = .pointer p0) (e1 : ρ 1 = .string s1) (e2 : ρ 2 = .int .i64 n2) (e43 : ρ 43 = .int .i64 n43) (h : F7_2 R J1 p0 s1 n2 n43 ds w) :
    TrL Try.prog Try.f7.ntmps [c7_11_0_0, c7_11_0_1, c7_11_0_2, c7_11_0_3] (F7_q5 R J1) ρ ds w :=
  TrL_leaf (X := F7_2 R J1 p0 s1 n2 n43 ds w) (setAll_cons e0 (setAll_cons e1 (setAll_cons e2 (setAll_cons e43 setAll_nil)))) (by kernel_rfl) (by kernel_rfl) h
theorem F7_3_ok (R : Rt) (p0 : Option Addr) (s1 : ByteArray) (n2 : Int) (n43 : Int) (ds : Ds) (w : World) (ρ : Env) (e0 : ρ 0 = .pointer p0) (e1 : ρ 1 = .string s1) (e2 : ρ 2 = .int .i64 n2) (e43 : ρ 43 = .int .i64 n43) (h : F7_3 R p0 s1 n2 n43 ds w) :
    TrL Try.prog Try.f7.ntmps [c7_11_0] (F7_q4 R) ρ ds w :=
  TrL_one (Tr_loop' (c := innerC c7_11_0) (σ := Int) (enc := (fun (s : Int) (ρ : Env) => ρ 43 = .int .i64 s)) (D := (fun ρ K => dInt .i64 (ρ 43) fun n43 => K n43)) (F := (fun (J1 : (Int) → World → Prop) (s : Int) (w : World) => F7_2 R J1 p0 s1 n2 s ds w)) (s0 := n43) (by kernel_rfl) c7_11_0_l e43 (by kernel_rfl) (fun ρ K hD => by obtain ⟨n43, e43, hD⟩ := dInt_elim hD; exact ⟨n43, e43, hD⟩)
      (fun J1 s ρ' w' he ha hF => by
      have e43' := he
      exact F7_2_ok R J1 p0 s1 n2 s ds w' ρ' ((ha 0 (by kernel_rfl)).trans e0) ((ha 1 (by kernel_rfl)).trans e1) ((ha 2 (by kernel_rfl)).trans e2) e43' hF) h)
theorem F7_4_ok (R : Rt) (p0 : Option Addr) (s1 : ByteArray) (n2 : Int) (n43 : Int) (ds : Ds) (w : World) (ρ : Env) (e0 : ρ 0 = .pointer p0) (e1 : ρ 1 = .string s1) (e2 : ρ 2 = .int .i64 n2) (e43 : ρ 43 = .int .i64 n43) (h : F7_4 R p0 s1 n2 n43 ds w) :
    TrL Try.prog Try.f7.ntmps [c7_11, c7_12, c7_13] (F7_q1 R) ρ ds w :=
  TrL_head (K := (F7_k2 R)) (Tr_block' (c := innerC c7_11) (by kernel_rfl) c7_11_l (F7_3_ok R p0 s1 n2 n43 ds w ρ e0 e1 e2 e43 h))
    (fun ρ' ds' w' hD => by
      exact F7_1_ok R ds' w' ρ'  hD)
theorem F7_5_ok (R : Rt) (p0 : Option Addr) (s1 : ByteArray) (n2 : Int) (ds : Ds) (w : World) (ρ : Env) (e0 : ρ 0 = .pointer p0) (e1 : ρ 1 = .string s1) (e2 : ρ 2 = .int .i64 n2) (h : F7_5 R p0 s1 n2 ds w) :
    TrL Try.prog Try.f7.ntmps [c7_0, c7_1, c7_2, c7_3, c7_4, c7_5, c7_6, c7_7, c7_8, c7_9, c7_10, c7_11, c7_12, c7_13] (F7_q1 R) ρ ds w :=
  TrL_piece (pre := [c7_0, c7_1, c7_2, c7_3, c7_4, c7_5, c7_6, c7_7, c7_8, c7_9, c7_10]) (K := (F7_k6 R)) (X := F7_5 R p0 s1 n2 ds w) (setAll_cons e0 (setAll_cons e1 (setAll_cons e2 setAll_nil))) (by kernel_rfl) (by kernel_rfl)
    (fun ρ' ds' w' hD => by
      obtain ⟨p0, e0, hD⟩ := dPtr_elim hD; obtain ⟨s1, e1, hD⟩ := dStr_elim hD; obtain ⟨n2, e2, hD⟩ := dInt_elim hD; obtain ⟨n43, e43, hD⟩ := dInt_elim hD; exact F7_4_ok R p0 s1 n2 n43 ds' w' ρ' e0 e1 e2 e43 hD) h
theorem F7_calls (p0 : Option Addr) (s1 : ByteArray) (n2 : Int) (w : World) (R : Rt) (h : F7_5 R p0 s1 n2 [] w) : Calls Try.prog 7 #[.pointer p0, .string s1, .int .i64 n2] w R :=
  calls_of_L (l := [c7_0, c7_1, c7_2, c7_3, c7_4, c7_5, c7_6, c7_7, c7_8, c7_9, c7_10, c7_11, c7_12, c7_13]) Try.func7 (by kernel_rfl) (by rw [Try.ntmps7]; exact Nat.le_of_ble_eq_true (by kernel_rfl)) c7_l
    (F7_5_ok R p0 s1 n2 [] w _ rfl rfl rfl h)

/-! function 8: (*cabinetry/disk.System).Write -/
noncomputable def c8_0 : Code := itemAt (flat (bodyOf Try.f8)) 0
noncomputable def c8_1 : Code := itemAt (flat (bodyOf Try.f8)) 1
noncomputable def c8_2 : Code := itemAt (flat (bodyOf Try.f8)) 2
noncomputable def c8_3 : Code := itemAt (flat (bodyOf Try.f8)) 3
noncomputable def c8_4 : Code := itemAt (flat (bodyOf Try.f8)) 4
noncomputable def c8_5 : Code := itemAt (flat (bodyOf Try.f8)) 5
noncomputable def c8_6 : Code := itemAt (flat (bodyOf Try.f8)) 6
noncomputable def c8_7 : Code := itemAt (flat (bodyOf Try.f8)) 7
noncomputable def c8_8 : Code := itemAt (flat (bodyOf Try.f8)) 8
noncomputable def c8_9 : Code := itemAt (flat (bodyOf Try.f8)) 9
def F8_q1 (R : Rt) : EQ := endQ Try.prog Try.f8.results.toList R
def F8_1 (R : Rt) (p0 : Option Addr) (n1 : Int) (s2 : ByteArray) (n3 : Int) (l4 : SV) (ds : Ds) (w : World) : Prop :=
 alE (.cells #[.slice l4.a l4.len l4.cap] 29) w fun r9 w1 =>
 Calls Try.prog 15 #[.pointer p0, .int .i64 n1, .string s2] w1 fun e w2 =>
 ∃ v17_0 : Value, ∃ n17_1 : Int, e = .returned (.tuple #[v17_0, .int .i64 n17_1]) ∧
 fnE v17_0 fun fx firstx capx =>
 Br (n17_1 != 0) (
 runD Try.prog ({ target := .fn (.func fx) capx, args := (firstx.toList ++ ([] : List Value)).toArray } :: ds) w2 fun w3 =>
 R (.returned (.int .i64 n17_1)) w3) (
 dwE w2 fun w4 =>
 Br (decide (n3 < 0)) (
 runD Try.prog ({ target := .fn (.func fx) capx, args := (firstx.toList ++ ([] : List Value)).toArray } :: ds) w4 fun w5 =>
 R (.returned (.int .i64 1)) w5) (
 ptrE p0 fun a6 =>
 ∃ m31 : Option Nat, w4.cell? (a6.add 2) = some (.map m31) ∧
 ∃ l33 : SV, (Instr.lookup 40 (.map m31) (.string s2) false).run Try.prog w4 = .ok (.slice l33.a l33.len l33.cap) w4 ∧
 Br (decide (n3 > ((l33.len : Nat) : Int))) (
 runD Try.prog ({ target := .fn (.func fx) capx, args := (firstx.toList ++ ([] : List Value)).toArray } :: ds) w4 fun w7 =>
 R (.returned (.int .i64 1)) w7) (
 ∃ l38 : SV, w4.cell? (⟨r9, 0, none⟩ : Addr) = some (.slice l38.a l38.len l38.cap) ∧
 ptrE p0 fun a8 =>
 ∃ m43 : Option Nat, w4.cell? (a8.add 2) = some (.map m43) ∧
 ∃ l45 : SV, (Instr.lookup 40 (.map m43) (.string s2) false).run Try.prog w4 = .ok (.slice l45.a l45.len l45.cap) w4 ∧
 Br (decide (((l38.len : Nat) : Int) > (IntKind.i64.wrap (((l45.len : Nat) : Int) - n3)))) (
 runD Try.prog ({ target := .fn (.func fx) capx, args := (firstx.toList ++ ([] : List Value)).toArray } :: ds) w4 fun w9 =>
 R (.returned (.int .i64 1)) w9) (
 ∃ l55 : SV, w4.cell? (⟨r9, 0, none⟩ : Addr) = some (.slice l55.a l55.len l55.cap) ∧
 Calls Try.prog 17 #[.pointer p0, .int .i64 n1, .string s2, .int .i64 n3, .int .i64 ((l55.len : Nat) : Int), .func (.func 18) #[] #[.pointer (some (⟨r9, 0, none⟩ : Addr))]] w4 fun e w10 =>
 e = .returned (.tuple #[]) ∧
 runD Try.prog ({ target := .fn (.func fx) capx, args := (firstx.toList ++ ([] : List Value)).toArray } :: ds) w10 fun w11 =>
 R (.returned (.int .i64 0)) w11))))
theorem c8_l : flat (bodyOf Try.f8) = [c8_0, c8_1, c8_2, c8_3, c8_4, c8_5, c8_6, c8_7, c8_8, c8_9] := by kernel_rfl
theorem F8_1_ok (R : Rt) (p0 : Option Addr) (n1 : Int) (s2 : ByteArray) (n3 : Int) (l4 : SV) (ds : Ds) (w : World) (ρ : Env) (e0 : ρ 0 = .pointer p0) (e1 : ρ 1 = .int .i64 n1) (e2 : ρ 2 = .string s2) (e3 : ρ 3 = .int .i64 n3) (e4 : ρ 4 = .slice l4.a l4.len l4.cap) (h : F8_1 R p0 n1 s2 n3 l4 ds w) :
    TrL Try.prog Try.f8.ntmps [c8_0, c8_1, c8_2, c8_3, c8_4, c8_5, c8_6, c8_7, c8_8, c8_9] (F8_q1 R) ρ ds w :=
  TrL_leaf (X := F8_1 R p0 n1 s2 n3 l4 ds w) (setAll_cons e0 (setAll_cons e1 (setAll_cons e2 (setAll_cons e3 (setAll_cons e4 setAll_nil))))) (by kernel_rfl) (by kernel_rfl) h
theorem F8_calls (p0 : Option Addr) (n1 : Int) (s2 : ByteArray) (n3 : Int) (l4 : SV) (w : World) (R : Rt) (h : F8_1 R p0 n1 s2 n3 l4 [] w) : Calls Try.prog 8 #[.pointer p0, .int .i64 n1, .string s2, .int .i64 n3, .slice l4.a l4.len l4.cap] w R :=
  calls_of_L (l := [c8_0, c8_1, c8_2, c8_3, c8_4, c8_5, c8_6, c8_7, c8_8, c8_9]) Try.func8 (by kernel_rfl) (by rw [Try.ntmps8]; exact Nat.le_of_ble_eq_true (by kernel_rfl)) c8_l
    (F8_1_ok R p0 n1 s2 n3 l4 [] w _ rfl rfl rfl rfl rfl h)

/-! function 9: (*cabinetry/disk.System).Flush -/
noncomputable def c9_0 : Code := itemAt (flat (bodyOf Try.f9)) 0
noncomputable def c9_1 : Code := itemAt (flat (bodyOf Try.f9)) 1
noncomputable def c9_2 : Code := itemAt (flat (bodyOf Try.f9)) 2
noncomputable def c9_3 : Code := itemAt (flat (bodyOf Try.f9)) 3
noncomputable def c9_4 : Code := itemAt (flat (bodyOf Try.f9)) 4
noncomputable def c9_5 : Code := itemAt (flat (bodyOf Try.f9)) 5
noncomputable def c9_6 : Code := itemAt (flat (bodyOf Try.f9)) 6
noncomputable def c9_7 : Code := itemAt (flat (bodyOf Try.f9)) 7
noncomputable def c9_8 : Code := itemAt (flat (bodyOf Try.f9)) 8
noncomputable def c9_9 : Code := itemAt (flat (bodyOf Try.f9)) 9
noncomputable def c9_7_0 : Code := itemAt (flat (innerC c9_7)) 0
noncomputable def c9_7_0_0 : Code := itemAt (flat (innerC c9_7_0)) 0
noncomputable def c9_7_0_1 : Code := itemAt (flat (innerC c9_7_0)) 1
noncomputable def c9_7_0_2 : Code := itemAt (flat (innerC c9_7_0)) 2
noncomputable def c9_7_0_3 : Code := itemAt (flat (innerC c9_7_0)) 3
def F9_q1 (R : Rt) : EQ := endQ Try.prog Try.f9.results.toList R
def F9_1 (R : Rt) (n10 : Int) (ds : Ds) (w : World) : Prop :=
 runD Try.prog ds w fun w1 =>
 R (.returned (.tuple #[.int .i64 n10, .int .i64 0])) w1
def F9_k2 (R : Rt) : EP := (fun ρ ds w => dInt .i64 (ρ 10) fun n10 => F9_1 R n10 ds w)
def F9_q3 (R : Rt) : EQ := (thenQ (F9_k2 R) (F9_q1 R))
def F9_q4 (R : Rt) : EQ := (blockQ 0 (F9_q3 R))
def F9_q5 (R : Rt) (J1 : (Int × Int) → World → Prop) : EQ := (thenQ (fun ρ _ w => dInt .i64 (ρ 10) fun n10 => dInt .i64 (ρ 29) fun n29 => J1 (n10, n29) w) (F9_q4 R))
def F9_2 (R : Rt) (J1 : (Int × Int) → World → Prop) (p0 : Option Addr) (n1 : Int) (n10 : Int) (l27 : SV) (n28 : Int) (n29 : Int) (ds : Ds) (w : World) : Prop :=
 Br (decide (n29 < n28)) (
 ∃ a2 : Addr, l27.a = some a2 ∧ 0 ≤ n29 ∧ n29 < ((l27.len : Nat) : Int) ∧
 ∃ s32_0 : ByteArray, w.cell? ((a2.add (n29.toNat * 2)).add 0) = some (.string s32_0) ∧
 ∃ n32_1 : Int, w.cell? ((a2.add (n29.toNat * 2)).add 1) = some (.int .i64 n32_1) ∧
 alE (.cells #[.string (⟨#[]⟩ : ByteArray), .int .i64 0] 66) w fun r12 w3 =>
 stA Try.prog 66 (⟨r12, 0, none⟩ : Addr) #[.string s32_0, .int .i64 n32_1] w3 fun w4 =>
 ∃ s36_0 : ByteArray, w4.cell? ((⟨r12, 0, none⟩ : Addr).add 0) = some (.string s36_0) ∧
 ∃ n36_1 : Int, w4.cell? ((⟨r12, 0, none⟩ : Addr).add 1) = some (.int .i64 n36_1) ∧
 Calls Try.prog 20 #[.pointer p0, .int .i64 n1, .agg #[.string s36_0, .int .i64 n36_1]] w4 fun e w5 =>
 ∃ n37 : Int, e = .returned (.int .i64 n37) ∧
 J1 ((IntKind.i64.wrap (n10 + n37)), (IntKind.i64.wrap (n29 + 1))) w5) (
 F9_1 R n10 ds w)
def F9_3 (R : Rt) (p0 : Option Addr) (n1 : Int) (n10 : Int) (l27 : SV) (n28 : Int) (n29 : Int) (ds : Ds) (w : World) : Prop :=
 loopT (fun (J1 : (Int × Int) → World → Prop) (s : Int × Int) (w : World) => F9_2 R J1 p0 n1 s.1 l27 n28 s.2 ds w) (n10, n29) w
@[reducible] def F9_4 (R : Rt) (p0 : Option Addr) (n1 : Int) (n10 : Int) (l27 : SV) (n28 : Int) (n29 : Int) (ds : Ds) (w : World) : Prop := F9_3 R p0 n1 n10 l27 n28 n29 ds w
def F9_k6 (R : Rt) : EP := (fun ρ ds w => dPtr (ρ 0) fun p0 => dInt .i64 (ρ 1) fun n1 => dInt .i64 (ρ 10) fun n10 => dSl (ρ 27) fun l27 => dInt .i64 (ρ 28) fun n28 => dInt .i64 (ρ 29) fun n29 => F9_4 R p0 n1 n10 l27 n28 n29 ds w)
def F9_5 (R : Rt) (p0 : Option Addr) (n1 : Int) (s2 : ByteArray) (ds : Ds) (w : World) : Prop :=
 Calls Try.prog 15 #[.pointer p0, .int .i64 n1, .string s2] w fun e w6 =>
 ∃ v17_0 : Value, ∃ n17_1 : Int, e = .returned (.tuple #[v17_0, .int .i64 n17_1]) ∧
 fnE v17_0 fun fx firstx capx =>
 Br (n17_1 != 0) (
 runD Try.prog ({ target := .fn (.func fx) capx, args := (firstx.toList ++ ([] : List Value)).toArray } :: ds) w6 fun w7 =>
 R (.returned (.tuple #[.int .i64 0, .int .i64 n17_1])) w7) (
 Calls Try.prog 19 #[.pointer p0, .int .i64 n1, .string s2, .int .i64 0, .int .i64 65536] w6 fun e w8 =>
 ∃ l27 : SV, e = .returned (.slice l27.a l27.len l27.cap) ∧
 F9_4 R p0 n1 0 l27 ((l27.len : Nat) : Int) 0 ({ target := .fn (.func fx) capx, args := (firstx.toList ++ ([] : List Value)).toArray } :: ds) w8)
theorem c9_l : flat (bodyOf Try.f9) = [c9_0, c9_1, c9_2, c9_3, c9_4, c9_5, c9_6, c9_7, c9_8, c9_9] := by kernel_rfl
theorem c9_7_l : flat (innerC c9_7) = [c9_7_0] := by kernel_rfl
theorem c9_7_0_l : flat (innerC c9_7_0) = [c9_7_0_0, c9_7_0_1, c9_7_0_2, c9_7_0_3] := by kernel_rfl
theorem F9_1_ok (R : Rt) (n10 : Int) (ds : Ds) (w : World) (ρ : Env) (e10 : ρ 10 = .int .i64 n10) (h : F9_1 R n10 ds w) :
    TrL Try.prog Try.f9.ntmps [c9_8, c9_9] (F9_q1 R) ρ ds w :=
  TrL_leaf (X := F9_1 R n10 ds w) (setAll_cons e10 setAll_nil) (by kernel_rfl) (by kernel_rfl) h
theorem F9_2_ok (R : Rt) (J1 : (Int × Int) → World → Prop) (p0 : Option Addr) (n1 : Int) (n10 : Int) (l27 : SV) (n28 : Int) (n29 : Int) (ds : Ds) (w : World) (ρ : Env) (e0 : ρ 0 = .pointer p0) (e1 : ρ 1 = .int .i64 n1) (e10 : ρ 10 = .int .i64 n10) (e27 : ρ 27 = .slice l27.a l27.len l27.cap) (e28 : ρ 28 = .int .i64 n28) (e29 : ρ 29 = .int .i64 n29) (h : F9_2 R J1 p0 n1 n10 l27 n28 n29 ds w) :
    TrL Try.prog Try.f9.ntmps [c9_7_0_0, c9_7_0_1, c9_7_0_2, c9_7_0_3] (F9_q5 R J1) ρ ds w :=
  TrL_leaf (X := F9_2 R J1 p0 n1 n10 l27 n28 n29 ds w) (setAll_cons e0 (setAll_cons e1 (setAll_cons e10 (setAll_cons e27 (setAll_cons e28 (setAll_cons e29 setAll_nil)))))) (by kernel_rfl) (by kernel_rfl) h
theorem F9_3_ok (R : Rt) (p0 : Option Addr) (n1 : Int) (n10 : Int) (l27 : SV) (n28 : Int) (n29 : Int) (ds : Ds) (w : World) (ρ : Env) (e0 : ρ 0 = .pointer p0) (e1 : ρ 1 = .int .i64 n1) (e10 : ρ 10 = .int .i64 n10) (e27 : ρ 27 = .slice l27.a l27.len l27.cap) (e28 : ρ 28 = .int .i64 n28) (e29 : ρ 29 = .int .i64 n29) (h : F9_3 R p0 n1 n10 l27 n28 n29 ds w) :
    TrL Try.prog Try.f9.ntmps [c9_7_0] (F9_q4 R) ρ ds w :=
  TrL_one (Tr_loop' (c := innerC c9_7_0) (σ := Int × Int) (enc := (fun (s : Int × Int) (ρ : Env) => ρ 10 = .int .i64 s.1 ∧ ρ 29 = .int .i64 s.2)) (D := (fun ρ K => dInt .i64 (ρ 10) fun n10 => dInt .i64 (ρ 29) fun n29 => K (n10, n29))) (F := (fun (J1 : (Int × Int) → World → Prop) (s : Int × Int) (w : World) => F9_2 R J1 p0 n1 s.1 l27 n28 s.2 ds w)) (s0 := (n10, n29)) (by kernel_rfl) c9_7_0_l ⟨e10, e29⟩ (by kernel_rfl) (fun ρ K hD => by obtain ⟨n10, e10, hD⟩ := dInt_elim hD; obtain ⟨n29, e29, hD⟩ := dInt_elim hD; exact ⟨(n10, n29), ⟨e10, e29⟩, hD⟩)
      (fun J1 s ρ' w' he ha hF => by
      obtain ⟨e10', e29'⟩ := he
      exact F9_2_ok R J1 p0 n1 s.1 l27 n28 s.2 ds w' ρ' ((ha 0 (by kernel_rfl)).trans e0) ((ha 1 (by kernel_rfl)).trans e1) e10' ((ha 27 (by kernel_rfl)).trans e27) ((ha 28 (by kernel_rfl)).trans e28) e29' hF) h)
theorem F9_4_ok (R : Rt) (p0 : Option Addr) (n1 : Int) (n10 : Int) (l27 : SV) (n28 : Int) (n29 : Int) (ds : Ds) (w : World) (ρ : Env) (e0 : ρ 0 = .pointer p0) (e1 : ρ 1 = .int .i64 n1) (e10 : ρ 10 = .int .i64 n10) (e27 : ρ 27 = .slice l27.a l27.len l27.cap) (e28 : ρ 28 = .int .i64 n28) (e29 : ρ 29 = .int .i64 n29) (h : F9_4 R p0 n1 n10 l27 n28 n29 ds w) :
    TrL Try.prog Try.f9.ntmps [c9_7, c9_8, c9_9] (F9_q1 R) ρ ds w :=
  TrL_head (K := (F9_k2 R)) (Tr_block' (c := innerC c9_7) (by kernel_rfl) c9_7_l (F9_3_ok R p0 n1 n10 l27 n28 n29 ds w ρ e0 e1 e10 e27 e28 e29 h))
    (fun ρ' ds' w' hD => by
      obtain ⟨n10, e10, hD⟩ := dInt_elim hD; exact F9_1_ok R n10 ds' w' ρ' e10 hD)
theorem F9_5_ok (R : Rt) (p0 : Option Addr) (n1 : Int) (s2 : ByteArray) (ds : Ds) (w : World) (ρ : Env) (e0 : ρ 0 = .pointer p0) (e1 : ρ 1 = .int .i64 n1) (e2 : ρ 2 = .string s2) (h : F9_5 R p0 n1 s2 ds w) :
    TrL Try.prog Try.f9.ntmps [c9_0, c9_1, c9_2, c9_3, c9_4, c9_5, c9_6, c9_7, c9_8, c9_9] (F9_q1 R) ρ ds w :=
  TrL_piece (pre := [c9_0, c9_1, c9_2, c9_3, c9_4, c9_5, c9_6]) (K := (F9_k6 R)) (X := F9_5 R p0 n1 s2 ds w) (setAll_cons e0 (setAll_cons e1 (setAll_cons e2 setAll_nil))) (by kernel_rfl) (by kernel_rfl)
    (fun ρ' ds' w' hD => by
      obtain ⟨p0, e0, hD⟩ := dPtr_elim hD; obtain ⟨n1, e1, hD⟩ := dInt_elim hD; obtain ⟨n10, e10, hD⟩ := dInt_elim hD; obtain ⟨l27, e27, hD⟩ := dSl_elim hD; obtain ⟨n28, e28, hD⟩ := dInt_elim hD; obtain ⟨n29, e29, hD⟩ := dInt_elim hD; exact F9_4_ok R p0 n1 n10 l27 n28 n29 ds' w' ρ' e0 e1 e10 e27 e28 e29 hD) h
theorem F9_calls (p0 : Option Addr) (n1 : Int) (s2 : ByteArray) (w : World) (R : Rt) (h : F9_5 R p0 n1 s2 [] w) : Calls Try.prog 9 #[.pointer p0, .int .i64 n1, .string s2] w R :=
  calls_of_L (l := [c9_0, c9_1, c9_2, c9_3, c9_4, c9_5, c9_6, c9_7, c9_8, c9_9]) Try.func9 (by kernel_rfl) (by rw [Try.ntmps9]; exact Nat.le_of_ble_eq_true (by kernel_rfl)) c9_l
    (F9_5_ok R p0 n1 s2 [] w _ rfl rfl rfl h)

/-! function 10: (*cabinetry/disk.System).Disk -/
noncomputable def c10_0 : Code := itemAt (flat (bodyOf Try.f10)) 0
noncomputable def c10_1 : Code := itemAt (flat (bodyOf Try.f10)) 1
noncomputable def c10_2 : Code := itemAt (flat (bodyOf Try.f10)) 2
noncomputable def c10_3 : Code := itemAt (flat (bodyOf Try.f10)) 3
noncomputable def c10_4 : Code := itemAt (flat (bodyOf Try.f10)) 4
noncomputable def c10_5 : Code := itemAt (flat (bodyOf Try.f10)) 5
noncomputable def c10_6 : Code := itemAt (flat (bodyOf Try.f10)) 6
def F10_q1 (R : Rt) : EQ := endQ Try.prog Try.f10.results.toList R
def F10_1 (R : Rt) (p0 : Option Addr) (s1 : ByteArray) (ds : Ds) (w : World) : Prop :=
 Calls Try.prog 15 #[.pointer p0, .int .i64 0, .string s1] w fun e w1 =>
 ∃ v11_0 : Value, ∃ n11_1 : Int, e = .returned (.tuple #[v11_0, .int .i64 n11_1]) ∧
 fnE v11_0 fun fx firstx capx =>
 Br (n11_1 != 0) (
 runD Try.prog ({ target := .fn (.func fx) capx, args := (firstx.toList ++ ([] : List Value)).toArray } :: ds) w1 fun w2 =>
 R (.returned (.tuple #[.slice none 0 0, .int .i64 n11_1])) w2) (
 ptrE p0 fun a3 =>
 ∃ m21 : Option Nat, w1.cell? (a3.add 2) = some (.map m21) ∧
 ∃ l23 : SV, ∃ w4 : World, (Instr.lookup 40 (.map m21) (.string s1) false).run Try.prog w1 = .ok (.slice l23.a l23.len l23.cap) w4 ∧
 Calls Try.prog 21 #[.slice l23.a l23.len l23.cap] w4 fun e w5 =>
 ∃ l24 : SV, e = .returned (.slice l24.a l24.len l24.cap) ∧
 runD Try.prog ({ target := .fn (.func fx) capx, args := (firstx.toList ++ ([] : List Value)).toArray } :: ds) w5 fun w6 =>
 R (.returned (.tuple #[.slice l24.a l24.len l24.cap, .int .i64 0])) w6)
theorem c10_l : flat (bodyOf Try.f10) = [c10_0, c10_1, c10_2, c10_3, c10_4, c10_5, c10_6] := by kernel_rfl
theorem F10_1_ok (R : Rt) (p0 : Option Addr) (s1 : ByteArray) (ds : Ds) (w : World) (ρ : Env) (e0 : ρ 0 = .pointer p0) (e1 : ρ 1 = .string s1) (h : F10_1 R p0 s1 ds w) :
    TrL Try.prog Try.f10.ntmps [c10_0, c10_1, c10_2, c10_3, c10_4, c10_5, c10_6] (F10_q1 R) ρ ds w :=
  TrL_leaf (X := F10_1 R p0 s1 ds w) (setAll_cons e0 (setAll_cons e1 setAll_nil)) (by kernel_rfl) (by kernel_rfl) h
theorem F10_calls (p0 : Option Addr) (s1 : ByteArray) (w : World) (R : Rt) (h : F10_1 R p0 s1 [] w) : Calls Try.prog 10 #[.pointer p0, .string s1] w R :=
  calls_of_L (l := [c10_0, c10_1, c10_2, c10_3, c10_4, c10_5, c10_6]) Try.func10 (by kernel_rfl) (by rw [Try.ntmps10]; exact Nat.le_of_ble_eq_true (by kernel_rfl)) c10_l
    (F10_1_ok R p0 s1 [] w _ rfl rfl h)

/-! function 11: cabinetry/cabinetrylaw19.known -/
noncomputable def c11_0 : Code := itemAt (flat (bodyOf Try.f11)) 0
noncomputable def c11_1 : Code := itemAt (flat (bodyOf Try.f11)) 1
noncomputable def c11_2 : Code := itemAt (flat (bodyOf Try.f11)) 2
noncomputable def c11_3 : Code := itemAt (flat (bodyOf Try.f11)) 3
noncomputable def c11_4 : Code := itemAt (flat (bodyOf Try.f11)) 4
noncomputable def c11_5 : Code := itemAt (flat (bodyOf Try.f11)) 5
noncomputable def c11_6 : Code := itemAt (flat (bodyOf Try.f11)) 6
noncomputable def c11_7 : Code := itemAt (flat (bodyOf Try.f11)) 7
noncomputable def c11_8 : Code := itemAt (flat (bodyOf Try.f11)) 8
noncomputable def c11_9 : Code := itemAt (flat (bodyOf Try.f11)) 9
noncomputable def c11_10 : Code := itemAt (flat (bodyOf Try.f11)) 10
noncomputable def c11_11 : Code := itemAt (flat (bodyOf Try.f11)) 11
def F11_q1 (R : Rt) : EQ := endQ Try.prog Try.f11.results.toList R
def F11_1 (R : Rt) (b0 : Bool) (ds : Ds) (w : World) : Prop :=
 runD Try.prog ds w fun w1 =>
 R (.returned (.bool b0)) w1
def F11_k2 (R : Rt) : EP := (fun ρ ds w => dBl (ρ 0) fun b0 => F11_1 R b0 ds w)
def F11_2 (R : Rt) (n2 : Int) (n3 : Int) (l4 : SV) (n5 : Int) (n6 : Int) (l7 : SV) (n8 : Int) (ds : Ds) (w : World) : Prop :=
 Br (n2 == 1) (
 Br (n3 == 0) (
 Br (n5 == 0) (
 Br (n6 == 0) (
 Br (n8 == 0) (
 ∃ s64 : ByteArray, ∃ w2 : World, (convert 29 9 (.slice l4.a l4.len l4.cap)).run Try.prog w = .ok (.string s64) w2 ∧
 Br (s64.toList == (⟨#[0]⟩ : ByteArray).toList) (
 ∃ s69 : ByteArray, ∃ w3 : World, (convert 29 9 (.slice l7.a l7.len l7.cap)).run Try.prog w2 = .ok (.string s69) w3 ∧
 F11_1 R (s69.toList == (⟨#[7]⟩ : ByteArray).toList) ds w3) (
 F11_1 R false ds w2)) (
 F11_1 R false ds w)) (
 F11_1 R false ds w)) (
 F11_1 R false ds w)) (
 F11_1 R false ds w)) (
 F11_1 R false ds w)
def F11_k3 (R : Rt) : EP := (fun ρ ds w => dInt .i64 (ρ 2) fun n2 => dInt .i64 (ρ 3) fun n3 => dSl (ρ 4) fun l4 => dInt .i64 (ρ 5) fun n5 => dInt .i64 (ρ 6) fun n6 => dSl (ρ 7) fun l7 => dInt .i64 (ρ 8) fun n8 => F11_2 R n2 n3 l4 n5 n6 l7 n8 ds w)
def F11_3 (R : Rt) (p1 : Option Addr) (n2 : Int) (n3 : Int) (l4 : SV) (n5 : Int) (n6 : Int) (ds : Ds) (w : World) : Prop :=
 Calls Try.prog 12 #[.pointer p1, .int .i64 0, .string (⟨#[70]⟩ : ByteArray), .int .i64 0, .int .i64 1] w fun e w4 =>
 ∃ l41_0 : SV, ∃ n41_1 : Int, e = .returned (.tuple #[.slice l41_0.a l41_0.len l41_0.cap, .int .i64 n41_1]) ∧
 F11_2 R n2 n3 l4 n5 n6 l41_0 n41_1 ds w4
def F11_k4 (R : Rt) : EP := (fun ρ ds w => dPtr (ρ 1) fun p1 => dInt .i64 (ρ 2) fun n2 => dInt .i64 (ρ 3) fun n3 => dSl (ρ 4) fun l4 => dInt .i64 (ρ 5) fun n5 => dInt .i64 (ρ 6) fun n6 => F11_3 R p1 n2 n3 l4 n5 n6 ds w)
def F11_4 (R : Rt) (ds : Ds) (w : World) : Prop :=
 Calls Try.prog 5 #[] w fun e w5 =>
 ∃ p9 : Option Addr, e = .returned (.pointer p9) ∧
 ∃ b11 : Bool, ∃ w6 : World, (eqS .eql 23 (.tmp 10) (.const (.pointer none)) (.pointer p9) (.pointer none)).run Try.prog w5 = .ok (.bool b11) w6 ∧
 Br b11 (
 runD Try.prog ds w6 fun w7 =>
 R (.returned (.bool false)) w7) (
 Calls Try.prog 6 #[.pointer p9, .string (⟨#[70]⟩ : ByteArray)] w6 fun e w8 =>
 ∃ n14 : Int, e = .returned (.int .i64 n14) ∧
 Br (n14 != 0) (
 runD Try.prog ds w8 fun w9 =>
 R (.returned (.bool false)) w9) (
 Calls Try.prog 7 #[.pointer p9, .string (⟨#[70]⟩ : ByteArray), .int .i64 4] w8 fun e w10 =>
 ∃ n19 : Int, e = .returned (.int .i64 n19) ∧
 Br (n19 != 0) (
 runD Try.prog ds w10 fun w11 =>
 R (.returned (.bool false)) w11) (
 Calls Try.prog 12 #[.pointer p9, .int .i64 0, .string (⟨#[70]⟩ : ByteArray), .int .i64 0, .int .i64 1] w10 fun e w12 =>
 ∃ l23_0 : SV, ∃ n23_1 : Int, e = .returned (.tuple #[.slice l23_0.a l23_0.len l23_0.cap, .int .i64 n23_1]) ∧
 alE (.cells #[.int .u8 7] 5) w12 fun r25 w13 =>
 Calls Try.prog 8 #[.pointer p9, .int .i64 1, .string (⟨#[70]⟩ : ByteArray), .int .i64 0, .slice (some ⟨r25, 0, none⟩) 1 1] w13 fun e w14 =>
 ∃ n26 : Int, e = .returned (.int .i64 n26) ∧
 Calls Try.prog 9 #[.pointer p9, .int .i64 1, .string (⟨#[70]⟩ : ByteArray)] w14 fun e w15 =>
 ∃ n29_0 : Int, ∃ n29_1 : Int, e = .returned (.tuple #[.int .i64 n29_0, .int .i64 n29_1]) ∧
 Calls Try.prog 12 #[.pointer p9, .int .i64 0, .string (⟨#[70]⟩ : ByteArray), .int .i64 0, .int .i64 1] w15 fun e w16 =>
 ∃ l34_0 : SV, ∃ n34_1 : Int, e = .returned (.tuple #[.slice l34_0.a l34_0.len l34_0.cap, .int .i64 n34_1]) ∧
 Calls Try.prog 13 #[.pointer p9, .int .i64 0, .string (⟨#[70]⟩ : ByteArray), .int .i64 0, .int .i64 1] w16 fun e w17 =>
 ∃ n38 : Int, e = .returned (.int .i64 n38) ∧
 F11_3 R p9 n29_0 n29_1 l34_0 n34_1 n38 ds w17)))
theorem c11_l : flat (bodyOf Try.f11) = [c11_0, c11_1, c11_2, c11_3, c11_4, c11_5, c11_6, c11_7, c11_8, c11_9, c11_10, c11_11] := by kernel_rfl
theorem F11_1_ok (R : Rt) (b0 : Bool) (ds : Ds) (w : World) (ρ : Env) (e0 : ρ 0 = .bool b0) (h : F11_1 R b0 ds w) :
    TrL Try.prog Try.f11.ntmps [c11_11] (F11_q1 R) ρ ds w :=
  TrL_leaf (X := F11_1 R b0 ds w) (setAll_cons e0 setAll_nil) (by kernel_rfl) (by kernel_rfl) h
theorem F11_2_ok (R : Rt) (n2 : Int) (n3 : Int) (l4 : SV) (n5 : Int) (n6 : Int) (l7 : SV) (n8 : Int) (ds : Ds) (w : World) (ρ : Env) (e2 : ρ 2 = .int .i64 n2) (e3 : ρ 3 = .int .i64 n3) (e4 : ρ 4 = .slice l4.a l4.len l4.cap) (e5 : ρ 5 = .int .i64 n5) (e6 : ρ 6 = .int .i64 n6) (e7 : ρ 7 = .slice l7.a l7.len l7.cap) (e8 : ρ 8 = .int .i64 n8) (h : F11_2 R n2 n3 l4 n5 n6 l7 n8 ds w) :
    TrL Try.prog Try.f11.ntmps [c11_10, c11_11] (F11_q1 R) ρ ds w :=
  TrL_piece (pre := [c11_10]) (K := (F11_k2 R)) (X := F11_2 R n2 n3 l4 n5 n6 l7 n8 ds w) (setAll_cons e2 (setAll_cons e3 (setAll_cons e4 (setAll_cons e5 (setAll_cons e6 (setAll_cons e7 (setAll_cons e8 setAll_nil))))))) (by kernel_rfl) (by kernel_rfl)
    (fun ρ' ds' w' hD => by
      obtain ⟨b0, e0, hD⟩ := dBl_elim hD; exact F11_1_ok R b0 ds' w' ρ' e0 hD) h
theorem F11_3_ok (R : Rt) (p1 : Option Addr) (n2 : Int) (n3 : Int) (l4 : SV) (n5 : Int) (n6 : Int) (ds : Ds) (w : World) (ρ : Env) (e1 : ρ 1 = .pointer p1) (e2 : ρ 2 = .int .i64 n2) (e3 : ρ 3 = .int .i64 n3) (e4 : ρ 4 = .slice l4.a l4.len l4.cap) (e5 : ρ 5 = .int .i64 n5) (e6 : ρ 6 = .int .i64 n6) (h : F11_3 R p1 n2 n3 l4 n5 n6 ds w) :
    TrL Try.prog Try.f11.ntmps [c11_9, c11_10, c11_11] (F11_q1 R) ρ ds w :=
  TrL_piece (pre := [c11_9]) (K := (F11_k3 R)) (X := F11_3 R p1 n2 n3 l4 n5 n6 ds w) (setAll_cons e1 (setAll_cons e2 (setAll_cons e3 (setAll_cons e4 (setAll_cons e5 (setAll_cons e6 setAll_nil)))))) (by kernel_rfl) (by kernel_rfl)
    (fun ρ' ds' w' hD => by
      obtain ⟨n2, e2, hD⟩ := dInt_elim hD; obtain ⟨n3, e3, hD⟩ := dInt_elim hD; obtain ⟨l4, e4, hD⟩ := dSl_elim hD; obtain ⟨n5, e5, hD⟩ := dInt_elim hD; obtain ⟨n6, e6, hD⟩ := dInt_elim hD; obtain ⟨l7, e7, hD⟩ := dSl_elim hD; obtain ⟨n8, e8, hD⟩ := dInt_elim hD; exact F11_2_ok R n2 n3 l4 n5 n6 l7 n8 ds' w' ρ' e2 e3 e4 e5 e6 e7 e8 hD) h
theorem F11_4_ok (R : Rt) (ds : Ds) (w : World) (ρ : Env) (h : F11_4 R ds w) :
    TrL Try.prog Try.f11.ntmps [c11_0, c11_1, c11_2, c11_3, c11_4, c11_5, c11_6, c11_7, c11_8, c11_9, c11_10, c11_11] (F11_q1 R) ρ ds w :=
  TrL_piece (pre := [c11_0, c11_1, c11_2, c11_3, c11_4, c11_5, c11_6, c11_7, c11_8]) (K := (F11_k4 R)) (X := F11_4 R ds w) setAll_nil (by kernel_rfl) (by kernel_rfl)
    (fun ρ' ds' w' hD => by
      obtain ⟨p1, e1, hD⟩ := dPtr_elim hD; obtain ⟨n2, e2, hD⟩ := dInt_elim hD; obtain ⟨n3, e3, hD⟩ := dInt_elim hD; obtain ⟨l4, e4, hD⟩ := dSl_elim hD; obtain ⟨n5, e5, hD⟩ := dInt_elim hD; obtain ⟨n6, e6, hD⟩ := dInt_elim hD; exact F11_3_ok R p1 n2 n3 l4 n5 n6 ds' w' ρ' e1 e2 e3 e4 e5 e6 hD) h
theorem F11_calls  (w : World) (R : Rt) (h : F11_4 R [] w) : Calls Try.prog 11 #[] w R :=
  calls_of_L (l := [c11_0, c11_1, c11_2, c11_3, c11_4, c11_5, c11_6, c11_7, c11_8, c11_9, c11_10, c11_11]) Try.func11 (by kernel_rfl) (by rw [Try.ntmps11]; exact Nat.le_of_ble_eq_true (by kernel_rfl)) c11_l
    (F11_4_ok R [] w _  h)
theorem F11_callsD  (w : World) (R : Rt) (u : FrameMode) (h : F11_4 R [] w) : CallsD Try.prog 11 #[] u w fun e u' w' => u' = u ∧ R e w' :=
  callsD_of_L (l := [c11_0, c11_1, c11_2, c11_3, c11_4, c11_5, c11_6, c11_7, c11_8, c11_9, c11_10, c11_11]) Try.func11 (by kernel_rfl) (by rw [Try.ntmps11]; exact Nat.le_of_ble_eq_true (by kernel_rfl)) (by kernel_rfl) c11_l
    (F11_4_ok R [] w _  h) u

/-! function 12: (*cabinetry/disk.System).Read -/
noncomputable def c12_0 : Code := itemAt (flat (bodyOf Try.f12)) 0
noncomputable def c12_1 : Code := itemAt (flat (bodyOf Try.f12)) 1
noncomputable def c12_2 : Code := itemAt (flat (bodyOf Try.f12)) 2
noncomputable def c12_3 : Code := itemAt (flat (bodyOf Try.f12)) 3
noncomputable def c12_4 : Code := itemAt (flat (bodyOf Try.f12)) 4
noncomputable def c12_5 : Code := itemAt (flat (bodyOf Try.f12)) 5
noncomputable def c12_6 : Code := itemAt (flat (bodyOf Try.f12)) 6
noncomputable def c12_7 : Code := itemAt (flat (bodyOf Try.f12)) 7
noncomputable def c12_8 : Code := itemAt (flat (bodyOf Try.f12)) 8
noncomputable def c12_9 : Code := itemAt (flat (bodyOf Try.f12)) 9
noncomputable def c12_10 : Code := itemAt (flat (bodyOf Try.f12)) 10
def F12_q1 (R : Rt) : EQ := endQ Try.prog Try.f12.results.toList R
def F12_1 (R : Rt) (p0 : Option Addr) (n1 : Int) (s2 : ByteArray) (n3 : Int) (n4 : Int) (ds : Ds) (w : World) : Prop :=
 Calls Try.prog 15 #[.pointer p0, .int .i64 n1, .string s2] w fun e w1 =>
 ∃ v19_0 : Value, ∃ n19_1 : Int, e = .returned (.tuple #[v19_0, .int .i64 n19_1]) ∧
 fnE v19_0 fun fx firstx capx =>
 Br (n19_1 != 0) (
 runD Try.prog ({ target := .fn (.func fx) capx, args := (firstx.toList ++ ([] : List Value)).toArray } :: ds) w1 fun w2 =>
 R (.returned (.tuple #[.slice none 0 0, .int .i64 n19_1])) w2) (
 Br (decide (n3 < 0)) (
 runD Try.prog ({ target := .fn (.func fx) capx, args := (firstx.toList ++ ([] : List Value)).toArray } :: ds) w1 fun w3 =>
 R (.returned (.tuple #[.slice none 0 0, .int .i64 1])) w3) (
 Br (decide (n4 < 0)) (
 runD Try.prog ({ target := .fn (.func fx) capx, args := (firstx.toList ++ ([] : List Value)).toArray } :: ds) w1 fun w4 =>
 R (.returned (.tuple #[.slice none 0 0, .int .i64 1])) w4) (
 ptrE p0 fun a5 =>
 ∃ m37 : Option Nat, w1.cell? (a5.add 2) = some (.map m37) ∧
 ∃ l39 : SV, ∃ w6 : World, (Instr.lookup 40 (.map m37) (.string s2) false).run Try.prog w1 = .ok (.slice l39.a l39.len l39.cap) w6 ∧
 Br (decide (n3 > ((l39.len : Nat) : Int))) (
 runD Try.prog ({ target := .fn (.func fx) capx, args := (firstx.toList ++ ([] : List Value)).toArray } :: ds) w6 fun w7 =>
 R (.returned (.tuple #[.slice none 0 0, .int .i64 1])) w7) (
 ptrE p0 fun a8 =>
 ∃ m48 : Option Nat, w6.cell? (a8.add 2) = some (.map m48) ∧
 ∃ l50 : SV, ∃ w9 : World, (Instr.lookup 40 (.map m48) (.string s2) false).run Try.prog w6 = .ok (.slice l50.a l50.len l50.cap) w9 ∧
 Br (decide (n4 > (IntKind.i64.wrap (((l50.len : Nat) : Int) - n3)))) (
 runD Try.prog ({ target := .fn (.func fx) capx, args := (firstx.toList ++ ([] : List Value)).toArray } :: ds) w9 fun w10 =>
 R (.returned (.tuple #[.slice none 0 0, .int .i64 1])) w10) (
 ∃ l57 : SV, ∃ w11 : World, (Instr.makeSlice 29 (.int .i64 n4) (.int .i64 n4)).run Try.prog w9 = .ok (.slice l57.a l57.len l57.cap) w11 ∧
 alE (.cells #[.slice none 0 0] 29) w11 fun r14 w12 =>
 st1 (⟨r14, 0, none⟩ : Addr) (.slice l57.a l57.len l57.cap) w12 fun w13 =>
 Calls Try.prog 17 #[.pointer p0, .int .i64 n1, .string s2, .int .i64 n3, .int .i64 n4, .func (.func 22) #[] #[.pointer (some (⟨r14, 0, none⟩ : Addr))]] w13 fun e w14 =>
 e = .returned (.tuple #[]) ∧
 ∃ l65 : SV, w14.cell? (⟨r14, 0, none⟩ : Addr) = some (.slice l65.a l65.len l65.cap) ∧
 runD Try.prog ({ target := .fn (.func fx) capx, args := (firstx.toList ++ ([] : List Value)).toArray } :: ds) w14 fun w15 =>
 R (.returned (.tuple #[.slice l65.a l65.len l65.cap, .int .i64 0])) w15)))))
theorem c12_l : flat (bodyOf Try.f12) = [c12_0, c12_1, c12_2, c12_3, c12_4, c12_5, c12_6, c12_7, c12_8, c12_9, c12_10] := by kernel_rfl
theorem F12_1_ok (R : Rt) (p0 : Option Addr) (n1 : Int) (s2 : ByteArray) (n3 : Int) (n4 : Int) (ds : Ds) (w : World) (ρ : Env) (e0 : ρ 0 = .pointer p0) (e1 : ρ 1 = .int .i64 n1) (e2 : ρ 2 = .string s2) (e3 : ρ 3 = .int .i64 n3) (e4 : ρ 4 = .int .i64 n4) (h : F12_1 R p0 n1 s2 n3 n4 ds w) :
    TrL Try.prog Try.f12.ntmps [c12_0, c12_1, c12_2, c12_3, c12_4, c12_5, c12_6, c12_7, c12_8, c12_9, c12_10] (F12_q1 R) ρ ds w :=
  TrL_leaf (X := F12_1 R p0 n1 s2 n3 n4 ds w) (setAll_cons e0 (setAll_cons e1 (setAll_cons e2 (setAll_cons e3 (setAll_cons e4 setAll_nil))))) (by kernel_rfl) (by kernel_rfl) h
theorem F12_calls (p0 : Option Addr) (n1 : Int) (s2 : ByteArray) (n3 : Int) (n4 : Int) (w : World) (R : Rt) (h : F12_1 R p0 n1 s2 n3 n4 [] w) : Calls Try.prog 12 #[.pointer p0, .int .i64 n1, .string s2, .int .i64 n3, .int .i64 n4] w R :=
  calls_of_L (l := [c12_0, c12_1, c12_2, c12_3, c12_4, c12_5, c12_6, c12_7, c12_8, c12_9, c12_10]) Try.func12 (by kernel_rfl) (by rw [Try.ntmps12]; exact Nat.le_of_ble_eq_true (by kernel_rfl)) c12_l
    (F12_1_ok R p0 n1 s2 n3 n4 [] w _ rfl rfl rfl rfl rfl h)

/-! function 13: (*cabinetry/disk.System).Lock -/
noncomputable def c13_0 : Code := itemAt (flat (bodyOf Try.f13)) 0
noncomputable def c13_1 : Code := itemAt (flat (bodyOf Try.f13)) 1
noncomputable def c13_2 : Code := itemAt (flat (bodyOf Try.f13)) 2
noncomputable def c13_3 : Code := itemAt (flat (bodyOf Try.f13)) 3
noncomputable def c13_4 : Code := itemAt (flat (bodyOf Try.f13)) 4
noncomputable def c13_5 : Code := itemAt (flat (bodyOf Try.f13)) 5
noncomputable def c13_6 : Code := itemAt (flat (bodyOf Try.f13)) 6
noncomputable def c13_7 : Code := itemAt (flat (bodyOf Try.f13)) 7
noncomputable def c13_8 : Code := itemAt (flat (bodyOf Try.f13)) 8
noncomputable def c13_9 : Code := itemAt (flat (bodyOf Try.f13)) 9
noncomputable def c13_10 : Code := itemAt (flat (bodyOf Try.f13)) 10
noncomputable def c13_11 : Code := itemAt (flat (bodyOf Try.f13)) 11
noncomputable def c13_12 : Code := itemAt (flat (bodyOf Try.f13)) 12
noncomputable def c13_13 : Code := itemAt (flat (bodyOf Try.f13)) 13
noncomputable def c13_14 : Code := itemAt (flat (bodyOf Try.f13)) 14
noncomputable def c13_15 : Code := itemAt (flat (bodyOf Try.f13)) 15
noncomputable def c13_16 : Code := itemAt (flat (bodyOf Try.f13)) 16
noncomputable def c13_14_0 : Code := itemAt (flat (innerC c13_14)) 0
noncomputable def c13_14_0_0 : Code := itemAt (flat (innerC c13_14_0)) 0
noncomputable def c13_14_0_1 : Code := itemAt (flat (innerC c13_14_0)) 1
noncomputable def c13_14_0_2 : Code := itemAt (flat (innerC c13_14_0)) 2
noncomputable def c13_14_0_3 : Code := itemAt (flat (innerC c13_14_0)) 3
noncomputable def c13_14_0_2_0 : Code := itemAt (flat (innerC c13_14_0_2)) 0
noncomputable def c13_14_0_2_1 : Code := itemAt (flat (innerC c13_14_0_2)) 1
noncomputable def c13_14_0_2_2 : Code := itemAt (flat (innerC c13_14_0_2)) 2
noncomputable def c13_14_0_2_3 : Code := itemAt (flat (innerC c13_14_0_2)) 3
noncomputable def c13_14_0_2_4 : Code := itemAt (flat (innerC c13_14_0_2)) 4
noncomputable def c13_14_0_2_3_0 : Code := itemAt (flat (innerC c13_14_0_2_3)) 0
noncomputable def c13_14_0_2_3_0_0 : Code := itemAt (flat (innerC c13_14_0_2_3_0)) 0
noncomputable def c13_14_0_2_3_0_1 : Code := itemAt (flat (innerC c13_14_0_2_3_0)) 1
noncomputable def c13_14_0_2_3_0_2 : Code := itemAt (flat (innerC c13_14_0_2_3_0)) 2
noncomputable def c13_14_0_2_3_0_3 : Code := itemAt (flat (innerC c13_14_0_2_3_0)) 3
def F13_q1 (R : Rt) : EQ := endQ Try.prog Try.f13.results.toList R
def F13_1 (R : Rt) (ds : Ds) (w : World) : Prop :=
 runD Try.prog ds w fun w1 =>
 R (.returned (.int .i64 0)) w1
def F13_k2 (R : Rt) : EP := (fun ρ ds w => F13_1 R ds w)
def F13_q3 (R : Rt) : EQ := (thenQ (F13_k2 R) (F13_q1 R))
def F13_q4 (R : Rt) : EQ := (blockQ 0 (F13_q3 R))
def F13_q5 (R : Rt) (J1 : (Int) → World → Prop) : EQ := (thenQ (fun ρ _ w => dInt .i64 (ρ 79) fun n79 => J1 n79 w) (F13_q4 R))
def F13_2 (R : Rt) (J1 : (Int) → World → Prop) (p0 : Option Addr) (p6 : Option Addr) (p7 : Option Addr) (l77 : SV) (n78 : Int) (n79 : Int) (ds : Ds) (w : World) : Prop :=
 J1 (IntKind.i64.wrap (n79 + 1)) w
def F13_k6 (R : Rt) (J1 : (Int) → World → Prop) : EP := (fun ρ ds w => dPtr (ρ 0) fun p0 => dPtr (ρ 6) fun p6 => dPtr (ρ 7) fun p7 => dSl (ρ 77) fun l77 => dInt .i64 (ρ 78) fun n78 => dInt .i64 (ρ 79) fun n79 => F13_2 R J1 p0 p6 p7 l77 n78 n79 ds w)
def F13_q7 (R : Rt) (J1 : (Int) → World → Prop) : EQ := (thenQ (F13_k6 R J1) (F13_q5 R J1))
def F13_q8 (R : Rt) (J1 : (Int) → World → Prop) : EQ := (blockQ 1 (F13_q7 R J1))
def F13_3 (R : Rt) (J1 : (Int) → World → Prop) (p0 : Option Addr) (p6 : Option Addr) (p7 : Option Addr) (p15 : Option Addr) (p16 : Option Addr) (l77 : SV) (n78 : Int) (n79 : Int) (ds : Ds) (w : World) : Prop :=
 dwE w fun w2 =>
 ptrE p6 fun a3 =>
 ∃ n123 : Int, w2.cell? a3 = some (.int .i64 n123) ∧
 ptrE p0 fun a4 =>
 0 ≤ n123 ∧ n123 < ((4 : Nat) : Int) ∧
 ∃ m127 : Option Nat, w2.cell? ((a4.add 3).add (n123.toNat * 1)) = some (.map m127) ∧
 ptrE p15 fun a5 =>
 ∃ s128_0 : ByteArray, w2.cell? (a5.add 0) = some (.string s128_0) ∧
 ∃ n128_1 : Int, w2.cell? (a5.add 1) = some (.int .i64 n128_1) ∧
 ptrE p16 fun a6 =>
 ∃ c129 : Array Value, c129.size = 96 ∧ (∀ i, i < 96 → w2.cell? (a6.add i) = c129[i]?) ∧
 doE Try.prog (Instr.mapUpdate 48 (.map m127) (.agg #[.string s128_0, .int .i64 n128_1]) (.agg c129)) w2 fun w7 =>
 F13_2 R J1 p0 p6 p7 l77 n78 n79 ds w7
def F13_k9 (R : Rt) (J1 : (Int) → World → Prop) : EP := (fun ρ ds w => dPtr (ρ 0) fun p0 => dPtr (ρ 6) fun p6 => dPtr (ρ 7) fun p7 => dPtr (ρ 15) fun p15 => dPtr (ρ 16) fun p16 => dSl (ρ 77) fun l77 => dInt .i64 (ρ 78) fun n78 => dInt .i64 (ρ 79) fun n79 => F13_3 R J1 p0 p6 p7 p15 p16 l77 n78 n79 ds w)
def F13_q10 (R : Rt) (J1 : (Int) → World → Prop) : EQ := (thenQ (F13_k9 R J1) (F13_q8 R J1))
def F13_q11 (R : Rt) (J1 : (Int) → World → Prop) : EQ := (blockQ 2 (F13_q10 R J1))
def F13_q12 (R : Rt) (J1 : (Int) → World → Prop) (J2 : (Int) → World → Prop) : EQ := (thenQ (fun ρ _ w => dInt .i64 (ρ 91) fun n91 => J2 n91 w) (F13_q11 R J1))
def F13_4 (R : Rt) (J1 : (Int) → World → Prop) (J2 : (Int) → World → Prop) (p0 : Option Addr) (p6 : Option Addr) (p7 : Option Addr) (p15 : Option Addr) (p16 : Option Addr) (l77 : SV) (n78 : Int) (n79 : Int) (n91 : Int) (ds : Ds) (w : World) : Prop :=
 Br (decide (n91 < 32)) (
 ptrE p16 fun a8 =>
 0 ≤ n91 ∧ n91 < ((32 : Nat) : Int) ∧
 ∃ b97 : Bool, w.cell? ((a8.add 32).add (n91.toNat * 1)) = some (.bool b97) ∧
 Br b97 (
 ptrE p16 fun a9 =>
 0 ≤ n91 ∧ n91 < ((32 : Nat) : Int) ∧
 ∃ b102 : Bool, w.cell? ((a9.add 64).add (n91.toNat * 1)) = some (.bool b102) ∧
 Br (!b102) (
 dwE w fun w10 =>
 ptrE p0 fun a11 =>
 ∃ m109 : Option Nat, w10.cell? (a11.add 2) = some (.map m109) ∧
 ptrE p7 fun a12 =>
 ∃ s110 : ByteArray, w10.cell? a12 = some (.string s110) ∧
 ∃ l111 : SV, (Instr.lookup 40 (.map m109) (.string s110) false).run Try.prog w10 = .ok (.slice l111.a l111.len l111.cap) w10 ∧
 ptrE p15 fun a13 =>
 ∃ n113 : Int, w10.cell? (a13.add 1) = some (.int .i64 n113) ∧
 ∃ a14 : Addr, l111.a = some a14 ∧ 0 ≤ (IntKind.i64.wrap ((IntKind.i64.wrap (n113 * 32)) + n91)) ∧ (IntKind.i64.wrap ((IntKind.i64.wrap (n113 * 32)) + n91)) < ((l111.len : Nat) : Int) ∧
 ∃ n118 : Int, w10.cell? (a14.add ((IntKind.i64.wrap ((IntKind.i64.wrap (n113 * 32)) + n91)).toNat * 1)) = some (.int .u8 n118) ∧
 ptrE p16 fun a15 =>
 0 ≤ n91 ∧ n91 < ((32 : Nat) : Int) ∧
 st1 (a15.add (n91.toNat * 1)) (.int .u8 n118) w10 fun w16 =>
 J2 (IntKind.i64.wrap (n91 + 1)) w16) (
 J2 (IntKind.i64.wrap (n91 + 1)) w)) (
 J2 (IntKind.i64.wrap (n91 + 1)) w)) (
 F13_3 R J1 p0 p6 p7 p15 p16 l77 n78 n79 ds w)
def F13_5 (R : Rt) (J1 : (Int) → World → Prop) (p0 : Option Addr) (p6 : Option Addr) (p7 : Option Addr) (p15 : Option Addr) (p16 : Option Addr) (l77 : SV) (n78 : Int) (n79 : Int) (n91 : Int) (ds : Ds) (w : World) : Prop :=
 loopT (fun (J2 : (Int) → World → Prop) (s : Int) (w : World) => F13_4 R J1 J2 p0 p6 p7 p15 p16 l77 n78 n79 s ds w) n91 w
@[reducible] def F13_6 (R : Rt) (J1 : (Int) → World → Prop) (p0 : Option Addr) (p6 : Option Addr) (p7 : Option Addr) (p15 : Option Addr) (p16 : Option Addr) (l77 : SV) (n78 : Int) (n79 : Int) (n91 : Int) (ds : Ds) (w : World) : Prop := F13_5 R J1 p0 p6 p7 p15 p16 l77 n78 n79 n91 ds w
def F13_k13 (R : Rt) (J1 : (Int) → World → Prop) : EP := (fun ρ ds w => dPtr (ρ 0) fun p0 => dPtr (ρ 6) fun p6 => dPtr (ρ 7) fun p7 => dPtr (ρ 15) fun p15 => dPtr (ρ 16) fun p16 => dSl (ρ 77) fun l77 => dInt .i64 (ρ 78) fun n78 => dInt .i64 (ρ 79) fun n79 => dInt .i64 (ρ 91) fun n91 => F13_6 R J1 p0 p6 p7 p15 p16 l77 n78 n79 n91 ds w)
def F13_7 (R : Rt) (J1 : (Int) → World → Prop) (p0 : Option Addr) (p6 : Option Addr) (p7 : Option Addr) (l77 : SV) (n78 : Int) (n79 : Int) (ds : Ds) (w : World) : Prop :=
 ∃ a17 : Addr, l77.a = some a17 ∧ 0 ≤ n79 ∧ n79 < ((l77.len : Nat) : Int) ∧
 ∃ s82_0 : ByteArray, w.cell? ((a17.add (n79.toNat * 2)).add 0) = some (.string s82_0) ∧
 ∃ n82_1 : Int, w.cell? ((a17.add (n79.toNat * 2)).add 1) = some (.int .i64 n82_1) ∧
 alE (.cells #[.string (⟨#[]⟩ : ByteArray), .int .i64 0] 66) w fun r15 w18 =>
 stA Try.prog 66 (⟨r15, 0, none⟩ : Addr) #[.string s82_0, .int .i64 n82_1] w18 fun w19 =>
 dwE w19 fun w20 =>
 ∃ S3 : World → Prop, S3 w20 ∧
 ptrE p6 fun a21 =>
 ∃ n84 : Int, (∀ w', S3 w' → w'.cell? a21 = some (.int .i64 n84)) ∧
 ptrE p0 fun a22 =>
 0 ≤ n84 ∧ n84 < ((4 : Nat) : Int) ∧
 ∃ m88 : Option Nat, (∀ w', S3 w' → w'.cell? ((a22.add 3).add (n84.toNat * 1)) = some (.map m88)) ∧
 ∃ s89_0 : ByteArray, (∀ w', S3 w' → w'.cell? ((⟨r15, 0, none⟩ : Addr).add 0) = some (.string s89_0)) ∧
 ∃ n89_1 : Int, (∀ w', S3 w' → w'.cell? ((⟨r15, 0, none⟩ : Addr).add 1) = some (.int .i64 n89_1)) ∧
 ∃ c90 : Array Value, c90.size = 96 ∧ (∀ w', S3 w' → (Instr.lookup 48 (.map m88) (.agg #[.string s89_0, .int .i64 n89_1]) false).run Try.prog w' = .ok (.agg c90) w') ∧
 alE (.cells (zc Try.prog 61) 61) w20 fun r16 w23 =>
 S3 w23 ∧
 stA Try.prog 61 (⟨r16, 0, none⟩ : Addr) c90 w23 fun w24 =>
 F13_6 R J1 p0 p6 p7 (some (⟨r15, 0, none⟩ : Addr)) (some (⟨r16, 0, none⟩ : Addr)) l77 n78 n79 0 ds w24
@[reducible] def F13_8 (R : Rt) (J1 : (Int) → World → Prop) (p0 : Option Addr) (p6 : Option Addr) (p7 : Option Addr) (l77 : SV) (n78 : Int) (n79 : Int) (ds : Ds) (w : World) : Prop := F13_7 R J1 p0 p6 p7 l77 n78 n79 ds w
def F13_k14 (R : Rt) (J1 : (Int) → World → Prop) : EP := (fun ρ ds w => dPtr (ρ 0) fun p0 => dPtr (ρ 6) fun p6 => dPtr (ρ 7) fun p7 => dSl (ρ 77) fun l77 => dInt .i64 (ρ 78) fun n78 => dInt .i64 (ρ 79) fun n79 => F13_8 R J1 p0 p6 p7 l77 n78 n79 ds w)
def F13_9 (R : Rt) (J1 : (Int) → World → Prop) (p0 : Option Addr) (p6 : Option Addr) (p7 : Option Addr) (l77 : SV) (n78 : Int) (n79 : Int) (ds : Ds) (w : World) : Prop :=
 Br (decide (n79 < n78)) (
 F13_8 R J1 p0 p6 p7 l77 n78 n79 ds w) (
 F13_1 R ds w)
def F13_10 (R : Rt) (p0 : Option Addr) (p6 : Option Addr) (p7 : Option Addr) (l77 : SV) (n78 : Int) (n79 : Int) (ds : Ds) (w : World) : Prop :=
 loopT (fun (J1 : (Int) → World → Prop) (s : Int) (w : World) => F13_9 R J1 p0 p6 p7 l77 n78 s ds w) n79 w
@[reducible] def F13_11 (R : Rt) (p0 : Option Addr) (p6 : Option Addr) (p7 : Option Addr) (l77 : SV) (n78 : Int) (n79 : Int) (ds : Ds) (w : World) : Prop := F13_10 R p0 p6 p7 l77 n78 n79 ds w
def F13_k15 (R : Rt) : EP := (fun ρ ds w => dPtr (ρ 0) fun p0 => dPtr (ρ 6) fun p6 => dPtr (ρ 7) fun p7 => dSl (ρ 77) fun l77 => dInt .i64 (ρ 78) fun n78 => dInt .i64 (ρ 79) fun n79 => F13_11 R p0 p6 p7 l77 n78 n79 ds w)
def F13_12 (R : Rt) (p0 : Option Addr) (p6 : Option Addr) (p7 : Option Addr) (p8 : Option Addr) (p9 : Option Addr) (p13 : Option Addr) (ds : Ds) (w : World) : Prop :=
 dwE w fun w25 =>
 ptrE p0 fun a26 =>
 ∃ l55 : SV, w25.cell? (a26.add 7) = some (.slice l55.a l55.len l55.cap) ∧
 ptrE p13 fun a27 =>
 ∃ v56 : Value, w25.cell? a27 = some (v56) ∧
 Calls Try.prog 25 #[.slice l55.a l55.len l55.cap, v56] w25 fun e w28 =>
 ∃ b57 : Bool, e = .returned (.bool b57) ∧
 Br b57 (
 runD Try.prog ds w28 fun w29 =>
 R (.returned (.int .i64 12)) w29) (
 dwE w28 fun w30 =>
 ∃ S5 : World → Prop, S5 w30 ∧
 ptrE p0 fun a31 =>
 ∃ l62 : SV, (∀ w', S5 w' → w'.cell? (a31.add 7) = some (.slice l62.a l62.len l62.cap)) ∧
 ptrE p6 fun a32 =>
 ∃ n63 : Int, (∀ w', S5 w' → w'.cell? a32 = some (.int .i64 n63)) ∧
 ptrE p7 fun a33 =>
 ∃ s64 : ByteArray, (∀ w', S5 w' → w'.cell? a33 = some (.string s64)) ∧
 ptrE p8 fun a34 =>
 ∃ n65 : Int, (∀ w', S5 w' → w'.cell? a34 = some (.int .i64 n65)) ∧
 ptrE p9 fun a35 =>
 ∃ n66 : Int, (∀ w', S5 w' → w'.cell? a35 = some (.int .i64 n66)) ∧
 alE (.cells #[.int .i64 n63, .string s64, .int .i64 n65, .int .i64 n66] 70) w30 fun r68 w36 =>
 S5 w36 ∧
 ∃ l69 : SV, ∃ w37 : World, (Builtin.append_ #[50, 50] 50 #[.slice l62.a l62.len l62.cap, .slice (some ⟨r68, 0, none⟩) 1 1]).run Try.prog w36 = .ok (.slice l69.a l69.len l69.cap) w37 ∧
 ptrE p0 fun a38 =>
 st1 (a38.add 7) (.slice l69.a l69.len l69.cap) w37 fun w39 =>
 ptrE p6 fun a40 =>
 ∃ n73 : Int, w39.cell? a40 = some (.int .i64 n73) ∧
 ptrE p7 fun a41 =>
 ∃ s74 : ByteArray, w39.cell? a41 = some (.string s74) ∧
 ptrE p8 fun a42 =>
 ∃ n75 : Int, w39.cell? a42 = some (.int .i64 n75) ∧
 ptrE p9 fun a43 =>
 ∃ n76 : Int, w39.cell? a43 = some (.int .i64 n76) ∧
 Calls Try.prog 19 #[.pointer p0, .int .i64 n73, .string s74, .int .i64 n75, .int .i64 n76] w39 fun e w44 =>
 ∃ l77 : SV, e = .returned (.slice l77.a l77.len l77.cap) ∧
 F13_11 R p0 p6 p7 l77 ((l77.len : Nat) : Int) 0 ds w44)
def F13_k16 (R : Rt) : EP := (fun ρ ds w => dPtr (ρ 0) fun p0 => dPtr (ρ 6) fun p6 => dPtr (ρ 7) fun p7 => dPtr (ρ 8) fun p8 => dPtr (ρ 9) fun p9 => dPtr (ρ 13) fun p13 => F13_12 R p0 p6 p7 p8 p9 p13 ds w)
def F13_13 (R : Rt) (p0 : Option Addr) (n1 : Int) (s2 : ByteArray) (n3 : Int) (n4 : Int) (ds : Ds) (w : World) : Prop :=
 alE (.cells #[.int .i64 n1] 3) w fun r6 w45 =>
 alE (.cells #[.string s2] 9) w45 fun r7 w46 =>
 alE (.cells #[.int .i64 n3] 3) w46 fun r8 w47 =>
 alE (.cells #[.int .i64 n4] 3) w47 fun r9 w48 =>
 ∃ n20 : Int, w48.cell? (⟨r6, 0, none⟩ : Addr) = some (.int .i64 n20) ∧
 ∃ s21 : ByteArray, w48.cell? (⟨r7, 0, none⟩ : Addr) = some (.string s21) ∧
 Calls Try.prog 15 #[.pointer p0, .int .i64 n20, .string s21] w48 fun e w49 =>
 ∃ v22_0 : Value, ∃ n22_1 : Int, e = .returned (.tuple #[v22_0, .int .i64 n22_1]) ∧
 fnE v22_0 fun fx firstx capx =>
 Br (n22_1 != 0) (
 runD Try.prog ({ target := .fn (.func fx) capx, args := (firstx.toList ++ ([] : List Value)).toArray } :: ds) w49 fun w50 =>
 R (.returned (.int .i64 n22_1)) w50) (
 ∃ n29 : Int, w49.cell? (⟨r8, 0, none⟩ : Addr) = some (.int .i64 n29) ∧
 Br (decide (n29 < 0)) (
 runD Try.prog ({ target := .fn (.func fx) capx, args := (firstx.toList ++ ([] : List Value)).toArray } :: ds) w49 fun w51 =>
 R (.returned (.int .i64 1)) w51) (
 ∃ n32 : Int, w49.cell? (⟨r9, 0, none⟩ : Addr) = some (.int .i64 n32) ∧
 Br (decide (n32 < 1)) (
 runD Try.prog ({ target := .fn (.func fx) capx, args := (firstx.toList ++ ([] : List Value)).toArray } :: ds) w49 fun w52 =>
 R (.returned (.int .i64 1)) w52) (
 ∃ n36 : Int, w49.cell? (⟨r8, 0, none⟩ : Addr) = some (.int .i64 n36) ∧
 Br (decide (n36 > 131072)) (
 runD Try.prog ({ target := .fn (.func fx) capx, args := (firstx.toList ++ ([] : List Value)).toArray } :: ds) w49 fun w53 =>
 R (.returned (.int .i64 1)) w53) (
 ∃ n40 : Int, w49.cell? (⟨r9, 0, none⟩ : Addr) = some (.int .i64 n40) ∧
 ∃ n41 : Int, w49.cell? (⟨r8, 0, none⟩ : Addr) = some (.int .i64 n41) ∧
 Br (decide (n40 > (IntKind.i64.wrap ((131072 : Int) - n41)))) (
 runD Try.prog ({ target := .fn (.func fx) capx, args := (firstx.toList ++ ([] : List Value)).toArray } :: ds) w49 fun w54 =>
 R (.returned (.int .i64 1)) w54) (
 alE (.cells #[.nilFunc] 72) w49 fun r13 w55 =>
 st1 (⟨r13, 0, none⟩ : Addr) (.func (.func 23) #[] #[.pointer (some (⟨r7, 0, none⟩ : Addr)), .pointer (some (⟨r8, 0, none⟩ : Addr)), .pointer (some (⟨r9, 0, none⟩ : Addr))]) w55 fun w56 =>
 ptrE p0 fun a57 =>
 ∃ l49 : SV, w56.cell? (a57.add 7) = some (.slice l49.a l49.len l49.cap) ∧
 Calls Try.prog 25 #[.slice l49.a l49.len l49.cap, .func (.func 26) #[] #[.pointer (some (⟨r6, 0, none⟩ : Addr)), .pointer (some (⟨r13, 0, none⟩ : Addr))]] w56 fun e w58 =>
 ∃ b51 : Bool, e = .returned (.bool b51) ∧
 Br b51 (
 runD Try.prog ({ target := .fn (.func fx) capx, args := (firstx.toList ++ ([] : List Value)).toArray } :: ds) w58 fun w59 =>
 R (.returned (.int .i64 5)) w59) (
 F13_12 R p0 (some (⟨r6, 0, none⟩ : Addr)) (some (⟨r7, 0, none⟩ : Addr)) (some (⟨r8, 0, none⟩ : Addr)) (some (⟨r9, 0, none⟩ : Addr)) (some (⟨r13, 0, none⟩ : Addr)) ({ target := .fn (.func fx) capx, args := (firstx.toList ++ ([] : List Value)).toArray } :: ds) w58))))))
theorem c13_l : flat (bodyOf Try.f13) = [c13_0, c13_1, c13_2, c13_3, c13_4, c13_5, c13_6, c13_7, c13_8, c13_9, c13_10, c13_11, c13_12, c13_13, c13_14, c13_15, c13_16] := by kernel_rfl
theorem c13_14_l : flat (innerC c13_14) = [c13_14_0] := by kernel_rfl
theorem c13_14_0_l : flat (innerC c13_14_0) = [c13_14_0_0, c13_14_0_1, c13_14_0_2, c13_14_0_3] := by kernel_rfl
theorem c13_14_0_2_l : flat (innerC c13_14_0_2) = [c13_14_0_2_0, c13_14_0_2_1, c13_14_0_2_2, c13_14_0_2_3, c13_14_0_2_4] := by kernel_rfl
theorem c13_14_0_2_3_l : flat (innerC c13_14_0_2_3) = [c13_14_0_2_3_0] := by kernel_rfl
theorem c13_14_0_2_3_0_l : flat (innerC c13_14_0_2_3_0) = [c13_14_0_2_3_0_0, c13_14_0_2_3_0_1, c13_14_0_2_3_0_2, c13_14_0_2_3_0_3] := by kernel_rfl
theorem F13_1_ok (R : Rt) (ds : Ds) (w : World) (ρ : Env) (h : F13_1 R ds w) :
    TrL Try.prog Try.f13.ntmps [c13_15, c13_16] (F13_q1 R) ρ ds w :=
  TrL_leaf (X := F13_1 R ds w) setAll_nil (by kernel_rfl) (by kernel_rfl) h
theorem F13_2_ok (R : Rt) (J1 : (Int) → World → Prop) (p0 : Option Addr) (p6 : Option Addr) (p7 : Option Addr) (l77 : SV) (n78 : Int) (n79 : Int) (ds : Ds) (w : World) (ρ : Env) (e0 : ρ 0 = .pointer p0) (e6 : ρ 6 = .pointer p6) (e7 : ρ 7 = .pointer p7) (e77 : ρ 77 = .slice l77.a l77.len l77.cap) (e78 : ρ 78 = .int .i64 n78) (e79 : ρ 79 = .int .i64 n79) (h : F13_2 R J1 p0 p6 p7 l77 n78 n79 ds w) :
    TrL Try.prog Try.f13.ntmps [c13_14_0_3] (F13_q5 R J1) ρ ds w :=
  TrL_leaf (X := F13_2 R J1 p0 p6 p7 l77 n78 n79 ds w) (setAll_cons e0 (setAll_cons e6 (setAll_cons e7 (setAll_cons e77 (setAll_cons e78 (setAll_cons e79 setAll_nil)))))) (by kernel_rfl) (by kernel_rfl) h
theorem F13_3_ok (R : Rt) (J1 : (Int) → World → Prop) (p0 : Option Addr) (p6 : Option Addr) (p7 : Option Addr) (p15 : Option Addr) (p16 : Option Addr) (l77 : SV) (n78 : Int) (n79 : Int) (ds : Ds) (w : World) (ρ : Env) (e0 : ρ 0 = .pointer p0) (e6 : ρ 6 = .pointer p6) (e7 : ρ 7 = .pointer p7) (e15 : ρ 15 = .pointer p15) (e16 : ρ 16 = .pointer p16) (e77 : ρ 77 = .slice l77.a l77.len l77.cap) (e78 : ρ 78 = .int .i64 n78) (e79 : ρ 79 = .int .i64 n79) (h : F13_3 R J1 p0 p6 p7 p15 p16 l77 n78 n79 ds w) :
    TrL Try.prog Try.f13.ntmps [c13_14_0_2_4] (F13_q8 R J1) ρ ds w :=
  TrL_leaf (X := F13_3 R J1 p0 p6 p7 p15 p16 l77 n78 n79 ds w) (setAll_cons e0 (setAll_cons e6 (setAll_cons e7 (setAll_cons e15 (setAll_cons e16 (setAll_cons e77 (setAll_cons e78 (setAll_cons e79 setAll_nil)))))))) (by kernel_rfl) (by kernel_rfl) h
theorem F13_4_ok (R : Rt) (J1 : (Int) → World → Prop) (J2 : (Int) → World → Prop) (p0 : Option Addr) (p6 : Option Addr) (p7 : Option Addr) (p15 : Option Addr) (p16 : Option Addr) (l77 : SV) (n78 : Int) (n79 : Int) (n91 : Int) (ds : Ds) (w : World) (ρ : Env) (e0 : ρ 0 = .pointer p0) (e6 : ρ 6 = .pointer p6) (e7 : ρ 7 = .pointer p7) (e15 : ρ 15 = .pointer p15) (e16 : ρ 16 = .pointer p16) (e77 : ρ 77 = .slice l77.a l77.len l77.cap) (e78 : ρ 78 = .int .i64 n78) (e79 : ρ 79 = .int .i64 n79) (e91 : ρ 91 = .int .i64 n91) (h : F13_4 R J1 J2 p0 p6 p7 p15 p16 l77 n78 n79 n91 ds w) :
    TrL Try.prog Try.f13.ntmps [c13_14_0_2_3_0_0, c13_14_0_2_3_0_1, c13_14_0_2_3_0_2, c13_14_0_2_3_0_3] (F13_q12 R J1 J2) ρ ds w :=
  TrL_leaf (X := F13_4 R J1 J2 p0 p6 p7 p15 p16 l77 n78 n79 n91 ds w) (setAll_cons e0 (setAll_cons e6 (setAll_cons e7 (setAll_cons e15 (setAll_cons e16 (setAll_cons e77 (setAll_cons e78 (setAll_cons e79 (setAll_cons e91 setAll_nil))))))))) (by kernel_rfl) (by kernel_rfl) h
theorem F13_5_ok (R : Rt) (J1 : (Int) → World → Prop) (p0 : Option Addr) (p6 : Option Addr) (p7 : Option Addr) (p15 : Option Addr) (p16 : Option Addr) (l77 : SV) (n78 : Int) (n79 : Int) (n91 : Int) (ds : Ds) (w : World) (ρ : Env) (e0 : ρ 0 = .pointer p0) (e6 : ρ 6 = .pointer p6) (e7 : ρ 7 = .pointer p7) (e15 : ρ 15 = .pointer p15) (e16 : ρ 16 = .pointer p16) (e77 : ρ 77 = .slice l77.a l77.len l77.cap) (e78 : ρ 78 = .int .i64 n78) (e79 : ρ 79 = .int .i64 n79) (e91 : ρ 91 = .int .i64 n91) (h : F13_5 R J1 p0 p6 p7 p15 p16 l77 n78 n79 n91 ds w) :
    TrL Try.prog Try.f13.ntmps [c13_14_0_2_3_0] (F13_q11 R J1) ρ ds w :=
  TrL_one (Tr_loop' (c := innerC c13_14_0_2_3_0) (σ := Int) (enc := (fun (s : Int) (ρ : Env) => ρ 91 = .int .i64 s)) (D := (fun ρ K => dInt .i64 (ρ 91) fun n91 => K n91)) (F := (fun (J2 : (Int) → World → Prop) (s : Int) (w : World) => F13_4 R J1 J2 p0 p6 p7 p15 p16 l77 n78 n79 s ds w)) (s0 := n91) (by kernel_rfl) c13_14_0_2_3_0_l e91 (by kernel_rfl) (fun ρ K hD => by obtain ⟨n91, e91, hD⟩ := dInt_elim hD; exact ⟨n91, e91, hD⟩)
      (fun J2 s ρ' w' he ha hF => by
      have e91' := he
      exact F13_4_ok R J1 J2 p0 p6 p7 p15 p16 l77 n78 n79 s ds w' ρ' ((ha 0 (by kernel_rfl)).trans e0) ((ha 6 (by kernel_rfl)).trans e6) ((ha 7 (by kernel_rfl)).trans e7) ((ha 15 (by kernel_rfl)).trans e15) ((ha 16 (by kernel_rfl)).trans e16) ((ha 77 (by kernel_rfl)).trans e77) ((ha 78 (by kernel_rfl)).trans e78) ((ha 79 (by kernel_rfl)).trans e79) e91' hF) h)
theorem F13_6_ok (R : Rt) (J1 : (Int) → World → Prop) (p0 : Option Addr) (p6 : Option Addr) (p7 : Option Addr) (p15 : Option Addr) (p16 : Option Addr) (l77 : SV) (n78 : Int) (n79 : Int) (n91 : Int) (ds : Ds) (w : World) (ρ : Env) (e0 : ρ 0 = .pointer p0) (e6 : ρ 6 = .pointer p6) (e7 : ρ 7 = .pointer p7) (e15 : ρ 15 = .pointer p15) (e16 : ρ 16 = .pointer p16) (e77 : ρ 77 = .slice l77.a l77.len l77.cap) (e78 : ρ 78 = .int .i64 n78) (e79 : ρ 79 = .int .i64 n79) (e91 : ρ 91 = .int .i64 n91) (h : F13_6 R J1 p0 p6 p7 p15 p16 l77 n78 n79 n91 ds w) :
    TrL Try.prog Try.f13.ntmps [c13_14_0_2_3, c13_14_0_2_4] (F13_q8 R J1) ρ ds w :=
  TrL_head (K := (F13_k9 R J1)) (Tr_block' (c := innerC c13_14_0_2_3) (by kernel_rfl) c13_14_0_2_3_l (F13_5_ok R J1 p0 p6 p7 p15 p16 l77 n78 n79 n91 ds w ρ e0 e6 e7 e15 e16 e77 e78 e79 e91 h))
    (fun ρ' ds' w' hD => by
      obtain ⟨p0, e0, hD⟩ := dPtr_elim hD; obtain ⟨p6, e6, hD⟩ := dPtr_elim hD; obtain ⟨p7, e7, hD⟩ := dPtr_elim hD; obtain ⟨p15, e15, hD⟩ := dPtr_elim hD; obtain ⟨p16, e16, hD⟩ := dPtr_elim hD; obtain ⟨l77, e77, hD⟩ := dSl_elim hD; obtain ⟨n78, e78, hD⟩ := dInt_elim hD; obtain ⟨n79, e79, hD⟩ := dInt_elim hD; exact F13_3_ok R J1 p0 p6 p7 p15 p16 l77 n78 n79 ds' w' ρ' e0 e6 e7 e15 e16 e77 e78 e79 hD)
theorem F13_7_ok (R : Rt) (J1 : (Int) → World → Prop) (p0 : Option Addr) (p6 : Option Addr) (p7 : Option Addr) (l77 : SV) (n78 : Int) (n79 : Int) (ds : Ds) (w : World) (ρ : Env) (e0 : ρ 0 = .pointer p0) (e6 : ρ 6 = .pointer p6) (e7 : ρ 7 = .pointer p7) (e77 : ρ 77 = .slice l77.a l77.len l77.cap) (e78 : ρ 78 = .int .i64 n78) (e79 : ρ 79 = .int .i64 n79) (h : F13_7 R J1 p0 p6 p7 l77 n78 n79 ds w) :
    TrL Try.prog Try.f13.ntmps [c13_14_0_2_0, c13_14_0_2_1, c13_14_0_2_2, c13_14_0_2_3, c13_14_0_2_4] (F13_q8 R J1) ρ ds w :=
  TrL_piece (pre := [c13_14_0_2_0, c13_14_0_2_1, c13_14_0_2_2]) (K := (F13_k13 R J1)) (X := F13_7 R J1 p0 p6 p7 l77 n78 n79 ds w) (setAll_cons e0 (setAll_cons e6 (setAll_cons e7 (setAll_cons e77 (setAll_cons e78 (setAll_cons e79 setAll_nil)))))) (by kernel_rfl) (by kernel_rfl)
    (fun ρ' ds' w' hD => by
      obtain ⟨p0, e0, hD⟩ := dPtr_elim hD; obtain ⟨p6, e6, hD⟩ := dPtr_elim hD; obtain ⟨p7, e7, hD⟩ := dPtr_elim hD; obtain ⟨p15, e15, hD⟩ := dPtr_elim hD; obtain ⟨p16, e16, hD⟩ := dPtr_elim hD; obtain ⟨l77, e77, hD⟩ := dSl_elim hD; obtain ⟨n78, e78, hD⟩ := dInt_elim hD; obtain ⟨n79, e79, hD⟩ := dInt_elim hD; obtain ⟨n91, e91, hD⟩ := dInt_elim hD; exact F13_6_ok R J1 p0 p6 p7 p15 p16 l77 n78 n79 n91 ds' w' ρ' e0 e6 e7 e15 e16 e77 e78 e79 e91 hD) h
theorem F13_8_ok (R : Rt) (J1 : (Int) → World → Prop) (p0 : Option Addr) (p6 : Option Addr) (p7 : Option Addr) (l77 : SV) (n78 : Int) (n79 : Int) (ds : Ds) (w : World) (ρ : Env) (e0 : ρ 0 = .pointer p0) (e6 : ρ 6 = .pointer p6) (e7 : ρ 7 = .pointer p7) (e77 : ρ 77 = .slice l77.a l77.len l77.cap) (e78 : ρ 78 = .int .i64 n78) (e79 : ρ 79 = .int .i64 n79) (h : F13_8 R J1 p0 p6 p7 l77 n78 n79 ds w) :
    TrL Try.prog Try.f13.ntmps [c13_14_0_2, c13_14_0_3] (F13_q5 R J1) ρ ds w :=
  TrL_head (K := (F13_k6 R J1)) (Tr_block' (c := innerC c13_14_0_2) (by kernel_rfl) c13_14_0_2_l (F13_7_ok R J1 p0 p6 p7 l77 n78 n79 ds w ρ e0 e6 e7 e77 e78 e79 h))
    (fun ρ' ds' w' hD => by
      obtain ⟨p0, e0, hD⟩ := dPtr_elim hD; obtain ⟨p6, e6, hD⟩ := dPtr_elim hD; obtain ⟨p7, e7, hD⟩ := dPtr_elim hD; obtain ⟨l77, e77, hD⟩ := dSl_elim hD; obtain ⟨n78, e78, hD⟩ := dInt_elim hD; obtain ⟨n79, e79, hD⟩ := dInt_elim hD; exact F13_2_ok R J1 p0 p6 p7 l77 n78 n79 ds' w' ρ' e0 e6 e7 e77 e78 e79 hD)
theorem F13_9_ok (R : Rt) (J1 : (Int) → World → Prop) (p0 : Option Addr) (p6 : Option Addr) (p7 : Option Addr) (l77 : SV) (n78 : Int) (n79 : Int) (ds : Ds) (w : World) (ρ : Env) (e0 : ρ 0 = .pointer p0) (e6 : ρ 6 = .pointer p6) (e7 : ρ 7 = .pointer p7) (e77 : ρ 77 = .slice l77.a l77.len l77.cap) (e78 : ρ 78 = .int .i64 n78) (e79 : ρ 79 = .int .i64 n79) (h : F13_9 R J1 p0 p6 p7 l77 n78 n79 ds w) :
    TrL Try.prog Try.f13.ntmps [c13_14_0_0, c13_14_0_1, c13_14_0_2, c13_14_0_3] (F13_q5 R J1) ρ ds w :=
  TrL_piece (pre := [c13_14_0_0, c13_14_0_1]) (K := (F13_k14 R J1)) (X := F13_9 R J1 p0 p6 p7 l77 n78 n79 ds w) (setAll_cons e0 (setAll_cons e6 (setAll_cons e7 (setAll_cons e77 (setAll_cons e78 (setAll_cons e79 setAll_nil)))))) (by kernel_rfl) (by kernel_rfl)
    (fun ρ' ds' w' hD => by
      obtain ⟨p0, e0, hD⟩ := dPtr_elim hD; obtain ⟨p6, e6, hD⟩ := dPtr_elim hD; obtain ⟨p7, e7, hD⟩ := dPtr_elim hD; obtain ⟨l77, e77, hD⟩ := dSl_elim hD; obtain ⟨n78, e78, hD⟩ := dInt_elim hD; obtain ⟨n79, e79, hD⟩ := dInt_elim hD; exact F13_8_ok R J1 p0 p6 p7 l77 n78 n79 ds' w' ρ' e0 e6 e7 e77 e78 e79 hD) h
theorem F13_10_ok (R : Rt) (p0 : Option Addr) (p6 : Option Addr) (p7 : Option Addr) (l77 : SV) (n78 : Int) (n79 : Int) (ds : Ds) (w : World) (ρ : Env) (e0 : ρ 0 = .pointer p0) (e6 : ρ 6 = .pointer p6) (e7 : ρ 7 = .pointer p7) (e77 : ρ 77 = .slice l77.a l77.len l77.cap) (e78 : ρ 78 = .int .i64 n78) (e79 : ρ 79 = .int .i64 n79) (h : F13_10 R p0 p6 p7 l77 n78 n79 ds w) :
    TrL Try.prog Try.f13.ntmps [c13_14_0] (F13_q4 R) ρ ds w :=
  TrL_one (Tr_loop' (c := innerC c13_14_0) (σ := Int) (enc := (fun (s : Int) (ρ : Env) => ρ 79 = .int .i64 s)) (D := (fun ρ K => dInt .i64 (ρ 79) fun n79 => K n79)) (F := (fun (J1 : (Int) → World → Prop) (s : Int) (w : World) => F13_9 R J1 p0 p6 p7 l77 n78 s ds w)) (s0 := n79) (by kernel_rfl) c13_14_0_l e79 (by kernel_rfl) (fun ρ K hD => by obtain ⟨n79, e79, hD⟩ := dInt_elim hD; exact ⟨n79, e79, hD⟩)
      (fun J1 s ρ' w' he ha hF => by
      have e79' := he
      exact F13_9_ok R J1 p0 p6 p7 l77 n78 s ds w' ρ' ((ha 0 (by kernel_rfl)).trans e0) ((ha 6 (by kernel_rfl)).trans e6) ((ha 7 (by kernel_rfl)).trans e7) ((ha 77 (by kernel_rfl)).trans e77) ((ha 78 (by kernel_rfl)).trans e78) e79' hF) h)
theorem F13_11_ok (R : Rt) (p0 : Option Addr) (p6 : Option Addr) (p7 : Option Addr) (l77 : SV) (n78 : Int) (n79 : Int) (ds : Ds) (w : World) (ρ : Env) (e0 : ρ 0 = .pointer p0) (e6 : ρ 6 = .pointer p6) (e7 : ρ 7 = .pointer p7) (e77 : ρ 77 = .slice l77.a l77.len l77.cap) (e78 : ρ 78 = .int .i64 n78) (e79 : ρ 79 = .int .i64 n79) (h : F13_11 R p0 p6 p7 l77 n78 n79 ds w) :
    TrL Try.prog Try.f13.ntmps [c13_14, c13_15, c13_16] (F13_q1 R) ρ ds w :=
  TrL_head (K := (F13_k2 R)) (Tr_block' (c := innerC c13_14) (by kernel_rfl) c13_14_l (F13_10_ok R p0 p6 p7 l77 n78 n79 ds w ρ e0 e6 e7 e77 e78 e79 h))
    (fun ρ' ds' w' hD => by
      exact F13_1_ok R ds' w' ρ'  hD)
theorem F13_12_ok (R : Rt) (p0 : Option Addr) (p6 : Option Addr) (p7 : Option Addr) (p8 : Option Addr) (p9 : Option Addr) (p13 : Option Addr) (ds : Ds) (w : World) (ρ : Env) (e0 : ρ 0 = .pointer p0) (e6 : ρ 6 = .pointer p6) (e7 : ρ 7 = .pointer p7) (e8 : ρ 8 = .pointer p8) (e9 : ρ 9 = .pointer p9) (e13 : ρ 13 = .pointer p13) (h : F13_12 R p0 p6 p7 p8 p9 p13 ds w) :
    TrL Try.prog Try.f13.ntmps [c13_10, c13_11, c13_12, c13_13, c13_14, c13_15, c13_16] (F13_q1 R) ρ ds w :=
  TrL_piece (pre := [c13_10, c13_11, c13_12, c13_13]) (K := (F13_k15 R)) (X := F13_12 R p0 p6 p7 p8 p9 p13 ds w) (setAll_cons e0 (setAll_cons e6 (setAll_cons e7 (setAll_cons e8 (setAll_cons e9 (setAll_cons e13 setAll_nil)))))) (by kernel_rfl) (by kernel_rfl)
    (fun ρ' ds' w' hD => by
      obtain ⟨p0, e0, hD⟩ := dPtr_elim hD; obtain ⟨p6, e6, hD⟩ := dPtr_elim hD; obtain ⟨p7, e7, hD⟩ := dPtr_elim hD; obtain ⟨l77, e77, hD⟩ := dSl_elim hD; obtain ⟨n78, e78, hD⟩ := dInt_elim hD; obtain ⟨n79, e79, hD⟩ := dInt_elim hD; exact F13_11_ok R p0 p6 p7 l77 n78 n79 ds' w' ρ' e0 e6 e7 e77 e78 e79 hD) h
theorem F13_13_ok (R : Rt) (p0 : Option Addr) (n1 : Int) (s2 : ByteArray) (n3 : Int) (n4 : Int) (ds : Ds) (w : World) (ρ : Env) (e0 : ρ 0 = .pointer p0) (e1 : ρ 1 = .int .i64 n1) (e2 : ρ 2 = .string s2) (e3 : ρ 3 = .int .i64 n3) (e4 : ρ 4 = .int .i64 n4) (h : F13_13 R p0 n1 s2 n3 n4 ds w) :
    TrL Try.prog Try.f13.ntmps [c13_0, c13_1, c13_2, c13_3, c13_4, c13_5, c13_6, c13_7, c13_8, c13_9, c13_10, c13_11, c13_12, c13_13, c13_14, c13_15, c13_16] (F13_q1 R) ρ ds w :=
  TrL_piece (pre := [c13_0, c13_1, c13_2, c13_3, c13_4, c13_5, c13_6, c13_7, c13_8, c13_9]) (K := (F13_k16 R)) (X := F13_13 R p0 n1 s2 n3 n4 ds w) (setAll_cons e0 (setAll_cons e1 (setAll_cons e2 (setAll_cons e3 (setAll_cons e4 setAll_nil))))) (by kernel_rfl) (by kernel_rfl)
    (fun ρ' ds' w' hD => by
      obtain ⟨p0, e0, hD⟩ := dPtr_elim hD; obtain ⟨p6, e6, hD⟩ := dPtr_elim hD; obtain ⟨p7, e7, hD⟩ := dPtr_elim hD; obtain ⟨p8, e8, hD⟩ := dPtr_elim hD; obtain ⟨p9, e9, hD⟩ := dPtr_elim hD; obtain ⟨p13, e13, hD⟩ := dPtr_elim hD; exact F13_12_ok R p0 p6 p7 p8 p9 p13 ds' w' ρ' e0 e6 e7 e8 e9 e13 hD) h
theorem F13_calls (p0 : Option Addr) (n1 : Int) (s2 : ByteArray) (n3 : Int) (n4 : Int) (w : World) (R : Rt) (h : F13_13 R p0 n1 s2 n3 n4 [] w) : Calls Try.prog 13 #[.pointer p0, .int .i64 n1, .string s2, .int .i64 n3, .int .i64 n4] w R :=
  calls_of_L (l := [c13_0, c13_1, c13_2, c13_3, c13_4, c13_5, c13_6, c13_7, c13_8, c13_9, c13_10, c13_11, c13_12, c13_13, c13_14, c13_15, c13_16]) Try.func13 (by kernel_rfl) (by rw [Try.ntmps13]; exact Nat.le_of_ble_eq_true (by kernel_rfl)) c13_l
    (F13_13_ok R p0 n1 s2 n3 n4 [] w _ rfl rfl rfl rfl rfl h)

end Go.Proofs.Ytnigfiljenfgjaa
