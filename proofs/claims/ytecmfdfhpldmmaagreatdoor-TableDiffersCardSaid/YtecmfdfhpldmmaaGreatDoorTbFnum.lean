import Derived.Test.YtecmfdfhpldmmaaGreatDoorProg
import Derived.Test.YtecmfdfhpldmmaaGreatDoorShEight
/- Shallow texts of functions, printed by program, each checked by the kernel against the loaded code. No condition. -/
set_option maxRecDepth 100000
set_option linter.unusedVariables false
namespace Go.Proofs.YtecmfdfhpldmmaaGreatDoor
open Go.Sh
/-! function 53: cabinetry/val.Str -/
noncomputable def c53_0 : Code := itemAt (flat (bodyOf Tryz.f53)) 0
noncomputable def c53_1 : Code := itemAt (flat (bodyOf Tryz.f53)) 1
noncomputable def c53_2 : Code := itemAt (flat (bodyOf Tryz.f53)) 2
noncomputable def c53_3 : Code := itemAt (flat (bodyOf Tryz.f53)) 3
noncomputable def c53_4 : Code := itemAt (flat (bodyOf Tryz.f53)) 4
noncomputable def c53_5 : Code := itemAt (flat (bodyOf Tryz.f53)) 5
noncomputable def c53_6 : Code := itemAt (flat (bodyOf Tryz.f53)) 6
noncomputable def c53_7 : Code := itemAt (flat (bodyOf Tryz.f53)) 7
def F53_q1 (R : Rt) : EQ := endQ Tryz.prog Tryz.f53.results.toList R
def F53_1 (R : Rt) (n1 : Int) (s6 : ByteArray) (ds : Ds) (w : World) : Prop :=
 Calls Tryz.prog 99 #[.string (⟨#[32]⟩ : ByteArray), .int .i64 (IntKind.i64.wrap (n1 - ((s6.size : Nat) : Int)))] w fun e w1 =>
 ∃ s30 : ByteArray, e = .returned (.string s30) ∧
 ((s30.size + s6.size : Nat) : Int) ≤ 9223372036854775807 ∧
 runD Tryz.prog ds w1 fun w2 =>
 R (.returned (.tuple #[.string (s30 ++ s6), .int .i64 0])) w2
def F53_k2 (R : Rt) : EP := (fun ρ ds w => dInt .i64 (ρ 1) fun n1 => dStr (ρ 6) fun s6 => F53_1 R n1 s6 ds w)
def F53_2 (R : Rt) (n0 : Int) (n1 : Int) (ds : Ds) (w : World) : Prop :=
 Calls Tryz.prog 97 #[.int .i64 n0] w fun e w3 =>
 ∃ b8 : Bool, e = .returned (.bool b8) ∧
 Br (!b8) (
 runD Tryz.prog ds w3 fun w4 =>
 R (.returned (.tuple #[.string (⟨#[]⟩ : ByteArray), .int .i64 1])) w4) (
 Br (decide (n1 < 1)) (
 runD Tryz.prog ds w3 fun w5 =>
 R (.returned (.tuple #[.string (⟨#[]⟩ : ByteArray), .int .i64 1])) w5) (
 Br (decide (n1 > 254)) (
 runD Tryz.prog ds w3 fun w6 =>
 R (.returned (.tuple #[.string (⟨#[]⟩ : ByteArray), .int .i64 1])) w6) (
 Calls Tryz.prog 98 #[.int .i64 n0] w3 fun e w7 =>
 ∃ s19 : ByteArray, e = .returned (.string s19) ∧
 Br (decide (((s19.size : Nat) : Int) > n1)) (
 Calls Tryz.prog 99 #[.string (⟨#[42]⟩ : ByteArray), .int .i64 n1] w7 fun e w8 =>
 ∃ s25 : ByteArray, e = .returned (.string s25) ∧
 runD Tryz.prog ds w8 fun w9 =>
 R (.returned (.tuple #[.string s25, .int .i64 0])) w9) (
 F53_1 R n1 s19 ds w7))))
theorem c53_l : flat (bodyOf Tryz.f53) = [c53_0, c53_1, c53_2, c53_3, c53_4, c53_5, c53_6, c53_7] := by kernel_rfl
theorem F53_1_ok (R : Rt) (n1 : Int) (s6 : ByteArray) (ds : Ds) (w : World) (ρ : Env) (e1 : ρ 1 = .int .i64 n1) (e6 : ρ 6 = .string s6) (h : F53_1 R n1 s6 ds w) :
    TrL Tryz.prog Tryz.f53.ntmps [c53_6, c53_7] (F53_q1 R) ρ ds w :=
  TrL_leaf (X := F53_1 R n1 s6 ds w) (setAll_cons e1 (setAll_cons e6 setAll_nil)) (by kernel_rfl) (by kernel_rfl) h
theorem F53_2_ok (R : Rt) (n0 : Int) (n1 : Int) (ds : Ds) (w : World) (ρ : Env) (e0 : ρ 0 = .int .i64 n0) (e1 : ρ 1 = .int .i64 n1) (h : F53_2 R n0 n1 ds w) :
    TrL Tryz.prog Tryz.f53.ntmps [c53_0, c53_1, c53_2, c53_3, c53_4, c53_5, c53_6, c53_7] (F53_q1 R) ρ ds w :=
  TrL_piece (pre := [c53_0, c53_1, c53_2, c53_3, c53_4, c53_5]) (K := (F53_k2 R)) (X := F53_2 R n0 n1 ds w) (setAll_cons e0 (setAll_cons e1 setAll_nil)) (by kernel_rfl) (by kernel_rfl)
    (fun ρ' ds' w' hD => by
      obtain ⟨n1, e1, hD⟩ := dInt_elim hD; obtain ⟨s6, e6, hD⟩ := dStr_elim hD; exact F53_1_ok R n1 s6 ds' w' ρ' e1 e6 hD) h
theorem F53_calls (n0 : Int) (n1 : Int) (w : World) (R : Rt) (h : F53_2 R n0 n1 [] w) : Calls Tryz.prog 53 #[.int .i64 n0, .int .i64 n1] w R :=
  calls_of_L (l := [c53_0, c53_1, c53_2, c53_3, c53_4, c53_5, c53_6, c53_7]) Tryz.func53 (by kernel_rfl) (by rw [Tryz.ntmps53]; exact Nat.le_of_ble_eq_true (by kernel_rfl)) c53_l
    (F53_2_ok R n0 n1 [] w _ rfl rfl h)
theorem F53_callsD (n0 : Int) (n1 : Int) (w : World) (R : Rt) (u : FrameMode) (h : F53_2 R n0 n1 [] w) : CallsD Tryz.prog 53 #[.int .i64 n0, .int .i64 n1] u w fun e u' w' => u' = u ∧ R e w' :=
  callsD_of_L (l := [c53_0, c53_1, c53_2, c53_3, c53_4, c53_5, c53_6, c53_7]) Tryz.func53 (by kernel_rfl) (by rw [Tryz.ntmps53]; exact Nat.le_of_ble_eq_true (by kernel_rfl)) (by kernel_rfl) c53_l
    (F53_2_ok R n0 n1 [] w _ rfl rfl h) u

/-! function 98: cabinetry/val.decimal -/
noncomputable def c98_0 : Code := itemAt (flat (bodyOf Tryz.f98)) 0
noncomputable def c98_1 : Code := itemAt (flat (bodyOf Tryz.f98)) 1
noncomputable def c98_2 : Code := itemAt (flat (bodyOf Tryz.f98)) 2
noncomputable def c98_3 : Code := itemAt (flat (bodyOf Tryz.f98)) 3
noncomputable def c98_4 : Code := itemAt (flat (bodyOf Tryz.f98)) 4
noncomputable def c98_5 : Code := itemAt (flat (bodyOf Tryz.f98)) 5
noncomputable def c98_6 : Code := itemAt (flat (bodyOf Tryz.f98)) 6
noncomputable def c98_7 : Code := itemAt (flat (bodyOf Tryz.f98)) 7
def F98_q1 (R : Rt) : EQ := endQ Tryz.prog Tryz.f98.results.toList R
def F98_1 (R : Rt) (n0 : Int) (ds : Ds) (w : World) : Prop :=
 Br (decide (n0 < 0)) (
 Calls Tryz.prog 98 #[.int .i64 (IntKind.i64.wrap (0 - n0))] w fun e w1 =>
 ∃ s8 : ByteArray, e = .returned (.string s8) ∧
 (((⟨#[45]⟩ : ByteArray).size + s8.size : Nat) : Int) ≤ 9223372036854775807 ∧
 runD Tryz.prog ds w1 fun w2 =>
 R (.returned (.string ((⟨#[45]⟩ : ByteArray) ++ s8))) w2) (
 Br (decide (n0 < 10)) (
 0 ≤ (IntKind.i64.wrap (n0 + 1)) ∧ (IntKind.i64.wrap (n0 + 1)).toNat ≤ (⟨#[48, 49, 50, 51, 52, 53, 54, 55, 56, 57]⟩ : ByteArray).size ∧ 0 ≤ n0 ∧ n0.toNat ≤ (IntKind.i64.wrap (n0 + 1)).toNat ∧
 runD Tryz.prog ds w fun w3 =>
 R (.returned (.string ((⟨#[48, 49, 50, 51, 52, 53, 54, 55, 56, 57]⟩ : ByteArray).extract n0.toNat ((IntKind.i64.wrap (n0 + 1)).toNat)))) w3) (
 dwE w fun w4 =>
 IntKind.i64 = IntKind.i64 ∧ (10 : Int) ≠ 0 ∧
 IntKind.i64 = IntKind.i64 ∧ (10 : Int) ≠ 0 ∧
 IntKind.i64 = IntKind.i64 ∧ (10 : Int) ≠ 0 ∧
 0 ≤ (IntKind.i64.wrap ((n0.tmod 10) + 1)) ∧ (IntKind.i64.wrap ((n0.tmod 10) + 1)).toNat ≤ (⟨#[48, 49, 50, 51, 52, 53, 54, 55, 56, 57]⟩ : ByteArray).size ∧ 0 ≤ (n0.tmod 10) ∧ (n0.tmod 10).toNat ≤ (IntKind.i64.wrap ((n0.tmod 10) + 1)).toNat ∧
 Calls Tryz.prog 98 #[.int .i64 (IntKind.i64.wrap (n0.tdiv 10))] w4 fun e w5 =>
 ∃ s19 : ByteArray, e = .returned (.string s19) ∧
 ((s19.size + ((⟨#[48, 49, 50, 51, 52, 53, 54, 55, 56, 57]⟩ : ByteArray).extract ((n0.tmod 10).toNat) ((IntKind.i64.wrap ((n0.tmod 10) + 1)).toNat)).size : Nat) : Int) ≤ 9223372036854775807 ∧
 runD Tryz.prog ds w5 fun w6 =>
 R (.returned (.string (s19 ++ ((⟨#[48, 49, 50, 51, 52, 53, 54, 55, 56, 57]⟩ : ByteArray).extract ((n0.tmod 10).toNat) ((IntKind.i64.wrap ((n0.tmod 10) + 1)).toNat))))) w6))
theorem c98_l : flat (bodyOf Tryz.f98) = [c98_0, c98_1, c98_2, c98_3, c98_4, c98_5, c98_6, c98_7] := by kernel_rfl
theorem F98_1_ok (R : Rt) (n0 : Int) (ds : Ds) (w : World) (ρ : Env) (e0 : ρ 0 = .int .i64 n0) (h : F98_1 R n0 ds w) :
    TrL Tryz.prog Tryz.f98.ntmps [c98_0, c98_1, c98_2, c98_3, c98_4, c98_5, c98_6, c98_7] (F98_q1 R) ρ ds w :=
  TrL_leaf (X := F98_1 R n0 ds w) (setAll_cons e0 setAll_nil) (by kernel_rfl) (by kernel_rfl) h
theorem F98_calls (n0 : Int) (w : World) (R : Rt) (h : F98_1 R n0 [] w) : Calls Tryz.prog 98 #[.int .i64 n0] w R :=
  calls_of_L (l := [c98_0, c98_1, c98_2, c98_3, c98_4, c98_5, c98_6, c98_7]) Tryz.func98 (by kernel_rfl) (by rw [Tryz.ntmps98]; exact Nat.le_of_ble_eq_true (by kernel_rfl)) c98_l
    (F98_1_ok R n0 [] w _ rfl h)
theorem F98_callsD (n0 : Int) (w : World) (R : Rt) (u : FrameMode) (h : F98_1 R n0 [] w) : CallsD Tryz.prog 98 #[.int .i64 n0] u w fun e u' w' => u' = u ∧ R e w' :=
  callsD_of_L (l := [c98_0, c98_1, c98_2, c98_3, c98_4, c98_5, c98_6, c98_7]) Tryz.func98 (by kernel_rfl) (by rw [Tryz.ntmps98]; exact Nat.le_of_ble_eq_true (by kernel_rfl)) (by kernel_rfl) c98_l
    (F98_1_ok R n0 [] w _ rfl h) u

/-! function 119: cabinetry/cabinetryref01.Written -/
noncomputable def c119_0 : Code := itemAt (flat (bodyOf Tryz.f119)) 0
noncomputable def c119_1 : Code := itemAt (flat (bodyOf Tryz.f119)) 1
noncomputable def c119_2 : Code := itemAt (flat (bodyOf Tryz.f119)) 2
noncomputable def c119_3 : Code := itemAt (flat (bodyOf Tryz.f119)) 3
noncomputable def c119_4 : Code := itemAt (flat (bodyOf Tryz.f119)) 4
noncomputable def c119_5 : Code := itemAt (flat (bodyOf Tryz.f119)) 5
noncomputable def c119_6 : Code := itemAt (flat (bodyOf Tryz.f119)) 6
def F119_q1 (R : Rt) : EQ := endQ Tryz.prog Tryz.f119.results.toList R
def F119_1 (R : Rt) (n0 : Int) (ds : Ds) (w : World) : Prop :=
 Br (decide (n0 < 0)) (
 Br (n0 == (-9223372036854775808)) (
 runD Tryz.prog ds w fun w1 =>
 R (.returned (.string (⟨#[45, 57, 50, 50, 51, 51, 55, 50, 48, 51, 54, 56, 53, 52, 55, 55, 53, 56, 48, 56]⟩ : ByteArray))) w1) (
 Calls Tryz.prog 119 #[.int .i64 (IntKind.i64.wrap (0 - n0))] w fun e w2 =>
 ∃ s9 : ByteArray, e = .returned (.string s9) ∧
 (((⟨#[45]⟩ : ByteArray).size + s9.size : Nat) : Int) ≤ 9223372036854775807 ∧
 runD Tryz.prog ds w2 fun w3 =>
 R (.returned (.string ((⟨#[45]⟩ : ByteArray) ++ s9))) w3)) (
 Br (decide (n0 < 10)) (
 0 ≤ (IntKind.i64.wrap (n0 + 1)) ∧ (IntKind.i64.wrap (n0 + 1)).toNat ≤ (⟨#[48, 49, 50, 51, 52, 53, 54, 55, 56, 57]⟩ : ByteArray).size ∧ 0 ≤ n0 ∧ n0.toNat ≤ (IntKind.i64.wrap (n0 + 1)).toNat ∧
 runD Tryz.prog ds w fun w4 =>
 R (.returned (.string ((⟨#[48, 49, 50, 51, 52, 53, 54, 55, 56, 57]⟩ : ByteArray).extract n0.toNat ((IntKind.i64.wrap (n0 + 1)).toNat)))) w4) (
 IntKind.i64 = IntKind.i64 ∧ (10 : Int) ≠ 0 ∧
 Calls Tryz.prog 119 #[.int .i64 (IntKind.i64.wrap (n0.tdiv 10))] w fun e w5 =>
 ∃ s19 : ByteArray, e = .returned (.string s19) ∧
 IntKind.i64 = IntKind.i64 ∧ (10 : Int) ≠ 0 ∧
 Calls Tryz.prog 119 #[.int .i64 (n0.tmod 10)] w5 fun e w6 =>
 ∃ s22 : ByteArray, e = .returned (.string s22) ∧
 ((s19.size + s22.size : Nat) : Int) ≤ 9223372036854775807 ∧
 runD Tryz.prog ds w6 fun w7 =>
 R (.returned (.string (s19 ++ s22))) w7))
theorem c119_l : flat (bodyOf Tryz.f119) = [c119_0, c119_1, c119_2, c119_3, c119_4, c119_5, c119_6] := by kernel_rfl
theorem F119_1_ok (R : Rt) (n0 : Int) (ds : Ds) (w : World) (ρ : Env) (e0 : ρ 0 = .int .i64 n0) (h : F119_1 R n0 ds w) :
    TrL Tryz.prog Tryz.f119.ntmps [c119_0, c119_1, c119_2, c119_3, c119_4, c119_5, c119_6] (F119_q1 R) ρ ds w :=
  TrL_leaf (X := F119_1 R n0 ds w) (setAll_cons e0 setAll_nil) (by kernel_rfl) (by kernel_rfl) h
theorem F119_calls (n0 : Int) (w : World) (R : Rt) (h : F119_1 R n0 [] w) : Calls Tryz.prog 119 #[.int .i64 n0] w R :=
  calls_of_L (l := [c119_0, c119_1, c119_2, c119_3, c119_4, c119_5, c119_6]) Tryz.func119 (by kernel_rfl) (by rw [Tryz.ntmps119]; exact Nat.le_of_ble_eq_true (by kernel_rfl)) c119_l
    (F119_1_ok R n0 [] w _ rfl h)
theorem F119_callsD (n0 : Int) (w : World) (R : Rt) (u : FrameMode) (h : F119_1 R n0 [] w) : CallsD Tryz.prog 119 #[.int .i64 n0] u w fun e u' w' => u' = u ∧ R e w' :=
  callsD_of_L (l := [c119_0, c119_1, c119_2, c119_3, c119_4, c119_5, c119_6]) Tryz.func119 (by kernel_rfl) (by rw [Tryz.ntmps119]; exact Nat.le_of_ble_eq_true (by kernel_rfl)) (by kernel_rfl) c119_l
    (F119_1_ok R n0 [] w _ rfl h) u

/-! function 103: cabinetry/cabinetryref01.Bare -/
noncomputable def c103_0 : Code := itemAt (flat (bodyOf Tryz.f103)) 0
noncomputable def c103_1 : Code := itemAt (flat (bodyOf Tryz.f103)) 1
noncomputable def c103_2 : Code := itemAt (flat (bodyOf Tryz.f103)) 2
noncomputable def c103_3 : Code := itemAt (flat (bodyOf Tryz.f103)) 3
noncomputable def c103_4 : Code := itemAt (flat (bodyOf Tryz.f103)) 4
noncomputable def c103_2_0 : Code := itemAt (flat (innerC c103_2)) 0
noncomputable def c103_2_0_0 : Code := itemAt (flat (innerC c103_2_0)) 0
noncomputable def c103_2_0_1 : Code := itemAt (flat (innerC c103_2_0)) 1
noncomputable def c103_2_0_2 : Code := itemAt (flat (innerC c103_2_0)) 2
def F103_q1 (R : Rt) : EQ := endQ Tryz.prog Tryz.f103.results.toList R
def F103_1 (R : Rt) (s0 : ByteArray) (n3 : Int) (ds : Ds) (w : World) : Prop :=
 0 ≤ n3 ∧ n3.toNat ≤ s0.size ∧ 0 ≤ n3.toNat ∧
 runD Tryz.prog ds w fun w1 =>
 R (.returned (.string (s0.extract 0 n3.toNat))) w1
def F103_k2 (R : Rt) : EP := (fun ρ ds w => dStr (ρ 0) fun s0 => dInt .i64 (ρ 3) fun n3 => F103_1 R s0 n3 ds w)
def F103_q3 (R : Rt) : EQ := (thenQ (F103_k2 R) (F103_q1 R))
def F103_q4 (R : Rt) : EQ := (blockQ 0 (F103_q3 R))
def F103_q5 (R : Rt) (J1 : (Int) → World → Prop) : EQ := (thenQ (fun ρ _ w => dInt .i64 (ρ 3) fun n3 => J1 n3 w) (F103_q4 R))
def F103_2 (R : Rt) (J1 : (Int) → World → Prop) (s0 : ByteArray) (n3 : Int) (ds : Ds) (w : World) : Prop :=
 Br (decide (n3 > 0)) (
 ∃ b12 : UInt8, 0 ≤ (IntKind.i64.wrap (n3 - 1)) ∧ s0[(IntKind.i64.wrap (n3 - 1)).toNat]? = some b12 ∧
 Br (((b12.toNat : Nat) : Int) == 32) (
 J1 (IntKind.i64.wrap (n3 - 1)) w) (
 F103_1 R s0 n3 ds w)) (
 F103_1 R s0 n3 ds w)
def F103_3 (R : Rt) (s0 : ByteArray) (n3 : Int) (ds : Ds) (w : World) : Prop :=
 loopT (fun (J1 : (Int) → World → Prop) (s : Int) (w : World) => F103_2 R J1 s0 s ds w) n3 w
@[reducible] def F103_4 (R : Rt) (s0 : ByteArray) (n3 : Int) (ds : Ds) (w : World) : Prop := F103_3 R s0 n3 ds w
def F103_k6 (R : Rt) : EP := (fun ρ ds w => dStr (ρ 0) fun s0 => dInt .i64 (ρ 3) fun n3 => F103_4 R s0 n3 ds w)
def F103_5 (R : Rt) (s0 : ByteArray) (ds : Ds) (w : World) : Prop :=
 F103_4 R s0 ((s0.size : Nat) : Int) ds w
theorem c103_l : flat (bodyOf Tryz.f103) = [c103_0, c103_1, c103_2, c103_3, c103_4] := by kernel_rfl
theorem c103_2_l : flat (innerC c103_2) = [c103_2_0] := by kernel_rfl
theorem c103_2_0_l : flat (innerC c103_2_0) = [c103_2_0_0, c103_2_0_1, c103_2_0_2] := by kernel_rfl
theorem F103_1_ok (R : Rt) (s0 : ByteArray) (n3 : Int) (ds : Ds) (w : World) (ρ : Env) (e0 : ρ 0 = .string s0) (e3 : ρ 3 = .int .i64 n3) (h : F103_1 R s0 n3 ds w) :
    TrL Tryz.prog Tryz.f103.ntmps [c103_3, c103_4] (F103_q1 R) ρ ds w :=
  TrL_leaf (X := F103_1 R s0 n3 ds w) (setAll_cons e0 (setAll_cons e3 setAll_nil)) (by kernel_rfl) (by kernel_rfl) h
theorem F103_2_ok (R : Rt) (J1 : (Int) → World → Prop) (s0 : ByteArray) (n3 : Int) (ds : Ds) (w : World) (ρ : Env) (e0 : ρ 0 = .string s0) (e3 : ρ 3 = .int .i64 n3) (h : F103_2 R J1 s0 n3 ds w) :
    TrL Tryz.prog Tryz.f103.ntmps [c103_2_0_0, c103_2_0_1, c103_2_0_2] (F103_q5 R J1) ρ ds w :=
  TrL_leaf (X := F103_2 R J1 s0 n3 ds w) (setAll_cons e0 (setAll_cons e3 setAll_nil)) (by kernel_rfl) (by kernel_rfl) h
theorem F103_3_ok (R : Rt) (s0 : ByteArray) (n3 : Int) (ds : Ds) (w : World) (ρ : Env) (e0 : ρ 0 = .string s0) (e3 : ρ 3 = .int .i64 n3) (h : F103_3 R s0 n3 ds w) :
    TrL Tryz.prog Tryz.f103.ntmps [c103_2_0] (F103_q4 R) ρ ds w :=
  TrL_one (Tr_loop' (c := innerC c103_2_0) (σ := Int) (enc := (fun (s : Int) (ρ : Env) => ρ 3 = .int .i64 s)) (D := (fun ρ K => dInt .i64 (ρ 3) fun n3 => K n3)) (F := (fun (J1 : (Int) → World → Prop) (s : Int) (w : World) => F103_2 R J1 s0 s ds w)) (s0 := n3) (by kernel_rfl) c103_2_0_l e3 (by kernel_rfl) (fun ρ K hD => by obtain ⟨n3, e3, hD⟩ := dInt_elim hD; exact ⟨n3, e3, hD⟩)
      (fun J1 s ρ' w' he ha hF => by
      have e3' := he
      exact F103_2_ok R J1 s0 s ds w' ρ' ((ha 0 (by kernel_rfl)).trans e0) e3' hF) h)
theorem F103_4_ok (R : Rt) (s0 : ByteArray) (n3 : Int) (ds : Ds) (w : World) (ρ : Env) (e0 : ρ 0 = .string s0) (e3 : ρ 3 = .int .i64 n3) (h : F103_4 R s0 n3 ds w) :
    TrL Tryz.prog Tryz.f103.ntmps [c103_2, c103_3, c103_4] (F103_q1 R) ρ ds w :=
  TrL_head (K := (F103_k2 R)) (Tr_block' (c := innerC c103_2) (by kernel_rfl) c103_2_l (F103_3_ok R s0 n3 ds w ρ e0 e3 h))
    (fun ρ' ds' w' hD => by
      obtain ⟨s0, e0, hD⟩ := dStr_elim hD; obtain ⟨n3, e3, hD⟩ := dInt_elim hD; exact F103_1_ok R s0 n3 ds' w' ρ' e0 e3 hD)
theorem F103_5_ok (R : Rt) (s0 : ByteArray) (ds : Ds) (w : World) (ρ : Env) (e0 : ρ 0 = .string s0) (h : F103_5 R s0 ds w) :
    TrL Tryz.prog Tryz.f103.ntmps [c103_0, c103_1, c103_2, c103_3, c103_4] (F103_q1 R) ρ ds w :=
  TrL_piece (pre := [c103_0, c103_1]) (K := (F103_k6 R)) (X := F103_5 R s0 ds w) (setAll_cons e0 setAll_nil) (by kernel_rfl) (by kernel_rfl)
    (fun ρ' ds' w' hD => by
      obtain ⟨s0, e0, hD⟩ := dStr_elim hD; obtain ⟨n3, e3, hD⟩ := dInt_elim hD; exact F103_4_ok R s0 n3 ds' w' ρ' e0 e3 hD) h
theorem F103_calls (s0 : ByteArray) (w : World) (R : Rt) (h : F103_5 R s0 [] w) : Calls Tryz.prog 103 #[.string s0] w R :=
  calls_of_L (l := [c103_0, c103_1, c103_2, c103_3, c103_4]) Tryz.func103 (by kernel_rfl) (by rw [Tryz.ntmps103]; exact Nat.le_of_ble_eq_true (by kernel_rfl)) c103_l
    (F103_5_ok R s0 [] w _ rfl h)
theorem F103_callsD (s0 : ByteArray) (w : World) (R : Rt) (u : FrameMode) (h : F103_5 R s0 [] w) : CallsD Tryz.prog 103 #[.string s0] u w fun e u' w' => u' = u ∧ R e w' :=
  callsD_of_L (l := [c103_0, c103_1, c103_2, c103_3, c103_4]) Tryz.func103 (by kernel_rfl) (by rw [Tryz.ntmps103]; exact Nat.le_of_ble_eq_true (by kernel_rfl)) (by kernel_rfl) c103_l
    (F103_5_ok R s0 [] w _ rfl h) u

/-! function 46: cabinetry/cabinetryref01.Text -/
noncomputable def c46_0 : Code := itemAt (flat (bodyOf Tryz.f46)) 0
noncomputable def c46_1 : Code := itemAt (flat (bodyOf Tryz.f46)) 1
noncomputable def c46_2 : Code := itemAt (flat (bodyOf Tryz.f46)) 2
def F46_q1 (R : Rt) : EQ := endQ Tryz.prog Tryz.f46.results.toList R
def F46_1 (R : Rt) (s0 : ByteArray) (ds : Ds) (w : World) : Prop :=
 alE (.cells #[.int .i64 0, .int .i64 0, .string (⟨#[]⟩ : ByteArray)] 25) w fun r2 w1 =>
 stA Tryz.prog 25 (⟨r2, 0, none⟩ : Addr) #[.int .i64 4, .int .i64 0, .string s0] w1 fun w2 =>
 runD Tryz.prog ds w2 fun w3 =>
 ∃ nR0_0 : Int, w3.cell? ((⟨r2, 0, none⟩ : Addr).add 0) = some (.int .i64 nR0_0) ∧
 ∃ nR0_1 : Int, w3.cell? ((⟨r2, 0, none⟩ : Addr).add 1) = some (.int .i64 nR0_1) ∧
 ∃ sR0_2 : ByteArray, w3.cell? ((⟨r2, 0, none⟩ : Addr).add 2) = some (.string sR0_2) ∧
 R (.returned (.agg #[.int .i64 nR0_0, .int .i64 nR0_1, .string sR0_2])) w3
theorem c46_l : flat (bodyOf Tryz.f46) = [c46_0, c46_1, c46_2] := by kernel_rfl
theorem F46_1_ok (R : Rt) (s0 : ByteArray) (ds : Ds) (w : World) (ρ : Env) (e0 : ρ 0 = .string s0) (h : F46_1 R s0 ds w) :
    TrL Tryz.prog Tryz.f46.ntmps [c46_0, c46_1, c46_2] (F46_q1 R) ρ ds w :=
  TrL_leaf (X := F46_1 R s0 ds w) (setAll_cons e0 setAll_nil) (by kernel_rfl) (by kernel_rfl) h
theorem F46_calls (s0 : ByteArray) (w : World) (R : Rt) (h : F46_1 R s0 [] w) : Calls Tryz.prog 46 #[.string s0] w R :=
  calls_of_L (l := [c46_0, c46_1, c46_2]) Tryz.func46 (by kernel_rfl) (by rw [Tryz.ntmps46]; exact Nat.le_of_ble_eq_true (by kernel_rfl)) c46_l
    (F46_1_ok R s0 [] w _ rfl h)
theorem F46_callsD (s0 : ByteArray) (w : World) (R : Rt) (u : FrameMode) (h : F46_1 R s0 [] w) : CallsD Tryz.prog 46 #[.string s0] u w fun e u' w' => u' = u ∧ R e w' :=
  callsD_of_L (l := [c46_0, c46_1, c46_2]) Tryz.func46 (by kernel_rfl) (by rw [Tryz.ntmps46]; exact Nat.le_of_ble_eq_true (by kernel_rfl)) (by kernel_rfl) c46_l
    (F46_1_ok R s0 [] w _ rfl h) u

end Go.Proofs.YtecmfdfhpldmmaaGreatDoor
