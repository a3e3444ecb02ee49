import Derived.Test.YtcnenlmhbpijlaaProg
import Derived.Test.YtcnenlmhbpijlaaShEight
/- Shallow texts of functions, printed by program, each checked by the kernel against the loaded code. No condition. -/
set_option maxRecDepth 100000
set_option linter.unusedVariables false
namespace Go.Proofs.Ytcnenlmhbpijlaa
open Go.Sh
/-! function 5: cabinetry/cabinetrylaw24.LinkFits -/
noncomputable def c5_0 : Code := itemAt (flat (bodyOf Try.f5)) 0
noncomputable def c5_1 : Code := itemAt (flat (bodyOf Try.f5)) 1
noncomputable def c5_2 : Code := itemAt (flat (bodyOf Try.f5)) 2
noncomputable def c5_3 : Code := itemAt (flat (bodyOf Try.f5)) 3
noncomputable def c5_4 : Code := itemAt (flat (bodyOf Try.f5)) 4
noncomputable def c5_5 : Code := itemAt (flat (bodyOf Try.f5)) 5
noncomputable def c5_6 : Code := itemAt (flat (bodyOf Try.f5)) 6
noncomputable def c5_7 : Code := itemAt (flat (bodyOf Try.f5)) 7
noncomputable def c5_8 : Code := itemAt (flat (bodyOf Try.f5)) 8
def F5_q1 (R : Rt) : EQ := endQ Try.prog Try.f5.results.toList R
def F5_1 (R : Rt) (b2 : Bool) (ds : Ds) (w : World) : Prop :=
 runD Try.prog ds w fun w1 =>
 R (.returned (.bool b2)) w1
def F5_k2 (R : Rt) : EP := (fun ρ ds w => dBl (ρ 2) fun b2 => F5_1 R b2 ds w)
def F5_2 (R : Rt) (l0 : SV) (l3 : SV) (n4 : Int) (l5 : SV) (n6 : Int) (n7 : Int) (n8 : Int) (n9 : Int) (n10 : Int) (n11 : Int) (n12 : Int) (ds : Ds) (w : World) : Prop :=
 Calls Try.prog 18 #[.slice l0.a l0.len l0.cap] w fun e w2 =>
 ∃ n39 : Int, e = .returned (.int .i64 n39) ∧
 Calls Try.prog 24 #[.slice l0.a l0.len l0.cap] w2 fun e w3 =>
 ∃ n41 : Int, e = .returned (.int .i64 n41) ∧
 Br (n39 == n41) (
 Calls Try.prog 25 #[.slice l3.a l3.len l3.cap, .slice l5.a l5.len l5.cap] w3 fun e w4 =>
 ∃ b46 : Bool, e = .returned (.bool b46) ∧
 Br b46 (
 Br (n4 == n6) (
 Br (n7 == n10) (
 Br (n8 == n11) (
 Br (n9 == n12) (
 Calls Try.prog 16 #[] w4 fun e w5 =>
 ∃ b69 : Bool, e = .returned (.bool b69) ∧
 F5_1 R b69 ds w5) (
 F5_1 R false ds w4)) (
 F5_1 R false ds w4)) (
 F5_1 R false ds w4)) (
 F5_1 R false ds w4)) (
 F5_1 R false ds w4)) (
 F5_1 R false ds w3)
def F5_k3 (R : Rt) : EP := (fun ρ ds w => dSl (ρ 0) fun l0 => dSl (ρ 3) fun l3 => dInt .i64 (ρ 4) fun n4 => dSl (ρ 5) fun l5 => dInt .i64 (ρ 6) fun n6 => dInt .i64 (ρ 7) fun n7 => dInt .i64 (ρ 8) fun n8 => dInt .i64 (ρ 9) fun n9 => dInt .i64 (ρ 10) fun n10 => dInt .i64 (ρ 11) fun n11 => dInt .i64 (ρ 12) fun n12 => F5_2 R l0 l3 n4 l5 n6 n7 n8 n9 n10 n11 n12 ds w)
def F5_3 (R : Rt) (l0 : SV) (ds : Ds) (w : World) : Prop :=
 Calls Try.prog 14 #[.slice l0.a l0.len l0.cap] w fun e w6 =>
 ∃ b14 : Bool, e = .returned (.bool b14) ∧
 Br b14 (
 Calls Try.prog 16 #[] w6 fun e w7 =>
 ∃ b15 : Bool, e = .returned (.bool b15) ∧
 runD Try.prog ds w7 fun w8 =>
 R (.returned (.bool b15)) w8) (
 Calls Try.prog 20 #[.slice l0.a l0.len l0.cap] w6 fun e w9 =>
 ∃ l18_0 : SV, ∃ n18_1 : Int, e = .returned (.tuple #[.slice l18_0.a l18_0.len l18_0.cap, .int .i64 n18_1]) ∧
 Calls Try.prog 21 #[.slice l0.a l0.len l0.cap] w9 fun e w10 =>
 ∃ l23_0 : SV, ∃ n23_1 : Int, e = .returned (.tuple #[.slice l23_0.a l23_0.len l23_0.cap, .int .i64 n23_1]) ∧
 Calls Try.prog 22 #[.slice l0.a l0.len l0.cap] w10 fun e w11 =>
 ∃ n28_0 : Int, ∃ n28_1 : Int, ∃ n28_2 : Int, e = .returned (.tuple #[.int .i64 n28_0, .int .i64 n28_1, .int .i64 n28_2]) ∧
 Calls Try.prog 23 #[.slice l0.a l0.len l0.cap] w11 fun e w12 =>
 ∃ n34_0 : Int, ∃ n34_1 : Int, ∃ n34_2 : Int, e = .returned (.tuple #[.int .i64 n34_0, .int .i64 n34_1, .int .i64 n34_2]) ∧
 F5_2 R l0 l18_0 n18_1 l23_0 n23_1 n28_0 n28_1 n28_2 n34_0 n34_1 n34_2 ds w12)
theorem c5_l : flat (bodyOf Try.f5) = [c5_0, c5_1, c5_2, c5_3, c5_4, c5_5, c5_6, c5_7, c5_8] := by kernel_rfl
theorem F5_1_ok (R : Rt) (b2 : Bool) (ds : Ds) (w : World) (ρ : Env) (e2 : ρ 2 = .bool b2) (h : F5_1 R b2 ds w) :
    TrL Try.prog Try.f5.ntmps [c5_8] (F5_q1 R) ρ ds w :=
  TrL_leaf (X := F5_1 R b2 ds w) (setAll_cons e2 setAll_nil) (by kernel_rfl) (by kernel_rfl) h
theorem F5_2_ok (R : Rt) (l0 : SV) (l3 : SV) (n4 : Int) (l5 : SV) (n6 : Int) (n7 : Int) (n8 : Int) (n9 : Int) (n10 : Int) (n11 : Int) (n12 : Int) (ds : Ds) (w : World) (ρ : Env) (e0 : ρ 0 = .slice l0.a l0.len l0.cap) (e3 : ρ 3 = .slice l3.a l3.len l3.cap) (e4 : ρ 4 = .int .i64 n4) (e5 : ρ 5 = .slice l5.a l5.len l5.cap) (e6 : ρ 6 = .int .i64 n6) (e7 : ρ 7 = .int .i64 n7) (e8 : ρ 8 = .int .i64 n8) (e9 : ρ 9 = .int .i64 n9) (e10 : ρ 10 = .int .i64 n10) (e11 : ρ 11 = .int .i64 n11) (e12 : ρ 12 = .int .i64 n12) (h : F5_2 R l0 l3 n4 l5 n6 n7 n8 n9 n10 n11 n12 ds w) :
    TrL Try.prog Try.f5.ntmps [c5_7, c5_8] (F5_q1 R) ρ ds w :=
  TrL_piece (pre := [c5_7]) (K := (F5_k2 R)) (X := F5_2 R l0 l3 n4 l5 n6 n7 n8 n9 n10 n11 n12 ds w) (setAll_cons e0 (setAll_cons e3 (setAll_cons e4 (setAll_cons e5 (setAll_cons e6 (setAll_cons e7 (setAll_cons e8 (setAll_cons e9 (setAll_cons e10 (setAll_cons e11 (setAll_cons e12 setAll_nil))))))))))) (by kernel_rfl) (by kernel_rfl)
    (fun ρ' ds' w' hD => by
      obtain ⟨b2, e2, hD⟩ := dBl_elim hD; exact F5_1_ok R b2 ds' w' ρ' e2 hD) h
theorem F5_3_ok (R : Rt) (l0 : SV) (ds : Ds) (w : World) (ρ : Env) (e0 : ρ 0 = .slice l0.a l0.len l0.cap) (h : F5_3 R l0 ds w) :
    TrL Try.prog Try.f5.ntmps [c5_0, c5_1, c5_2, c5_3, c5_4, c5_5, c5_6, c5_7, c5_8] (F5_q1 R) ρ ds w :=
  TrL_piece (pre := [c5_0, c5_1, c5_2, c5_3, c5_4, c5_5, c5_6]) (K := (F5_k3 R)) (X := F5_3 R l0 ds w) (setAll_cons e0 setAll_nil) (by kernel_rfl) (by kernel_rfl)
    (fun ρ' ds' w' hD => by
      obtain ⟨l0, e0, hD⟩ := dSl_elim hD; obtain ⟨l3, e3, hD⟩ := dSl_elim hD; obtain ⟨n4, e4, hD⟩ := dInt_elim hD; obtain ⟨l5, e5, hD⟩ := dSl_elim hD; obtain ⟨n6, e6, hD⟩ := dInt_elim hD; obtain ⟨n7, e7, hD⟩ := dInt_elim hD; obtain ⟨n8, e8, hD⟩ := dInt_elim hD; obtain ⟨n9, e9, hD⟩ := dInt_elim hD; obtain ⟨n10, e10, hD⟩ := dInt_elim hD; obtain ⟨n11, e11, hD⟩ := dInt_elim hD; obtain ⟨n12, e12, hD⟩ := dInt_elim hD; exact F5_2_ok R l0 l3 n4 l5 n6 n7 n8 n9 n10 n11 n12 ds' w' ρ' e0 e3 e4 e5 e6 e7 e8 e9 e10 e11 e12 hD) h
theorem F5_calls (l0 : SV) (w : World) (R : Rt) (h : F5_3 R l0 [] w) : Calls Try.prog 5 #[.slice l0.a l0.len l0.cap] w R :=
  calls_of_L (l := [c5_0, c5_1, c5_2, c5_3, c5_4, c5_5, c5_6, c5_7, c5_8]) Try.func5 (by kernel_rfl) (by rw [Try.ntmps5]; exact Nat.le_of_ble_eq_true (by kernel_rfl)) c5_l
    (F5_3_ok R l0 [] w _ rfl h)
theorem F5_callsD (l0 : SV) (w : World) (R : Rt) (u : FrameMode) (h : F5_3 R l0 [] w) : CallsD Try.prog 5 #[.slice l0.a l0.len l0.cap] u w fun e u' w' => u' = u ∧ R e w' :=
  callsD_of_L (l := [c5_0, c5_1, c5_2, c5_3, c5_4, c5_5, c5_6, c5_7, c5_8]) Try.func5 (by kernel_rfl) (by rw [Try.ntmps5]; exact Nat.le_of_ble_eq_true (by kernel_rfl)) (by kernel_rfl) c5_l
    (F5_3_ok R l0 [] w _ rfl h) u

/-! function 20: cabinetry/link.Missing -/
noncomputable def c20_0 : Code := itemAt (flat (bodyOf Try.f20)) 0
noncomputable def c20_1 : Code := itemAt (flat (bodyOf Try.f20)) 1
noncomputable def c20_2 : Code := itemAt (flat (bodyOf Try.f20)) 2
noncomputable def c20_3 : Code := itemAt (flat (bodyOf Try.f20)) 3
noncomputable def c20_4 : Code := itemAt (flat (bodyOf Try.f20)) 4
noncomputable def c20_5 : Code := itemAt (flat (bodyOf Try.f20)) 5
def F20_q1 (R : Rt) : EQ := endQ Try.prog Try.f20.results.toList R
def F20_1 (R : Rt) (l0 : SV) (ds : Ds) (w : World) : Prop :=
 Calls Try.prog 18 #[.slice l0.a l0.len l0.cap] w fun e w1 =>
 ∃ n6 : Int, e = .returned (.int .i64 n6) ∧
 Br (n6 != 0) (
 runD Try.prog ds w1 fun w2 =>
 R (.returned (.tuple #[.slice none 0 0, .int .i64 n6])) w2) (
 Calls Try.prog 54 #[.slice l0.a l0.len l0.cap] w1 fun e w3 =>
 ∃ m11 : Option Nat, e = .returned (.map m11) ∧
 Calls Try.prog 53 #[.map m11] w3 fun e w4 =>
 ∃ l12 : SV, e = .returned (.slice l12.a l12.len l12.cap) ∧
 runD Try.prog ds w4 fun w5 =>
 R (.returned (.tuple #[.slice l12.a l12.len l12.cap, .int .i64 0])) w5)
theorem c20_l : flat (bodyOf Try.f20) = [c20_0, c20_1, c20_2, c20_3, c20_4, c20_5] := by kernel_rfl
theorem F20_1_ok (R : Rt) (l0 : SV) (ds : Ds) (w : World) (ρ : Env) (e0 : ρ 0 = .slice l0.a l0.len l0.cap) (h : F20_1 R l0 ds w) :
    TrL Try.prog Try.f20.ntmps [c20_0, c20_1, c20_2, c20_3, c20_4, c20_5] (F20_q1 R) ρ ds w :=
  TrL_leaf (X := F20_1 R l0 ds w) (setAll_cons e0 setAll_nil) (by kernel_rfl) (by kernel_rfl) h
theorem F20_calls (l0 : SV) (w : World) (R : Rt) (h : F20_1 R l0 [] w) : Calls Try.prog 20 #[.slice l0.a l0.len l0.cap] w R :=
  calls_of_L (l := [c20_0, c20_1, c20_2, c20_3, c20_4, c20_5]) Try.func20 (by kernel_rfl) (by rw [Try.ntmps20]; exact Nat.le_of_ble_eq_true (by kernel_rfl)) c20_l
    (F20_1_ok R l0 [] w _ rfl h)
theorem F20_callsD (l0 : SV) (w : World) (R : Rt) (u : FrameMode) (h : F20_1 R l0 [] w) : CallsD Try.prog 20 #[.slice l0.a l0.len l0.cap] u w fun e u' w' => u' = u ∧ R e w' :=
  callsD_of_L (l := [c20_0, c20_1, c20_2, c20_3, c20_4, c20_5]) Try.func20 (by kernel_rfl) (by rw [Try.ntmps20]; exact Nat.le_of_ble_eq_true (by kernel_rfl)) (by kernel_rfl) c20_l
    (F20_1_ok R l0 [] w _ rfl h) u

/-! function 21: cabinetry/cabinetryref24.Missing -/
noncomputable def c21_0 : Code := itemAt (flat (bodyOf Try.f21)) 0
noncomputable def c21_1 : Code := itemAt (flat (bodyOf Try.f21)) 1
noncomputable def c21_2 : Code := itemAt (flat (bodyOf Try.f21)) 2
noncomputable def c21_3 : Code := itemAt (flat (bodyOf Try.f21)) 3
noncomputable def c21_4 : Code := itemAt (flat (bodyOf Try.f21)) 4
noncomputable def c21_5 : Code := itemAt (flat (bodyOf Try.f21)) 5
def F21_q1 (R : Rt) : EQ := endQ Try.prog Try.f21.results.toList R
def F21_1 (R : Rt) (l0 : SV) (ds : Ds) (w : World) : Prop :=
 Calls Try.prog 24 #[.slice l0.a l0.len l0.cap] w fun e w1 =>
 ∃ n6 : Int, e = .returned (.int .i64 n6) ∧
 Br (n6 != 0) (
 runD Try.prog ds w1 fun w2 =>
 R (.returned (.tuple #[.slice none 0 0, .int .i64 n6])) w2) (
 Calls Try.prog 55 #[.slice l0.a l0.len l0.cap] w1 fun e w3 =>
 ∃ l11 : SV, e = .returned (.slice l11.a l11.len l11.cap) ∧
 runD Try.prog ds w3 fun w4 =>
 R (.returned (.tuple #[.slice l11.a l11.len l11.cap, .int .i64 0])) w4)
theorem c21_l : flat (bodyOf Try.f21) = [c21_0, c21_1, c21_2, c21_3, c21_4, c21_5] := by kernel_rfl
theorem F21_1_ok (R : Rt) (l0 : SV) (ds : Ds) (w : World) (ρ : Env) (e0 : ρ 0 = .slice l0.a l0.len l0.cap) (h : F21_1 R l0 ds w) :
    TrL Try.prog Try.f21.ntmps [c21_0, c21_1, c21_2, c21_3, c21_4, c21_5] (F21_q1 R) ρ ds w :=
  TrL_leaf (X := F21_1 R l0 ds w) (setAll_cons e0 setAll_nil) (by kernel_rfl) (by kernel_rfl) h
theorem F21_calls (l0 : SV) (w : World) (R : Rt) (h : F21_1 R l0 [] w) : Calls Try.prog 21 #[.slice l0.a l0.len l0.cap] w R :=
  calls_of_L (l := [c21_0, c21_1, c21_2, c21_3, c21_4, c21_5]) Try.func21 (by kernel_rfl) (by rw [Try.ntmps21]; exact Nat.le_of_ble_eq_true (by kernel_rfl)) c21_l
    (F21_1_ok R l0 [] w _ rfl h)
theorem F21_callsD (l0 : SV) (w : World) (R : Rt) (u : FrameMode) (h : F21_1 R l0 [] w) : CallsD Try.prog 21 #[.slice l0.a l0.len l0.cap] u w fun e u' w' => u' = u ∧ R e w' :=
  callsD_of_L (l := [c21_0, c21_1, c21_2, c21_3, c21_4, c21_5]) Try.func21 (by kernel_rfl) (by rw [Try.ntmps21]; exact Nat.le_of_ble_eq_true (by kernel_rfl)) (by kernel_rfl) c21_l
    (F21_1_ok R l0 [] w _ rfl h) u

/-! function 23: cabinetry/cabinetryref24.Sizes -/
noncomputable def c23_0 : Code := itemAt (flat (bodyOf Try.f23)) 0
noncomputable def c23_1 : Code := itemAt (flat (bodyOf Try.f23)) 1
noncomputable def c23_2 : Code := itemAt (flat (bodyOf Try.f23)) 2
noncomputable def c23_3 : Code := itemAt (flat (bodyOf Try.f23)) 3
noncomputable def c23_4 : Code := itemAt (flat (bodyOf Try.f23)) 4
noncomputable def c23_5 : Code := itemAt (flat (bodyOf Try.f23)) 5
noncomputable def c23_6 : Code := itemAt (flat (bodyOf Try.f23)) 6
noncomputable def c23_7 : Code := itemAt (flat (bodyOf Try.f23)) 7
noncomputable def c23_8 : Code := itemAt (flat (bodyOf Try.f23)) 8
noncomputable def c23_9 : Code := itemAt (flat (bodyOf Try.f23)) 9
noncomputable def c23_7_0 : Code := itemAt (flat (innerC c23_7)) 0
noncomputable def c23_7_0_0 : Code := itemAt (flat (innerC c23_7_0)) 0
noncomputable def c23_7_0_1 : Code := itemAt (flat (innerC c23_7_0)) 1
noncomputable def c23_7_0_2 : Code := itemAt (flat (innerC c23_7_0)) 2
noncomputable def c23_7_0_3 : Code := itemAt (flat (innerC c23_7_0)) 3
def F23_q1 (R : Rt) : EQ := endQ Try.prog Try.f23.results.toList R
def F23_1 (R : Rt) (p6 : Option Addr) (n7 : Int) (ds : Ds) (w : World) : Prop :=
 ptrE p6 fun a1 =>
 0 ≤ (0 : Int) ∧ (0 : Int) < ((16 : Nat) : Int) ∧
 ∃ n27 : Int, w.cell? (a1.add ((0 : Int).toNat * 1)) = some (.int .i64 n27) ∧
 runD Try.prog ds w fun w2 =>
 R (.returned (.tuple #[.int .i64 n27, .int .i64 n7, .int .i64 0])) w2
def F23_k2 (R : Rt) : EP := (fun ρ ds w => dPtr (ρ 6) fun p6 => dInt .i64 (ρ 7) fun n7 => F23_1 R p6 n7 ds w)
def F23_q3 (R : Rt) : EQ := (thenQ (F23_k2 R) (F23_q1 R))
def F23_q4 (R : Rt) : EQ := (blockQ 0 (F23_q3 R))
def F23_q5 (R : Rt) (J1 : (Int × Int) → World → Prop) : EQ := (thenQ (fun ρ _ w => dInt .i64 (ρ 7) fun n7 => dInt .i64 (ρ 8) fun n8 => J1 (n7, n8) w) (F23_q4 R))
def F23_2 (R : Rt) (J1 : (Int × Int) → World → Prop) (p6 : Option Addr) (n7 : Int) (n8 : Int) (ds : Ds) (w : World) : Prop :=
 Br (decide (n8 < 16)) (
 ptrE p6 fun a3 =>
 0 ≤ n8 ∧ n8 < ((16 : Nat) : Int) ∧
 ∃ n24 : Int, w.cell? (a3.add (n8.toNat * 1)) = some (.int .i64 n24) ∧
 ∃ n25 : Int, ∃ w4 : World, (Builtin.max_ #[3, 3] 3 #[.int .i64 n7, .int .i64 n24]).run Try.prog w = .ok (.int .i64 n25) w4 ∧
 J1 (n25, (IntKind.i64.wrap (n8 + 1))) w4) (
 F23_1 R p6 n7 ds w)
def F23_3 (R : Rt) (p6 : Option Addr) (n7 : Int) (n8 : Int) (ds : Ds) (w : World) : Prop :=
 loopT (fun (J1 : (Int × Int) → World → Prop) (s : Int × Int) (w : World) => F23_2 R J1 p6 s.1 s.2 ds w) (n7, n8) w
@[reducible] def F23_4 (R : Rt) (p6 : Option Addr) (n7 : Int) (n8 : Int) (ds : Ds) (w : World) : Prop := F23_3 R p6 n7 n8 ds w
def F23_k6 (R : Rt) : EP := (fun ρ ds w => dPtr (ρ 6) fun p6 => dInt .i64 (ρ 7) fun n7 => dInt .i64 (ρ 8) fun n8 => F23_4 R p6 n7 n8 ds w)
def F23_5 (R : Rt) (l0 : SV) (ds : Ds) (w : World) : Prop :=
 Calls Try.prog 24 #[.slice l0.a l0.len l0.cap] w fun e w5 =>
 ∃ n10 : Int, e = .returned (.int .i64 n10) ∧
 Br (n10 != 0) (
 runD Try.prog ds w5 fun w6 =>
 R (.returned (.tuple #[.int .i64 0, .int .i64 0, .int .i64 n10])) w6) (
 Calls Try.prog 59 #[.slice l0.a l0.len l0.cap] w5 fun e w7 =>
 ∃ l15 : SV, e = .returned (.slice l15.a l15.len l15.cap) ∧
 Calls Try.prog 58 #[.slice l15.a l15.len l15.cap] w7 fun e w8 =>
 ∃ n16_0 : Int, ∃ n16_1 : Int, ∃ n16_2 : Int, ∃ n16_3 : Int, ∃ n16_4 : Int, ∃ n16_5 : Int, ∃ n16_6 : Int, ∃ n16_7 : Int, ∃ n16_8 : Int, ∃ n16_9 : Int, ∃ n16_10 : Int, ∃ n16_11 : Int, ∃ n16_12 : Int, ∃ n16_13 : Int, ∃ n16_14 : Int, ∃ n16_15 : Int, e = .returned (.agg #[.int .i64 n16_0, .int .i64 n16_1, .int .i64 n16_2, .int .i64 n16_3, .int .i64 n16_4, .int .i64 n16_5, .int .i64 n16_6, .int .i64 n16_7, .int .i64 n16_8, .int .i64 n16_9, .int .i64 n16_10, .int .i64 n16_11, .int .i64 n16_12, .int .i64 n16_13, .int .i64 n16_14, .int .i64 n16_15]) ∧
 alE (.cells #[.int .i64 0, .int .i64 0, .int .i64 0, .int .i64 0, .int .i64 0, .int .i64 0, .int .i64 0, .int .i64 0, .int .i64 0, .int .i64 0, .int .i64 0, .int .i64 0, .int .i64 0, .int .i64 0, .int .i64 0, .int .i64 0] 77) w8 fun r6 w9 =>
 stA Try.prog 77 (⟨r6, 0, none⟩ : Addr) #[.int .i64 n16_0, .int .i64 n16_1, .int .i64 n16_2, .int .i64 n16_3, .int .i64 n16_4, .int .i64 n16_5, .int .i64 n16_6, .int .i64 n16_7, .int .i64 n16_8, .int .i64 n16_9, .int .i64 n16_10, .int .i64 n16_11, .int .i64 n16_12, .int .i64 n16_13, .int .i64 n16_14, .int .i64 n16_15] w9 fun w10 =>
 F23_4 R (some (⟨r6, 0, none⟩ : Addr)) 0 1 ds w10)
theorem c23_l : flat (bodyOf Try.f23) = [c23_0, c23_1, c23_2, c23_3, c23_4, c23_5, c23_6, c23_7, c23_8, c23_9] := by kernel_rfl
theorem c23_7_l : flat (innerC c23_7) = [c23_7_0] := by kernel_rfl
theorem c23_7_0_l : flat (innerC c23_7_0) = [c23_7_0_0, c23_7_0_1, c23_7_0_2, c23_7_0_3] := by kernel_rfl
theorem F23_1_ok (R : Rt) (p6 : Option Addr) (n7 : Int) (ds : Ds) (w : World) (ρ : Env) (e6 : ρ 6 = .pointer p6) (e7 : ρ 7 = .int .i64 n7) (h : F23_1 R p6 n7 ds w) :
    TrL Try.prog Try.f23.ntmps [c23_8, c23_9] (F23_q1 R) ρ ds w :=
  TrL_leaf (X := F23_1 R p6 n7 ds w) (setAll_cons e6 (setAll_cons e7 setAll_nil)) (by kernel_rfl) (by kernel_rfl) h
theorem F23_2_ok (R : Rt) (J1 : (Int × Int) → World → Prop) (p6 : Option Addr) (n7 : Int) (n8 : Int) (ds : Ds) (w : World) (ρ : Env) (e6 : ρ 6 = .pointer p6) (e7 : ρ 7 = .int .i64 n7) (e8 : ρ 8 = .int .i64 n8) (h : F23_2 R J1 p6 n7 n8 ds w) :
    TrL Try.prog Try.f23.ntmps [c23_7_0_0, c23_7_0_1, c23_7_0_2, c23_7_0_3] (F23_q5 R J1) ρ ds w :=
  TrL_leaf (X := F23_2 R J1 p6 n7 n8 ds w) (setAll_cons e6 (setAll_cons e7 (setAll_cons e8 setAll_nil))) (by kernel_rfl) (by kernel_rfl) h
theorem F23_3_ok (R : Rt) (p6 : Option Addr) (n7 : Int) (n8 : Int) (ds : Ds) (w : World) (ρ : Env) (e6 : ρ 6 = .pointer p6) (e7 : ρ 7 = .int .i64 n7) (e8 : ρ 8 = .int .i64 n8) (h : F23_3 R p6 n7 n8 ds w) :
    TrL Try.prog Try.f23.ntmps [c23_7_0] (F23_q4 R) ρ ds w :=
  TrL_one (Tr_loop' (c := innerC c23_7_0) (σ := Int × Int) (enc := (fun (s : Int × Int) (ρ : Env) => ρ 7 = .int .i64 s.1 ∧ ρ 8 = .int .i64 s.2)) (D := (fun ρ K => dInt .i64 (ρ 7) fun n7 => dInt .i64 (ρ 8) fun n8 => K (n7, n8))) (F := (fun (J1 : (Int × Int) → World → Prop) (s : Int × Int) (w : World) => F23_2 R J1 p6 s.1 s.2 ds w)) (s0 := (n7, n8)) (by kernel_rfl) c23_7_0_l ⟨e7, e8⟩ (by kernel_rfl) (fun ρ K hD => by obtain ⟨n7, e7, hD⟩ := dInt_elim hD; obtain ⟨n8, e8, hD⟩ := dInt_elim hD; exact ⟨(n7, n8), ⟨e7, e8⟩, hD⟩)
      (fun J1 s ρ' w' he ha hF => by
      obtain ⟨e7', e8'⟩ := he
      exact F23_2_ok R J1 p6 s.1 s.2 ds w' ρ' ((ha 6 (by kernel_rfl)).trans e6) e7' e8' hF) h)
theorem F23_4_ok (R : Rt) (p6 : Option Addr) (n7 : Int) (n8 : Int) (ds : Ds) (w : World) (ρ : Env) (e6 : ρ 6 = .pointer p6) (e7 : ρ 7 = .int .i64 n7) (e8 : ρ 8 = .int .i64 n8) (h : F23_4 R p6 n7 n8 ds w) :
    TrL Try.prog Try.f23.ntmps [c23_7, c23_8, c23_9] (F23_q1 R) ρ ds w :=
  TrL_head (K := (F23_k2 R)) (Tr_block' (c := innerC c23_7) (by kernel_rfl) c23_7_l (F23_3_ok R p6 n7 n8 ds w ρ e6 e7 e8 h))
    (fun ρ' ds' w' hD => by
      obtain ⟨p6, e6, hD⟩ := dPtr_elim hD; obtain ⟨n7, e7, hD⟩ := dInt_elim hD; exact F23_1_ok R p6 n7 ds' w' ρ' e6 e7 hD)
theorem F23_5_ok (R : Rt) (l0 : SV) (ds : Ds) (w : World) (ρ : Env) (e0 : ρ 0 = .slice l0.a l0.len l0.cap) (h : F23_5 R l0 ds w) :
    TrL Try.prog Try.f23.ntmps [c23_0, c23_1, c23_2, c23_3, c23_4, c23_5, c23_6, c23_7, c23_8, c23_9] (F23_q1 R) ρ ds w :=
  TrL_piece (pre := [c23_0, c23_1, c23_2, c23_3, c23_4, c23_5, c23_6]) (K := (F23_k6 R)) (X := F23_5 R l0 ds w) (setAll_cons e0 setAll_nil) (by kernel_rfl) (by kernel_rfl)
    (fun ρ' ds' w' hD => by
      obtain ⟨p6, e6, hD⟩ := dPtr_elim hD; obtain ⟨n7, e7, hD⟩ := dInt_elim hD; obtain ⟨n8, e8, hD⟩ := dInt_elim hD; exact F23_4_ok R p6 n7 n8 ds' w' ρ' e6 e7 e8 hD) h
theorem F23_calls (l0 : SV) (w : World) (R : Rt) (h : F23_5 R l0 [] w) : Calls Try.prog 23 #[.slice l0.a l0.len l0.cap] w R :=
  calls_of_L (l := [c23_0, c23_1, c23_2, c23_3, c23_4, c23_5, c23_6, c23_7, c23_8, c23_9]) Try.func23 (by kernel_rfl) (by rw [Try.ntmps23]; exact Nat.le_of_ble_eq_true (by kernel_rfl)) c23_l
    (F23_5_ok R l0 [] w _ rfl h)
theorem F23_callsD (l0 : SV) (w : World) (R : Rt) (u : FrameMode) (h : F23_5 R l0 [] w) : CallsD Try.prog 23 #[.slice l0.a l0.len l0.cap] u w fun e u' w' => u' = u ∧ R e w' :=
  callsD_of_L (l := [c23_0, c23_1, c23_2, c23_3, c23_4, c23_5, c23_6, c23_7, c23_8, c23_9]) Try.func23 (by kernel_rfl) (by rw [Try.ntmps23]; exact Nat.le_of_ble_eq_true (by kernel_rfl)) (by kernel_rfl) c23_l
    (F23_5_ok R l0 [] w _ rfl h) u

/-! function 58: cabinetry/cabinetryref24.sizes -/
noncomputable def c58_0 : Code := itemAt (flat (bodyOf Try.f58)) 0
noncomputable def c58_1 : Code := itemAt (flat (bodyOf Try.f58)) 1
noncomputable def c58_2 : Code := itemAt (flat (bodyOf Try.f58)) 2
noncomputable def c58_3 : Code := itemAt (flat (bodyOf Try.f58)) 3
noncomputable def c58_4 : Code := itemAt (flat (bodyOf Try.f58)) 4
noncomputable def c58_5 : Code := itemAt (flat (bodyOf Try.f58)) 5
noncomputable def c58_3_0 : Code := itemAt (flat (innerC c58_3)) 0
noncomputable def c58_3_0_0 : Code := itemAt (flat (innerC c58_3_0)) 0
noncomputable def c58_3_0_1 : Code := itemAt (flat (innerC c58_3_0)) 1
noncomputable def c58_3_0_2 : Code := itemAt (flat (innerC c58_3_0)) 2
noncomputable def c58_3_0_3 : Code := itemAt (flat (innerC c58_3_0)) 3
def F58_q1 (R : Rt) : EQ := endQ Try.prog Try.f58.results.toList R
def F58_1 (R : Rt) (p2 : Option Addr) (p3 : Option Addr) (ds : Ds) (w : World) : Prop :=
 ptrE p3 fun a1 =>
 ∃ n25_0 : Int, w.cell? (a1.add 0) = some (.int .i64 n25_0) ∧
 ∃ n25_1 : Int, w.cell? (a1.add 1) = some (.int .i64 n25_1) ∧
 ∃ n25_2 : Int, w.cell? (a1.add 2) = some (.int .i64 n25_2) ∧
 ∃ n25_3 : Int, w.cell? (a1.add 3) = some (.int .i64 n25_3) ∧
 ∃ n25_4 : Int, w.cell? (a1.add 4) = some (.int .i64 n25_4) ∧
 ∃ n25_5 : Int, w.cell? (a1.add 5) = some (.int .i64 n25_5) ∧
 ∃ n25_6 : Int, w.cell? (a1.add 6) = some (.int .i64 n25_6) ∧
 ∃ n25_7 : Int, w.cell? (a1.add 7) = some (.int .i64 n25_7) ∧
 ∃ n25_8 : Int, w.cell? (a1.add 8) = some (.int .i64 n25_8) ∧
 ∃ n25_9 : Int, w.cell? (a1.add 9) = some (.int .i64 n25_9) ∧
 ∃ n25_10 : Int, w.cell? (a1.add 10) = some (.int .i64 n25_10) ∧
 ∃ n25_11 : Int, w.cell? (a1.add 11) = some (.int .i64 n25_11) ∧
 ∃ n25_12 : Int, w.cell? (a1.add 12) = some (.int .i64 n25_12) ∧
 ∃ n25_13 : Int, w.cell? (a1.add 13) = some (.int .i64 n25_13) ∧
 ∃ n25_14 : Int, w.cell? (a1.add 14) = some (.int .i64 n25_14) ∧
 ∃ n25_15 : Int, w.cell? (a1.add 15) = some (.int .i64 n25_15) ∧
 ptrE p2 fun a2 =>
 stA Try.prog 77 a2 #[.int .i64 n25_0, .int .i64 n25_1, .int .i64 n25_2, .int .i64 n25_3, .int .i64 n25_4, .int .i64 n25_5, .int .i64 n25_6, .int .i64 n25_7, .int .i64 n25_8, .int .i64 n25_9, .int .i64 n25_10, .int .i64 n25_11, .int .i64 n25_12, .int .i64 n25_13, .int .i64 n25_14, .int .i64 n25_15] w fun w3 =>
 runD Try.prog ds w3 fun w4 =>
 ptrE p2 fun a5 =>
 ∃ nR0_0 : Int, w4.cell? (a5.add 0) = some (.int .i64 nR0_0) ∧
 ∃ nR0_1 : Int, w4.cell? (a5.add 1) = some (.int .i64 nR0_1) ∧
 ∃ nR0_2 : Int, w4.cell? (a5.add 2) = some (.int .i64 nR0_2) ∧
 ∃ nR0_3 : Int, w4.cell? (a5.add 3) = some (.int .i64 nR0_3) ∧
 ∃ nR0_4 : Int, w4.cell? (a5.add 4) = some (.int .i64 nR0_4) ∧
 ∃ nR0_5 : Int, w4.cell? (a5.add 5) = some (.int .i64 nR0_5) ∧
 ∃ nR0_6 : Int, w4.cell? (a5.add 6) = some (.int .i64 nR0_6) ∧
 ∃ nR0_7 : Int, w4.cell? (a5.add 7) = some (.int .i64 nR0_7) ∧
 ∃ nR0_8 : Int, w4.cell? (a5.add 8) = some (.int .i64 nR0_8) ∧
 ∃ nR0_9 : Int, w4.cell? (a5.add 9) = some (.int .i64 nR0_9) ∧
 ∃ nR0_10 : Int, w4.cell? (a5.add 10) = some (.int .i64 nR0_10) ∧
 ∃ nR0_11 : Int, w4.cell? (a5.add 11) = some (.int .i64 nR0_11) ∧
 ∃ nR0_12 : Int, w4.cell? (a5.add 12) = some (.int .i64 nR0_12) ∧
 ∃ nR0_13 : Int, w4.cell? (a5.add 13) = some (.int .i64 nR0_13) ∧
 ∃ nR0_14 : Int, w4.cell? (a5.add 14) = some (.int .i64 nR0_14) ∧
 ∃ nR0_15 : Int, w4.cell? (a5.add 15) = some (.int .i64 nR0_15) ∧
 R (.returned (.agg #[.int .i64 nR0_0, .int .i64 nR0_1, .int .i64 nR0_2, .int .i64 nR0_3, .int .i64 nR0_4, .int .i64 nR0_5, .int .i64 nR0_6, .int .i64 nR0_7, .int .i64 nR0_8, .int .i64 nR0_9, .int .i64 nR0_10, .int .i64 nR0_11, .int .i64 nR0_12, .int .i64 nR0_13, .int .i64 nR0_14, .int .i64 nR0_15])) w4
def F58_k2 (R : Rt) : EP := (fun ρ ds w => dPtr (ρ 2) fun p2 => dPtr (ρ 3) fun p3 => F58_1 R p2 p3 ds w)
def F58_q3 (R : Rt) : EQ := (thenQ (F58_k2 R) (F58_q1 R))
def F58_q4 (R : Rt) : EQ := (blockQ 0 (F58_q3 R))
def F58_q5 (R : Rt) (J1 : (Int) → World → Prop) : EQ := (thenQ (fun ρ _ w => dInt .i64 (ρ 4) fun n4 => J1 n4 w) (F58_q4 R))
def F58_2 (R : Rt) (J1 : (Int) → World → Prop) (l0 : SV) (p2 : Option Addr) (p3 : Option Addr) (n4 : Int) (ds : Ds) (w : World) : Prop :=
 Br (decide (n4 < ((l0.len : Nat) : Int))) (
 dwE w fun w6 =>
 ∃ a7 : Addr, l0.a = some a7 ∧ 0 ≤ n4 ∧ n4 < ((l0.len : Nat) : Int) ∧
 ∃ n15 : Int, w6.cell? ((a7.add (n4.toNat * 4)).add 1) = some (.int .i64 n15) ∧
 ptrE p3 fun a8 =>
 0 ≤ n15 ∧ n15 < ((16 : Nat) : Int) ∧
 ∃ n17 : Int, w6.cell? (a8.add (n15.toNat * 1)) = some (.int .i64 n17) ∧
 ∃ a9 : Addr, l0.a = some a9 ∧ 0 ≤ n4 ∧ n4 < ((l0.len : Nat) : Int) ∧
 ∃ n22 : Int, w6.cell? ((a9.add (n4.toNat * 4)).add 2) = some (.int .i64 n22) ∧
 ptrE p3 fun a10 =>
 0 ≤ n15 ∧ n15 < ((16 : Nat) : Int) ∧
 st1 (a10.add (n15.toNat * 1)) (.int .i64 (IntKind.i64.wrap (n17 + n22))) w6 fun w11 =>
 J1 (IntKind.i64.wrap (n4 + 1)) w11) (
 F58_1 R p2 p3 ds w)
def F58_3 (R : Rt) (l0 : SV) (p2 : Option Addr) (p3 : Option Addr) (n4 : Int) (ds : Ds) (w : World) : Prop :=
 loopT (fun (J1 : (Int) → World → Prop) (s : Int) (w : World) => F58_2 R J1 l0 p2 p3 s ds w) n4 w
@[reducible] def F58_4 (R : Rt) (l0 : SV) (p2 : Option Addr) (p3 : Option Addr) (n4 : Int) (ds : Ds) (w : World) : Prop := F58_3 R l0 p2 p3 n4 ds w
def F58_k6 (R : Rt) : EP := (fun ρ ds w => dSl (ρ 0) fun l0 => dPtr (ρ 2) fun p2 => dPtr (ρ 3) fun p3 => dInt .i64 (ρ 4) fun n4 => F58_4 R l0 p2 p3 n4 ds w)
def F58_5 (R : Rt) (l0 : SV) (ds : Ds) (w : World) : Prop :=
 alE (.cells #[.int .i64 0, .int .i64 0, .int .i64 0, .int .i64 0, .int .i64 0, .int .i64 0, .int .i64 0, .int .i64 0, .int .i64 0, .int .i64 0, .int .i64 0, .int .i64 0, .int .i64 0, .int .i64 0, .int .i64 0, .int .i64 0] 77) w fun r2 w12 =>
 alE (.cells #[.int .i64 0, .int .i64 0, .int .i64 0, .int .i64 0, .int .i64 0, .int .i64 0, .int .i64 0, .int .i64 0, .int .i64 0, .int .i64 0, .int .i64 0, .int .i64 0, .int .i64 0, .int .i64 0, .int .i64 0, .int .i64 0] 77) w12 fun r3 w13 =>
 F58_4 R l0 (some (⟨r2, 0, none⟩ : Addr)) (some (⟨r3, 0, none⟩ : Addr)) 0 ds w13
theorem c58_l : flat (bodyOf Try.f58) = [c58_0, c58_1, c58_2, c58_3, c58_4, c58_5] := by kernel_rfl
theorem c58_3_l : flat (innerC c58_3) = [c58_3_0] := by kernel_rfl
theorem c58_3_0_l : flat (innerC c58_3_0) = [c58_3_0_0, c58_3_0_1, c58_3_0_2, c58_3_0_3] := by kernel_rfl
theorem F58_1_ok (R : Rt) (p2 : Option Addr) (p3 : Option Addr) (ds : Ds) (w : World) (ρ : Env) (e2 : ρ 2 = .pointer p2) (e3 : ρ 3 = .pointer p3) (h : F58_1 R p2 p3 ds w) :
    TrL Try.prog Try.f58.ntmps [c58_4, c58_5] (F58_q1 R) ρ ds w :=
  TrL_leaf (X := F58_1 R p2 p3 ds w) (setAll_cons e2 (setAll_cons e3 setAll_nil)) (by kernel_rfl) (by kernel_rfl) h
theorem F58_2_ok (R : Rt) (J1 : (Int) → World → Prop) (l0 : SV) (p2 : Option Addr) (p3 : Option Addr) (n4 : Int) (ds : Ds) (w : World) (ρ : Env) (e0 : ρ 0 = .slice l0.a l0.len l0.cap) (e2 : ρ 2 = .pointer p2) (e3 : ρ 3 = .pointer p3) (e4 : ρ 4 = .int .i64 n4) (h : F58_2 R J1 l0 p2 p3 n4 ds w) :
    TrL Try.prog Try.f58.ntmps [c58_3_0_0, c58_3_0_1, c58_3_0_2, c58_3_0_3] (F58_q5 R J1) ρ ds w :=
  TrL_leaf (X := F58_2 R J1 l0 p2 p3 n4 ds w) (setAll_cons e0 (setAll_cons e2 (setAll_cons e3 (setAll_cons e4 setAll_nil)))) (by kernel_rfl) (by kernel_rfl) h
theorem F58_3_ok (R : Rt) (l0 : SV) (p2 : Option Addr) (p3 : Option Addr) (n4 : Int) (ds : Ds) (w : World) (ρ : Env) (e0 : ρ 0 = .slice l0.a l0.len l0.cap) (e2 : ρ 2 = .pointer p2) (e3 : ρ 3 = .pointer p3) (e4 : ρ 4 = .int .i64 n4) (h : F58_3 R l0 p2 p3 n4 ds w) :
    TrL Try.prog Try.f58.ntmps [c58_3_0] (F58_q4 R) ρ ds w :=
  TrL_one (Tr_loop' (c := innerC c58_3_0) (σ := Int) (enc := (fun (s : Int) (ρ : Env) => ρ 4 = .int .i64 s)) (D := (fun ρ K => dInt .i64 (ρ 4) fun n4 => K n4)) (F := (fun (J1 : (Int) → World → Prop) (s : Int) (w : World) => F58_2 R J1 l0 p2 p3 s ds w)) (s0 := n4) (by kernel_rfl) c58_3_0_l e4 (by kernel_rfl) (fun ρ K hD => by obtain ⟨n4, e4, hD⟩ := dInt_elim hD; exact ⟨n4, e4, hD⟩)
      (fun J1 s ρ' w' he ha hF => by
      have e4' := he
      exact F58_2_ok R J1 l0 p2 p3 s ds w' ρ' ((ha 0 (by kernel_rfl)).trans e0) ((ha 2 (by kernel_rfl)).trans e2) ((ha 3 (by kernel_rfl)).trans e3) e4' hF) h)
theorem F58_4_ok (R : Rt) (l0 : SV) (p2 : Option Addr) (p3 : Option Addr) (n4 : Int) (ds : Ds) (w : World) (ρ : Env) (e0 : ρ 0 = .slice l0.a l0.len l0.cap) (e2 : ρ 2 = .pointer p2) (e3 : ρ 3 = .pointer p3) (e4 : ρ 4 = .int .i64 n4) (h : F58_4 R l0 p2 p3 n4 ds w) :
    TrL Try.prog Try.f58.ntmps [c58_3, c58_4, c58_5] (F58_q1 R) ρ ds w :=
  TrL_head (K := (F58_k2 R)) (Tr_block' (c := innerC c58_3) (by kernel_rfl) c58_3_l (F58_3_ok R l0 p2 p3 n4 ds w ρ e0 e2 e3 e4 h))
    (fun ρ' ds' w' hD => by
      obtain ⟨p2, e2, hD⟩ := dPtr_elim hD; obtain ⟨p3, e3, hD⟩ := dPtr_elim hD; exact F58_1_ok R p2 p3 ds' w' ρ' e2 e3 hD)
theorem F58_5_ok (R : Rt) (l0 : SV) (ds : Ds) (w : World) (ρ : Env) (e0 : ρ 0 = .slice l0.a l0.len l0.cap) (h : F58_5 R l0 ds w) :
    TrL Try.prog Try.f58.ntmps [c58_0, c58_1, c58_2, c58_3, c58_4, c58_5] (F58_q1 R) ρ ds w :=
  TrL_piece (pre := [c58_0, c58_1, c58_2]) (K := (F58_k6 R)) (X := F58_5 R l0 ds w) (setAll_cons e0 setAll_nil) (by kernel_rfl) (by kernel_rfl)
    (fun ρ' ds' w' hD => by
      obtain ⟨l0, e0, hD⟩ := dSl_elim hD; obtain ⟨p2, e2, hD⟩ := dPtr_elim hD; obtain ⟨p3, e3, hD⟩ := dPtr_elim hD; obtain ⟨n4, e4, hD⟩ := dInt_elim hD; exact F58_4_ok R l0 p2 p3 n4 ds' w' ρ' e0 e2 e3 e4 hD) h
theorem F58_calls (l0 : SV) (w : World) (R : Rt) (h : F58_5 R l0 [] w) : Calls Try.prog 58 #[.slice l0.a l0.len l0.cap] w R :=
  calls_of_L (l := [c58_0, c58_1, c58_2, c58_3, c58_4, c58_5]) Try.func58 (by kernel_rfl) (by rw [Try.ntmps58]; exact Nat.le_of_ble_eq_true (by kernel_rfl)) c58_l
    (F58_5_ok R l0 [] w _ rfl h)
theorem F58_callsD (l0 : SV) (w : World) (R : Rt) (u : FrameMode) (h : F58_5 R l0 [] w) : CallsD Try.prog 58 #[.slice l0.a l0.len l0.cap] u w fun e u' w' => u' = u ∧ R e w' :=
  callsD_of_L (l := [c58_0, c58_1, c58_2, c58_3, c58_4, c58_5]) Try.func58 (by kernel_rfl) (by rw [Try.ntmps58]; exact Nat.le_of_ble_eq_true (by kernel_rfl)) (by kernel_rfl) c58_l
    (F58_5_ok R l0 [] w _ rfl h) u

end Go.Proofs.Ytcnenlmhbpijlaa
