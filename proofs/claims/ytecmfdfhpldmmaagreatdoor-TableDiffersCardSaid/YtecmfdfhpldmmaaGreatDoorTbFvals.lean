import Derived.Test.YtecmfdfhpldmmaaGreatDoorProg
import Derived.Test.YtecmfdfhpldmmaaGreatDoorShEight
/- Shallow texts of functions, printed by program, each checked by the kernel against the loaded code. No condition. -/
set_option maxRecDepth 100000
set_option linter.unusedVariables false
namespace Go.Proofs.YtecmfdfhpldmmaaGreatDoor
open Go.Sh
/-! function 6: cabinetry/cabinetrylaw03.TableValidates -/
noncomputable def c6_0 : Code := itemAt (flat (bodyOf Tryz.f6)) 0
noncomputable def c6_1 : Code := itemAt (flat (bodyOf Tryz.f6)) 1
noncomputable def c6_2 : Code := itemAt (flat (bodyOf Tryz.f6)) 2
noncomputable def c6_3 : Code := itemAt (flat (bodyOf Tryz.f6)) 3
noncomputable def c6_4 : Code := itemAt (flat (bodyOf Tryz.f6)) 4
noncomputable def c6_5 : Code := itemAt (flat (bodyOf Tryz.f6)) 5
noncomputable def c6_6 : Code := itemAt (flat (bodyOf Tryz.f6)) 6
noncomputable def c6_7 : Code := itemAt (flat (bodyOf Tryz.f6)) 7
noncomputable def c6_8 : Code := itemAt (flat (bodyOf Tryz.f6)) 8
def F6_q1 (R : Rt) : EQ := endQ Tryz.prog Tryz.f6.results.toList R
def F6_1 (R : Rt) (b2 : Bool) (ds : Ds) (w : World) : Prop :=
 runD Tryz.prog ds w fun w1 =>
 R (.returned (.bool b2)) w1
def F6_k2 (R : Rt) : EP := (fun ρ ds w => dBl (ρ 2) fun b2 => F6_1 R b2 ds w)
def F6_2 (R : Rt) (p1 : Option Addr) (n3 : Int) (n4 : Int) (n5 : Int) (n6 : Int) (l7 : SV) (n8 : Int) (l9 : SV) (n10 : Int) (ds : Ds) (w : World) : Prop :=
 dwE w fun w2 =>
 ∃ S1 : World → Prop, S1 w2 ∧
 ptrE p1 fun a3 =>
 ∃ n38_0 : Int, (∀ w', S1 w' → w'.cell? (a3.add 0) = some (.int .i64 n38_0)) ∧
 ∃ l38_1 : SV, (∀ w', S1 w' → w'.cell? (a3.add 1) = some (.slice l38_1.a l38_1.len l38_1.cap)) ∧
 ∃ l38_2 : SV, (∀ w', S1 w' → w'.cell? (a3.add 2) = some (.slice l38_2.a l38_2.len l38_2.cap)) ∧
 ptrE p1 fun a4 =>
 ∃ n40_0 : Int, (∀ w', S1 w' → w'.cell? (a4.add 0) = some (.int .i64 n40_0)) ∧
 ∃ l40_1 : SV, (∀ w', S1 w' → w'.cell? (a4.add 1) = some (.slice l40_1.a l40_1.len l40_1.cap)) ∧
 ∃ l40_2 : SV, (∀ w', S1 w' → w'.cell? (a4.add 2) = some (.slice l40_2.a l40_2.len l40_2.cap)) ∧
 Calls Tryz.prog 34 #[.agg #[.int .i64 n38_0, .slice l38_1.a l38_1.len l38_1.cap, .slice l38_2.a l38_2.len l38_2.cap]] w2 fun e w5 =>
 ∃ n39 : Int, e = .returned (.int .i64 n39) ∧
 S1 w5 ∧
 Calls Tryz.prog 35 #[.agg #[.int .i64 n40_0, .slice l40_1.a l40_1.len l40_1.cap, .slice l40_2.a l40_2.len l40_2.cap]] w5 fun e w6 =>
 ∃ n41 : Int, e = .returned (.int .i64 n41) ∧
 S1 w6 ∧
 Br (n39 == n41) (
 ptrE p1 fun a7 =>
 ∃ l45 : SV, (∀ w', S1 w' → w'.cell? (a7.add 1) = some (.slice l45.a l45.len l45.cap)) ∧
 ptrE p1 fun a8 =>
 ∃ l48 : SV, (∀ w', S1 w' → w'.cell? (a8.add 1) = some (.slice l48.a l48.len l48.cap)) ∧
 Calls Tryz.prog 36 #[.slice l45.a l45.len l45.cap] w6 fun e w9 =>
 ∃ n46 : Int, e = .returned (.int .i64 n46) ∧
 S1 w9 ∧
 Calls Tryz.prog 37 #[.slice l48.a l48.len l48.cap] w9 fun e w10 =>
 ∃ n49 : Int, e = .returned (.int .i64 n49) ∧
 Br (n46 == n49) (
 Br (n3 == n5) (
 Br (n4 == n6) (
 Calls Tryz.prog 38 #[.slice l7.a l7.len l7.cap, .slice l9.a l9.len l9.cap] w10 fun e w11 =>
 ∃ b65 : Bool, e = .returned (.bool b65) ∧
 Br b65 (
 Br (n8 == n10) (
 Calls Tryz.prog 12 #[] w11 fun e w12 =>
 ∃ b73 : Bool, e = .returned (.bool b73) ∧
 F6_1 R b73 ds w12) (
 F6_1 R false ds w11)) (
 F6_1 R false ds w11)) (
 F6_1 R false ds w10)) (
 F6_1 R false ds w10)) (
 F6_1 R false ds w10)) (
 F6_1 R false ds w6)
def F6_k3 (R : Rt) : EP := (fun ρ ds w => dPtr (ρ 1) fun p1 => dInt .i64 (ρ 3) fun n3 => dInt .i64 (ρ 4) fun n4 => dInt .i64 (ρ 5) fun n5 => dInt .i64 (ρ 6) fun n6 => dSl (ρ 7) fun l7 => dInt .i64 (ρ 8) fun n8 => dSl (ρ 9) fun l9 => dInt .i64 (ρ 10) fun n10 => F6_2 R p1 n3 n4 n5 n6 l7 n8 l9 n10 ds w)
def F6_3 (R : Rt) (n0_0 : Int) (l0_1 : SV) (l0_2 : SV) (ds : Ds) (w : World) : Prop :=
 alE (.cells #[.int .i64 n0_0, .slice l0_1.a l0_1.len l0_1.cap, .slice l0_2.a l0_2.len l0_2.cap] 35) w fun r1 w13 =>
 ∃ n11_0 : Int, w13.cell? ((⟨r1, 0, none⟩ : Addr).add 0) = some (.int .i64 n11_0) ∧
 ∃ l11_1 : SV, w13.cell? ((⟨r1, 0, none⟩ : Addr).add 1) = some (.slice l11_1.a l11_1.len l11_1.cap) ∧
 ∃ l11_2 : SV, w13.cell? ((⟨r1, 0, none⟩ : Addr).add 2) = some (.slice l11_2.a l11_2.len l11_2.cap) ∧
 Calls Tryz.prog 16 #[.agg #[.int .i64 n11_0, .slice l11_1.a l11_1.len l11_1.cap, .slice l11_2.a l11_2.len l11_2.cap]] w13 fun e w14 =>
 ∃ b12 : Bool, e = .returned (.bool b12) ∧
 Br b12 (
 Calls Tryz.prog 12 #[] w14 fun e w15 =>
 ∃ b13 : Bool, e = .returned (.bool b13) ∧
 runD Tryz.prog ds w15 fun w16 =>
 R (.returned (.bool b13)) w16) (
 ∃ l16 : SV, w14.cell? ((⟨r1, 0, none⟩ : Addr).add 1) = some (.slice l16.a l16.len l16.cap) ∧
 Calls Tryz.prog 30 #[.slice l16.a l16.len l16.cap] w14 fun e w17 =>
 ∃ n17_0 : Int, ∃ n17_1 : Int, e = .returned (.tuple #[.int .i64 n17_0, .int .i64 n17_1]) ∧
 ∃ l22 : SV, w17.cell? ((⟨r1, 0, none⟩ : Addr).add 1) = some (.slice l22.a l22.len l22.cap) ∧
 Calls Tryz.prog 31 #[.slice l22.a l22.len l22.cap] w17 fun e w18 =>
 ∃ n23_0 : Int, ∃ n23_1 : Int, e = .returned (.tuple #[.int .i64 n23_0, .int .i64 n23_1]) ∧
 ∃ l28 : SV, w18.cell? ((⟨r1, 0, none⟩ : Addr).add 1) = some (.slice l28.a l28.len l28.cap) ∧
 Calls Tryz.prog 32 #[.slice l28.a l28.len l28.cap] w18 fun e w19 =>
 ∃ l29_0 : SV, ∃ n29_1 : Int, e = .returned (.tuple #[.slice l29_0.a l29_0.len l29_0.cap, .int .i64 n29_1]) ∧
 ∃ l34 : SV, w19.cell? ((⟨r1, 0, none⟩ : Addr).add 1) = some (.slice l34.a l34.len l34.cap) ∧
 Calls Tryz.prog 33 #[.slice l34.a l34.len l34.cap] w19 fun e w20 =>
 ∃ l35_0 : SV, ∃ n35_1 : Int, e = .returned (.tuple #[.slice l35_0.a l35_0.len l35_0.cap, .int .i64 n35_1]) ∧
 F6_2 R (some (⟨r1, 0, none⟩ : Addr)) n17_0 n17_1 n23_0 n23_1 l29_0 n29_1 l35_0 n35_1 ds w20)
theorem c6_l : flat (bodyOf Tryz.f6) = [c6_0, c6_1, c6_2, c6_3, c6_4, c6_5, c6_6, c6_7, c6_8] := by kernel_rfl
theorem F6_1_ok (R : Rt) (b2 : Bool) (ds : Ds) (w : World) (ρ : Env) (e2 : ρ 2 = .bool b2) (h : F6_1 R b2 ds w) :
    TrL Tryz.prog Tryz.f6.ntmps [c6_8] (F6_q1 R) ρ ds w :=
  TrL_leaf (X := F6_1 R b2 ds w) (setAll_cons e2 setAll_nil) (by kernel_rfl) (by kernel_rfl) h
theorem F6_2_ok (R : Rt) (p1 : Option Addr) (n3 : Int) (n4 : Int) (n5 : Int) (n6 : Int) (l7 : SV) (n8 : Int) (l9 : SV) (n10 : Int) (ds : Ds) (w : World) (ρ : Env) (e1 : ρ 1 = .pointer p1) (e3 : ρ 3 = .int .i64 n3) (e4 : ρ 4 = .int .i64 n4) (e5 : ρ 5 = .int .i64 n5) (e6 : ρ 6 = .int .i64 n6) (e7 : ρ 7 = .slice l7.a l7.len l7.cap) (e8 : ρ 8 = .int .i64 n8) (e9 : ρ 9 = .slice l9.a l9.len l9.cap) (e10 : ρ 10 = .int .i64 n10) (h : F6_2 R p1 n3 n4 n5 n6 l7 n8 l9 n10 ds w) :
    TrL Tryz.prog Tryz.f6.ntmps [c6_7, c6_8] (F6_q1 R) ρ ds w :=
  TrL_piece (pre := [c6_7]) (K := (F6_k2 R)) (X := F6_2 R p1 n3 n4 n5 n6 l7 n8 l9 n10 ds w) (setAll_cons e1 (setAll_cons e3 (setAll_cons e4 (setAll_cons e5 (setAll_cons e6 (setAll_cons e7 (setAll_cons e8 (setAll_cons e9 (setAll_cons e10 setAll_nil))))))))) (by kernel_rfl) (by kernel_rfl)
    (fun ρ' ds' w' hD => by
      obtain ⟨b2, e2, hD⟩ := dBl_elim hD; exact F6_1_ok R b2 ds' w' ρ' e2 hD) h
theorem F6_3_ok (R : Rt) (n0_0 : Int) (l0_1 : SV) (l0_2 : SV) (ds : Ds) (w : World) (ρ : Env) (e0 : ρ 0 = .agg #[.int .i64 n0_0, .slice l0_1.a l0_1.len l0_1.cap, .slice l0_2.a l0_2.len l0_2.cap]) (h : F6_3 R n0_0 l0_1 l0_2 ds w) :
    TrL Tryz.prog Tryz.f6.ntmps [c6_0, c6_1, c6_2, c6_3, c6_4, c6_5, c6_6, c6_7, c6_8] (F6_q1 R) ρ ds w :=
  TrL_piece (pre := [c6_0, c6_1, c6_2, c6_3, c6_4, c6_5, c6_6]) (K := (F6_k3 R)) (X := F6_3 R n0_0 l0_1 l0_2 ds w) (setAll_cons e0 setAll_nil) (by kernel_rfl) (by kernel_rfl)
    (fun ρ' ds' w' hD => by
      obtain ⟨p1, e1, hD⟩ := dPtr_elim hD; obtain ⟨n3, e3, hD⟩ := dInt_elim hD; obtain ⟨n4, e4, hD⟩ := dInt_elim hD; obtain ⟨n5, e5, hD⟩ := dInt_elim hD; obtain ⟨n6, e6, hD⟩ := dInt_elim hD; obtain ⟨l7, e7, hD⟩ := dSl_elim hD; obtain ⟨n8, e8, hD⟩ := dInt_elim hD; obtain ⟨l9, e9, hD⟩ := dSl_elim hD; obtain ⟨n10, e10, hD⟩ := dInt_elim hD; exact F6_2_ok R p1 n3 n4 n5 n6 l7 n8 l9 n10 ds' w' ρ' e1 e3 e4 e5 e6 e7 e8 e9 e10 hD) h
theorem F6_calls (n0_0 : Int) (l0_1 : SV) (l0_2 : SV) (w : World) (R : Rt) (h : F6_3 R n0_0 l0_1 l0_2 [] w) : Calls Tryz.prog 6 #[.agg #[.int .i64 n0_0, .slice l0_1.a l0_1.len l0_1.cap, .slice l0_2.a l0_2.len l0_2.cap]] w R :=
  calls_of_L (l := [c6_0, c6_1, c6_2, c6_3, c6_4, c6_5, c6_6, c6_7, c6_8]) Tryz.func6 (by kernel_rfl) (by rw [Tryz.ntmps6]; exact Nat.le_of_ble_eq_true (by kernel_rfl)) c6_l
    (F6_3_ok R n0_0 l0_1 l0_2 [] w _ rfl h)
theorem F6_callsD (n0_0 : Int) (l0_1 : SV) (l0_2 : SV) (w : World) (R : Rt) (u : FrameMode) (h : F6_3 R n0_0 l0_1 l0_2 [] w) : CallsD Tryz.prog 6 #[.agg #[.int .i64 n0_0, .slice l0_1.a l0_1.len l0_1.cap, .slice l0_2.a l0_2.len l0_2.cap]] u w fun e u' w' => u' = u ∧ R e w' :=
  callsD_of_L (l := [c6_0, c6_1, c6_2, c6_3, c6_4, c6_5, c6_6, c6_7, c6_8]) Tryz.func6 (by kernel_rfl) (by rw [Tryz.ntmps6]; exact Nat.le_of_ble_eq_true (by kernel_rfl)) (by kernel_rfl) c6_l
    (F6_3_ok R n0_0 l0_1 l0_2 [] w _ rfl h) u

/-! function 30: cabinetry/table.Length -/
noncomputable def c30_0 : Code := itemAt (flat (bodyOf Tryz.f30)) 0
noncomputable def c30_1 : Code := itemAt (flat (bodyOf Tryz.f30)) 1
noncomputable def c30_2 : Code := itemAt (flat (bodyOf Tryz.f30)) 2
noncomputable def c30_3 : Code := itemAt (flat (bodyOf Tryz.f30)) 3
noncomputable def c30_4 : Code := itemAt (flat (bodyOf Tryz.f30)) 4
noncomputable def c30_5 : Code := itemAt (flat (bodyOf Tryz.f30)) 5
def F30_q1 (R : Rt) : EQ := endQ Tryz.prog Tryz.f30.results.toList R
def F30_1 (R : Rt) (l0 : SV) (ds : Ds) (w : World) : Prop :=
 Calls Tryz.prog 36 #[.slice l0.a l0.len l0.cap] w fun e w1 =>
 ∃ n6 : Int, e = .returned (.int .i64 n6) ∧
 Br (n6 != 0) (
 runD Tryz.prog ds w1 fun w2 =>
 R (.returned (.tuple #[.int .i64 0, .int .i64 n6])) w2) (
 Calls Tryz.prog 69 #[.slice l0.a l0.len l0.cap] w1 fun e w3 =>
 ∃ n11 : Int, e = .returned (.int .i64 n11) ∧
 runD Tryz.prog ds w3 fun w4 =>
 R (.returned (.tuple #[.int .i64 n11, .int .i64 0])) w4)
theorem c30_l : flat (bodyOf Tryz.f30) = [c30_0, c30_1, c30_2, c30_3, c30_4, c30_5] := by kernel_rfl
theorem F30_1_ok (R : Rt) (l0 : SV) (ds : Ds) (w : World) (ρ : Env) (e0 : ρ 0 = .slice l0.a l0.len l0.cap) (h : F30_1 R l0 ds w) :
    TrL Tryz.prog Tryz.f30.ntmps [c30_0, c30_1, c30_2, c30_3, c30_4, c30_5] (F30_q1 R) ρ ds w :=
  TrL_leaf (X := F30_1 R l0 ds w) (setAll_cons e0 setAll_nil) (by kernel_rfl) (by kernel_rfl) h
theorem F30_calls (l0 : SV) (w : World) (R : Rt) (h : F30_1 R l0 [] w) : Calls Tryz.prog 30 #[.slice l0.a l0.len l0.cap] w R :=
  calls_of_L (l := [c30_0, c30_1, c30_2, c30_3, c30_4, c30_5]) Tryz.func30 (by kernel_rfl) (by rw [Tryz.ntmps30]; exact Nat.le_of_ble_eq_true (by kernel_rfl)) c30_l
    (F30_1_ok R l0 [] w _ rfl h)
theorem F30_callsD (l0 : SV) (w : World) (R : Rt) (u : FrameMode) (h : F30_1 R l0 [] w) : CallsD Tryz.prog 30 #[.slice l0.a l0.len l0.cap] u w fun e u' w' => u' = u ∧ R e w' :=
  callsD_of_L (l := [c30_0, c30_1, c30_2, c30_3, c30_4, c30_5]) Tryz.func30 (by kernel_rfl) (by rw [Tryz.ntmps30]; exact Nat.le_of_ble_eq_true (by kernel_rfl)) (by kernel_rfl) c30_l
    (F30_1_ok R l0 [] w _ rfl h) u

/-! function 31: cabinetry/cabinetryref03.Length -/
noncomputable def c31_0 : Code := itemAt (flat (bodyOf Tryz.f31)) 0
noncomputable def c31_1 : Code := itemAt (flat (bodyOf Tryz.f31)) 1
noncomputable def c31_2 : Code := itemAt (flat (bodyOf Tryz.f31)) 2
noncomputable def c31_3 : Code := itemAt (flat (bodyOf Tryz.f31)) 3
noncomputable def c31_4 : Code := itemAt (flat (bodyOf Tryz.f31)) 4
noncomputable def c31_5 : Code := itemAt (flat (bodyOf Tryz.f31)) 5
def F31_q1 (R : Rt) : EQ := endQ Tryz.prog Tryz.f31.results.toList R
def F31_1 (R : Rt) (l0 : SV) (ds : Ds) (w : World) : Prop :=
 Calls Tryz.prog 37 #[.slice l0.a l0.len l0.cap] w fun e w1 =>
 ∃ n6 : Int, e = .returned (.int .i64 n6) ∧
 Br (n6 != 0) (
 runD Tryz.prog ds w1 fun w2 =>
 R (.returned (.tuple #[.int .i64 0, .int .i64 n6])) w2) (
 Calls Tryz.prog 70 #[.slice l0.a l0.len l0.cap] w1 fun e w3 =>
 ∃ n11 : Int, e = .returned (.int .i64 n11) ∧
 runD Tryz.prog ds w3 fun w4 =>
 R (.returned (.tuple #[.int .i64 n11, .int .i64 0])) w4)
theorem c31_l : flat (bodyOf Tryz.f31) = [c31_0, c31_1, c31_2, c31_3, c31_4, c31_5] := by kernel_rfl
theorem F31_1_ok (R : Rt) (l0 : SV) (ds : Ds) (w : World) (ρ : Env) (e0 : ρ 0 = .slice l0.a l0.len l0.cap) (h : F31_1 R l0 ds w) :
    TrL Tryz.prog Tryz.f31.ntmps [c31_0, c31_1, c31_2, c31_3, c31_4, c31_5] (F31_q1 R) ρ ds w :=
  TrL_leaf (X := F31_1 R l0 ds w) (setAll_cons e0 setAll_nil) (by kernel_rfl) (by kernel_rfl) h
theorem F31_calls (l0 : SV) (w : World) (R : Rt) (h : F31_1 R l0 [] w) : Calls Tryz.prog 31 #[.slice l0.a l0.len l0.cap] w R :=
  calls_of_L (l := [c31_0, c31_1, c31_2, c31_3, c31_4, c31_5]) Tryz.func31 (by kernel_rfl) (by rw [Tryz.ntmps31]; exact Nat.le_of_ble_eq_true (by kernel_rfl)) c31_l
    (F31_1_ok R l0 [] w _ rfl h)
theorem F31_callsD (l0 : SV) (w : World) (R : Rt) (u : FrameMode) (h : F31_1 R l0 [] w) : CallsD Tryz.prog 31 #[.slice l0.a l0.len l0.cap] u w fun e u' w' => u' = u ∧ R e w' :=
  callsD_of_L (l := [c31_0, c31_1, c31_2, c31_3, c31_4, c31_5]) Tryz.func31 (by kernel_rfl) (by rw [Tryz.ntmps31]; exact Nat.le_of_ble_eq_true (by kernel_rfl)) (by kernel_rfl) c31_l
    (F31_1_ok R l0 [] w _ rfl h) u

/-! function 32: cabinetry/table.Offsets -/
noncomputable def c32_0 : Code := itemAt (flat (bodyOf Tryz.f32)) 0
noncomputable def c32_1 : Code := itemAt (flat (bodyOf Tryz.f32)) 1
noncomputable def c32_2 : Code := itemAt (flat (bodyOf Tryz.f32)) 2
noncomputable def c32_3 : Code := itemAt (flat (bodyOf Tryz.f32)) 3
noncomputable def c32_4 : Code := itemAt (flat (bodyOf Tryz.f32)) 4
noncomputable def c32_5 : Code := itemAt (flat (bodyOf Tryz.f32)) 5
noncomputable def c32_6 : Code := itemAt (flat (bodyOf Tryz.f32)) 6
noncomputable def c32_7 : Code := itemAt (flat (bodyOf Tryz.f32)) 7
noncomputable def c32_8 : Code := itemAt (flat (bodyOf Tryz.f32)) 8
noncomputable def c32_9 : Code := itemAt (flat (bodyOf Tryz.f32)) 9
noncomputable def c32_7_0 : Code := itemAt (flat (innerC c32_7)) 0
noncomputable def c32_7_0_0 : Code := itemAt (flat (innerC c32_7_0)) 0
noncomputable def c32_7_0_1 : Code := itemAt (flat (innerC c32_7_0)) 1
noncomputable def c32_7_0_2 : Code := itemAt (flat (innerC c32_7_0)) 2
noncomputable def c32_7_0_3 : Code := itemAt (flat (innerC c32_7_0)) 3
def F32_q1 (R : Rt) : EQ := endQ Tryz.prog Tryz.f32.results.toList R
def F32_1 (R : Rt) (l5 : SV) (ds : Ds) (w : World) : Prop :=
 runD Tryz.prog ds w fun w1 =>
 R (.returned (.tuple #[.slice l5.a l5.len l5.cap, .int .i64 0])) w1
def F32_k2 (R : Rt) : EP := (fun ρ ds w => dSl (ρ 5) fun l5 => F32_1 R l5 ds w)
def F32_q3 (R : Rt) : EQ := (thenQ (F32_k2 R) (F32_q1 R))
def F32_q4 (R : Rt) : EQ := (blockQ 0 (F32_q3 R))
def F32_q5 (R : Rt) (J1 : (SV × Int × Int) → World → Prop) : EQ := (thenQ (fun ρ _ w => dSl (ρ 5) fun l5 => dInt .i64 (ρ 6) fun n6 => dInt .i64 (ρ 19) fun n19 => J1 (l5, n6, n19) w) (F32_q4 R))
def F32_2 (R : Rt) (J1 : (SV × Int × Int) → World → Prop) (l5 : SV) (n6 : Int) (l17 : SV) (n18 : Int) (n19 : Int) (ds : Ds) (w : World) : Prop :=
 Br (decide (n19 < n18)) (
 ∃ a2 : Addr, l17.a = some a2 ∧ 0 ≤ n19 ∧ n19 < ((l17.len : Nat) : Int) ∧
 ∃ s22_0 : ByteArray, w.cell? ((a2.add (n19.toNat * 4)).add 0) = some (.string s22_0) ∧
 ∃ n22_1 : Int, w.cell? ((a2.add (n19.toNat * 4)).add 1) = some (.int .i64 n22_1) ∧
 ∃ n22_2 : Int, w.cell? ((a2.add (n19.toNat * 4)).add 2) = some (.int .i64 n22_2) ∧
 ∃ b22_3 : Bool, w.cell? ((a2.add (n19.toNat * 4)).add 3) = some (.bool b22_3) ∧
 alE (.cells #[.string (⟨#[]⟩ : ByteArray), .int .i64 0, .int .i64 0, .bool false] 23) w fun r8 w3 =>
 stA Tryz.prog 23 (⟨r8, 0, none⟩ : Addr) #[.string s22_0, .int .i64 n22_1, .int .i64 n22_2, .bool b22_3] w3 fun w4 =>
 alE (.cells #[.int .i64 n6] 3) w4 fun r25 w5 =>
 ∃ l26 : SV, ∃ w6 : World, (Builtin.append_ #[55, 55] 55 #[.slice l5.a l5.len l5.cap, .slice (some ⟨r25, 0, none⟩) 1 1]).run Tryz.prog w5 = .ok (.slice l26.a l26.len l26.cap) w6 ∧
 ∃ n29 : Int, w6.cell? ((⟨r8, 0, none⟩ : Addr).add 2) = some (.int .i64 n29) ∧
 J1 (l26, (IntKind.i64.wrap (n6 + n29)), (IntKind.i64.wrap (n19 + 1))) w6) (
 F32_1 R l5 ds w)
def F32_3 (R : Rt) (l5 : SV) (n6 : Int) (l17 : SV) (n18 : Int) (n19 : Int) (ds : Ds) (w : World) : Prop :=
 loopT (fun (J1 : (SV × Int × Int) → World → Prop) (s : SV × Int × Int) (w : World) => F32_2 R J1 s.1 s.2.1 l17 n18 s.2.2 ds w) (l5, n6, n19) w
@[reducible] def F32_4 (R : Rt) (l5 : SV) (n6 : Int) (l17 : SV) (n18 : Int) (n19 : Int) (ds : Ds) (w : World) : Prop := F32_3 R l5 n6 l17 n18 n19 ds w
def F32_k6 (R : Rt) : EP := (fun ρ ds w => dSl (ρ 5) fun l5 => dInt .i64 (ρ 6) fun n6 => dSl (ρ 17) fun l17 => dInt .i64 (ρ 18) fun n18 => dInt .i64 (ρ 19) fun n19 => F32_4 R l5 n6 l17 n18 n19 ds w)
def F32_5 (R : Rt) (l0 : SV) (ds : Ds) (w : World) : Prop :=
 Calls Tryz.prog 36 #[.slice l0.a l0.len l0.cap] w fun e w7 =>
 ∃ n10 : Int, e = .returned (.int .i64 n10) ∧
 Br (n10 != 0) (
 runD Tryz.prog ds w7 fun w8 =>
 R (.returned (.tuple #[.slice none 0 0, .int .i64 n10])) w8) (
 Calls Tryz.prog 71 #[.slice l0.a l0.len l0.cap] w7 fun e w9 =>
 ∃ n15 : Int, e = .returned (.int .i64 n15) ∧
 F32_4 R ⟨none, 0, 0⟩ (IntKind.i64.wrap ((1 : Int) + n15)) l0 ((l0.len : Nat) : Int) 0 ds w9)
theorem c32_l : flat (bodyOf Tryz.f32) = [c32_0, c32_1, c32_2, c32_3, c32_4, c32_5, c32_6, c32_7, c32_8, c32_9] := by kernel_rfl
theorem c32_7_l : flat (innerC c32_7) = [c32_7_0] := by kernel_rfl
theorem c32_7_0_l : flat (innerC c32_7_0) = [c32_7_0_0, c32_7_0_1, c32_7_0_2, c32_7_0_3] := by kernel_rfl
theorem F32_1_ok (R : Rt) (l5 : SV) (ds : Ds) (w : World) (ρ : Env) (e5 : ρ 5 = .slice l5.a l5.len l5.cap) (h : F32_1 R l5 ds w) :
    TrL Tryz.prog Tryz.f32.ntmps [c32_8, c32_9] (F32_q1 R) ρ ds w :=
  TrL_leaf (X := F32_1 R l5 ds w) (setAll_cons e5 setAll_nil) (by kernel_rfl) (by kernel_rfl) h
theorem F32_2_ok (R : Rt) (J1 : (SV × Int × Int) → World → Prop) (l5 : SV) (n6 : Int) (l17 : SV) (n18 : Int) (n19 : Int) (ds : Ds) (w : World) (ρ : Env) (e5 : ρ 5 = .slice l5.a l5.len l5.cap) (e6 : ρ 6 = .int .i64 n6) (e17 : ρ 17 = .slice l17.a l17.len l17.cap) (e18 : ρ 18 = .int .i64 n18) (e19 : ρ 19 = .int .i64 n19) (h : F32_2 R J1 l5 n6 l17 n18 n19 ds w) :
    TrL Tryz.prog Tryz.f32.ntmps [c32_7_0_0, c32_7_0_1, c32_7_0_2, c32_7_0_3] (F32_q5 R J1) ρ ds w :=
  TrL_leaf (X := F32_2 R J1 l5 n6 l17 n18 n19 ds w) (setAll_cons e5 (setAll_cons e6 (setAll_cons e17 (setAll_cons e18 (setAll_cons e19 setAll_nil))))) (by kernel_rfl) (by kernel_rfl) h
theorem F32_3_ok (R : Rt) (l5 : SV) (n6 : Int) (l17 : SV) (n18 : Int) (n19 : Int) (ds : Ds) (w : World) (ρ : Env) (e5 : ρ 5 = .slice l5.a l5.len l5.cap) (e6 : ρ 6 = .int .i64 n6) (e17 : ρ 17 = .slice l17.a l17.len l17.cap) (e18 : ρ 18 = .int .i64 n18) (e19 : ρ 19 = .int .i64 n19) (h : F32_3 R l5 n6 l17 n18 n19 ds w) :
    TrL Tryz.prog Tryz.f32.ntmps [c32_7_0] (F32_q4 R) ρ ds w :=
  TrL_one (Tr_loop' (c := innerC c32_7_0) (σ := SV × Int × Int) (enc := (fun (s : SV × Int × Int) (ρ : Env) => ρ 5 = .slice s.1.a s.1.len s.1.cap ∧ ρ 6 = .int .i64 s.2.1 ∧ ρ 19 = .int .i64 s.2.2)) (D := (fun ρ K => dSl (ρ 5) fun l5 => dInt .i64 (ρ 6) fun n6 => dInt .i64 (ρ 19) fun n19 => K (l5, n6, n19))) (F := (fun (J1 : (SV × Int × Int) → World → Prop) (s : SV × Int × Int) (w : World) => F32_2 R J1 s.1 s.2.1 l17 n18 s.2.2 ds w)) (s0 := (l5, n6, n19)) (by kernel_rfl) c32_7_0_l ⟨e5, e6, e19⟩ (by kernel_rfl) (fun ρ K hD => by obtain ⟨l5, e5, hD⟩ := dSl_elim hD; obtain ⟨n6, e6, hD⟩ := dInt_elim hD; obtain ⟨n19, e19, hD⟩ := dInt_elim hD; exact ⟨(l5, n6, n19), ⟨e5, e6, e19⟩, hD⟩)
      (fun J1 s ρ' w' he ha hF => by
      obtain ⟨e5', e6', e19'⟩ := he
      exact F32_2_ok R J1 s.1 s.2.1 l17 n18 s.2.2 ds w' ρ' e5' e6' ((ha 17 (by kernel_rfl)).trans e17) ((ha 18 (by kernel_rfl)).trans e18) e19' hF) h)
theorem F32_4_ok (R : Rt) (l5 : SV) (n6 : Int) (l17 : SV) (n18 : Int) (n19 : Int) (ds : Ds) (w : World) (ρ : Env) (e5 : ρ 5 = .slice l5.a l5.len l5.cap) (e6 : ρ 6 = .int .i64 n6) (e17 : ρ 17 = .slice l17.a l17.len l17.cap) (e18 : ρ 18 = .int .i64 n18) (e19 : ρ 19 = .int .i64 n19) (h : F32_4 R l5 n6 l17 n18 n19 ds w) :
    TrL Tryz.prog Tryz.f32.ntmps [c32_7, c32_8, c32_9] (F32_q1 R) ρ ds w :=
  TrL_head (K := (F32_k2 R)) (Tr_block' (c := innerC c32_7) (by kernel_rfl) c32_7_l (F32_3_ok R l5 n6 l17 n18 n19 ds w ρ e5 e6 e17 e18 e19 h))
    (fun ρ' ds' w' hD => by
      obtain ⟨l5, e5, hD⟩ := dSl_elim hD; exact F32_1_ok R l5 ds' w' ρ' e5 hD)
theorem F32_5_ok (R : Rt) (l0 : SV) (ds : Ds) (w : World) (ρ : Env) (e0 : ρ 0 = .slice l0.a l0.len l0.cap) (h : F32_5 R l0 ds w) :
    TrL Tryz.prog Tryz.f32.ntmps [c32_0, c32_1, c32_2, c32_3, c32_4, c32_5, c32_6, c32_7, c32_8, c32_9] (F32_q1 R) ρ ds w :=
  TrL_piece (pre := [c32_0, c32_1, c32_2, c32_3, c32_4, c32_5, c32_6]) (K := (F32_k6 R)) (X := F32_5 R l0 ds w) (setAll_cons e0 setAll_nil) (by kernel_rfl) (by kernel_rfl)
    (fun ρ' ds' w' hD => by
      obtain ⟨l5, e5, hD⟩ := dSl_elim hD; obtain ⟨n6, e6, hD⟩ := dInt_elim hD; obtain ⟨l17, e17, hD⟩ := dSl_elim hD; obtain ⟨n18, e18, hD⟩ := dInt_elim hD; obtain ⟨n19, e19, hD⟩ := dInt_elim hD; exact F32_4_ok R l5 n6 l17 n18 n19 ds' w' ρ' e5 e6 e17 e18 e19 hD) h
theorem F32_calls (l0 : SV) (w : World) (R : Rt) (h : F32_5 R l0 [] w) : Calls Tryz.prog 32 #[.slice l0.a l0.len l0.cap] w R :=
  calls_of_L (l := [c32_0, c32_1, c32_2, c32_3, c32_4, c32_5, c32_6, c32_7, c32_8, c32_9]) Tryz.func32 (by kernel_rfl) (by rw [Tryz.ntmps32]; exact Nat.le_of_ble_eq_true (by kernel_rfl)) c32_l
    (F32_5_ok R l0 [] w _ rfl h)
theorem F32_callsD (l0 : SV) (w : World) (R : Rt) (u : FrameMode) (h : F32_5 R l0 [] w) : CallsD Tryz.prog 32 #[.slice l0.a l0.len l0.cap] u w fun e u' w' => u' = u ∧ R e w' :=
  callsD_of_L (l := [c32_0, c32_1, c32_2, c32_3, c32_4, c32_5, c32_6, c32_7, c32_8, c32_9]) Tryz.func32 (by kernel_rfl) (by rw [Tryz.ntmps32]; exact Nat.le_of_ble_eq_true (by kernel_rfl)) (by kernel_rfl) c32_l
    (F32_5_ok R l0 [] w _ rfl h) u

/-! function 33: cabinetry/cabinetryref03.Offsets -/
noncomputable def c33_0 : Code := itemAt (flat (bodyOf Tryz.f33)) 0
noncomputable def c33_1 : Code := itemAt (flat (bodyOf Tryz.f33)) 1
noncomputable def c33_2 : Code := itemAt (flat (bodyOf Tryz.f33)) 2
noncomputable def c33_3 : Code := itemAt (flat (bodyOf Tryz.f33)) 3
noncomputable def c33_4 : Code := itemAt (flat (bodyOf Tryz.f33)) 4
noncomputable def c33_5 : Code := itemAt (flat (bodyOf Tryz.f33)) 5
noncomputable def c33_6 : Code := itemAt (flat (bodyOf Tryz.f33)) 6
noncomputable def c33_7 : Code := itemAt (flat (bodyOf Tryz.f33)) 7
noncomputable def c33_8 : Code := itemAt (flat (bodyOf Tryz.f33)) 8
noncomputable def c33_9 : Code := itemAt (flat (bodyOf Tryz.f33)) 9
noncomputable def c33_7_0 : Code := itemAt (flat (innerC c33_7)) 0
noncomputable def c33_7_0_0 : Code := itemAt (flat (innerC c33_7_0)) 0
noncomputable def c33_7_0_1 : Code := itemAt (flat (innerC c33_7_0)) 1
noncomputable def c33_7_0_2 : Code := itemAt (flat (innerC c33_7_0)) 2
noncomputable def c33_7_0_3 : Code := itemAt (flat (innerC c33_7_0)) 3
def F33_q1 (R : Rt) : EQ := endQ Tryz.prog Tryz.f33.results.toList R
def F33_1 (R : Rt) (l5 : SV) (ds : Ds) (w : World) : Prop :=
 runD Tryz.prog ds w fun w1 =>
 R (.returned (.tuple #[.slice l5.a l5.len l5.cap, .int .i64 0])) w1
def F33_k2 (R : Rt) : EP := (fun ρ ds w => dSl (ρ 5) fun l5 => F33_1 R l5 ds w)
def F33_q3 (R : Rt) : EQ := (thenQ (F33_k2 R) (F33_q1 R))
def F33_q4 (R : Rt) : EQ := (blockQ 0 (F33_q3 R))
def F33_q5 (R : Rt) (J1 : (SV × Int × Int) → World → Prop) : EQ := (thenQ (fun ρ _ w => dSl (ρ 5) fun l5 => dInt .i64 (ρ 6) fun n6 => dInt .i64 (ρ 7) fun n7 => J1 (l5, n6, n7) w) (F33_q4 R))
def F33_2 (R : Rt) (J1 : (SV × Int × Int) → World → Prop) (l0 : SV) (l5 : SV) (n6 : Int) (n7 : Int) (ds : Ds) (w : World) : Prop :=
 Br (decide (n7 < ((l0.len : Nat) : Int))) (
 alE (.cells #[.int .i64 n6] 3) w fun r24 w2 =>
 ∃ l25 : SV, ∃ w3 : World, (Builtin.append_ #[55, 55] 55 #[.slice l5.a l5.len l5.cap, .slice (some ⟨r24, 0, none⟩) 1 1]).run Tryz.prog w2 = .ok (.slice l25.a l25.len l25.cap) w3 ∧
 ∃ a4 : Addr, l0.a = some a4 ∧ 0 ≤ n7 ∧ n7 < ((l0.len : Nat) : Int) ∧
 ∃ n31 : Int, w3.cell? ((a4.add (n7.toNat * 4)).add 2) = some (.int .i64 n31) ∧
 J1 (l25, (IntKind.i64.wrap (n6 + n31)), (IntKind.i64.wrap (n7 + 1))) w3) (
 F33_1 R l5 ds w)
def F33_3 (R : Rt) (l0 : SV) (l5 : SV) (n6 : Int) (n7 : Int) (ds : Ds) (w : World) : Prop :=
 loopT (fun (J1 : (SV × Int × Int) → World → Prop) (s : SV × Int × Int) (w : World) => F33_2 R J1 l0 s.1 s.2.1 s.2.2 ds w) (l5, n6, n7) w
@[reducible] def F33_4 (R : Rt) (l0 : SV) (l5 : SV) (n6 : Int) (n7 : Int) (ds : Ds) (w : World) : Prop := F33_3 R l0 l5 n6 n7 ds w
def F33_k6 (R : Rt) : EP := (fun ρ ds w => dSl (ρ 0) fun l0 => dSl (ρ 5) fun l5 => dInt .i64 (ρ 6) fun n6 => dInt .i64 (ρ 7) fun n7 => F33_4 R l0 l5 n6 n7 ds w)
def F33_5 (R : Rt) (l0 : SV) (ds : Ds) (w : World) : Prop :=
 Calls Tryz.prog 37 #[.slice l0.a l0.len l0.cap] w fun e w5 =>
 ∃ n9 : Int, e = .returned (.int .i64 n9) ∧
 Br (n9 != 0) (
 runD Tryz.prog ds w5 fun w6 =>
 R (.returned (.tuple #[.slice none 0 0, .int .i64 n9])) w6) (
 Calls Tryz.prog 72 #[.slice l0.a l0.len l0.cap] w5 fun e w7 =>
 ∃ n14 : Int, e = .returned (.int .i64 n14) ∧
 F33_4 R l0 ⟨none, 0, 0⟩ (IntKind.i64.wrap ((1 : Int) + n14)) 0 ds w7)
theorem c33_l : flat (bodyOf Tryz.f33) = [c33_0, c33_1, c33_2, c33_3, c33_4, c33_5, c33_6, c33_7, c33_8, c33_9] := by kernel_rfl
theorem c33_7_l : flat (innerC c33_7) = [c33_7_0] := by kernel_rfl
theorem c33_7_0_l : flat (innerC c33_7_0) = [c33_7_0_0, c33_7_0_1, c33_7_0_2, c33_7_0_3] := by kernel_rfl
theorem F33_1_ok (R : Rt) (l5 : SV) (ds : Ds) (w : World) (ρ : Env) (e5 : ρ 5 = .slice l5.a l5.len l5.cap) (h : F33_1 R l5 ds w) :
    TrL Tryz.prog Tryz.f33.ntmps [c33_8, c33_9] (F33_q1 R) ρ ds w :=
  TrL_leaf (X := F33_1 R l5 ds w) (setAll_cons e5 setAll_nil) (by kernel_rfl) (by kernel_rfl) h
theorem F33_2_ok (R : Rt) (J1 : (SV × Int × Int) → World → Prop) (l0 : SV) (l5 : SV) (n6 : Int) (n7 : Int) (ds : Ds) (w : World) (ρ : Env) (e0 : ρ 0 = .slice l0.a l0.len l0.cap) (e5 : ρ 5 = .slice l5.a l5.len l5.cap) (e6 : ρ 6 = .int .i64 n6) (e7 : ρ 7 = .int .i64 n7) (h : F33_2 R J1 l0 l5 n6 n7 ds w) :
    TrL Tryz.prog Tryz.f33.ntmps [c33_7_0_0, c33_7_0_1, c33_7_0_2, c33_7_0_3] (F33_q5 R J1) ρ ds w :=
  TrL_leaf (X := F33_2 R J1 l0 l5 n6 n7 ds w) (setAll_cons e0 (setAll_cons e5 (setAll_cons e6 (setAll_cons e7 setAll_nil)))) (by kernel_rfl) (by kernel_rfl) h
theorem F33_3_ok (R : Rt) (l0 : SV) (l5 : SV) (n6 : Int) (n7 : Int) (ds : Ds) (w : World) (ρ : Env) (e0 : ρ 0 = .slice l0.a l0.len l0.cap) (e5 : ρ 5 = .slice l5.a l5.len l5.cap) (e6 : ρ 6 = .int .i64 n6) (e7 : ρ 7 = .int .i64 n7) (h : F33_3 R l0 l5 n6 n7 ds w) :
    TrL Tryz.prog Tryz.f33.ntmps [c33_7_0] (F33_q4 R) ρ ds w :=
  TrL_one (Tr_loop' (c := innerC c33_7_0) (σ := SV × Int × Int) (enc := (fun (s : SV × Int × Int) (ρ : Env) => ρ 5 = .slice s.1.a s.1.len s.1.cap ∧ ρ 6 = .int .i64 s.2.1 ∧ ρ 7 = .int .i64 s.2.2)) (D := (fun ρ K => dSl (ρ 5) fun l5 => dInt .i64 (ρ 6) fun n6 => dInt .i64 (ρ 7) fun n7 => K (l5, n6, n7))) (F := (fun (J1 : (SV × Int × Int) → World → Prop) (s : SV × Int × Int) (w : World) => F33_2 R J1 l0 s.1 s.2.1 s.2.2 ds w)) (s0 := (l5, n6, n7)) (by kernel_rfl) c33_7_0_l ⟨e5, e6, e7⟩ (by kernel_rfl) (fun ρ K hD => by obtain ⟨l5, e5, hD⟩ := dSl_elim hD; obtain ⟨n6, e6, hD⟩ := dInt_elim hD; obtain ⟨n7, e7, hD⟩ := dInt_elim hD; exact ⟨(l5, n6, n7), ⟨e5, e6, e7⟩, hD⟩)
      (fun J1 s ρ' w' he ha hF => by
      obtain ⟨e5', e6', e7'⟩ := he
      exact F33_2_ok R J1 l0 s.1 s.2.1 s.2.2 ds w' ρ' ((ha 0 (by kernel_rfl)).trans e0) e5' e6' e7' hF) h)
theorem F33_4_ok (R : Rt) (l0 : SV) (l5 : SV) (n6 : Int) (n7 : Int) (ds : Ds) (w : World) (ρ : Env) (e0 : ρ 0 = .slice l0.a l0.len l0.cap) (e5 : ρ 5 = .slice l5.a l5.len l5.cap) (e6 : ρ 6 = .int .i64 n6) (e7 : ρ 7 = .int .i64 n7) (h : F33_4 R l0 l5 n6 n7 ds w) :
    TrL Tryz.prog Tryz.f33.ntmps [c33_7, c33_8, c33_9] (F33_q1 R) ρ ds w :=
  TrL_head (K := (F33_k2 R)) (Tr_block' (c := innerC c33_7) (by kernel_rfl) c33_7_l (F33_3_ok R l0 l5 n6 n7 ds w ρ e0 e5 e6 e7 h))
    (fun ρ' ds' w' hD => by
      obtain ⟨l5, e5, hD⟩ := dSl_elim hD; exact F33_1_ok R l5 ds' w' ρ' e5 hD)
theorem F33_5_ok (R : Rt) (l0 : SV) (ds : Ds) (w : World) (ρ : Env) (e0 : ρ 0 = .slice l0.a l0.len l0.cap) (h : F33_5 R l0 ds w) :
    TrL Tryz.prog Tryz.f33.ntmps [c33_0, c33_1, c33_2, c33_3, c33_4, c33_5, c33_6, c33_7, c33_8, c33_9] (F33_q1 R) ρ ds w :=
  TrL_piece (pre := [c33_0, c33_1, c33_2, c33_3, c33_4, c33_5, c33_6]) (K := (F33_k6 R)) (X := F33_5 R l0 ds w) (setAll_cons e0 setAll_nil) (by kernel_rfl) (by kernel_rfl)
    (fun ρ' ds' w' hD => by
      obtain ⟨l0, e0, hD⟩ := dSl_elim hD; obtain ⟨l5, e5, hD⟩ := dSl_elim hD; obtain ⟨n6, e6, hD⟩ := dInt_elim hD; obtain ⟨n7, e7, hD⟩ := dInt_elim hD; exact F33_4_ok R l0 l5 n6 n7 ds' w' ρ' e0 e5 e6 e7 hD) h
theorem F33_calls (l0 : SV) (w : World) (R : Rt) (h : F33_5 R l0 [] w) : Calls Tryz.prog 33 #[.slice l0.a l0.len l0.cap] w R :=
  calls_of_L (l := [c33_0, c33_1, c33_2, c33_3, c33_4, c33_5, c33_6, c33_7, c33_8, c33_9]) Tryz.func33 (by kernel_rfl) (by rw [Tryz.ntmps33]; exact Nat.le_of_ble_eq_true (by kernel_rfl)) c33_l
    (F33_5_ok R l0 [] w _ rfl h)
theorem F33_callsD (l0 : SV) (w : World) (R : Rt) (u : FrameMode) (h : F33_5 R l0 [] w) : CallsD Tryz.prog 33 #[.slice l0.a l0.len l0.cap] u w fun e u' w' => u' = u ∧ R e w' :=
  callsD_of_L (l := [c33_0, c33_1, c33_2, c33_3, c33_4, c33_5, c33_6, c33_7, c33_8, c33_9]) Tryz.func33 (by kernel_rfl) (by rw [Tryz.ntmps33]; exact Nat.le_of_ble_eq_true (by kernel_rfl)) (by kernel_rfl) c33_l
    (F33_5_ok R l0 [] w _ rfl h) u

/-! function 38: cabinetry/cabinetryref01.SameInts -/
noncomputable def c38_0 : Code := itemAt (flat (bodyOf Tryz.f38)) 0
noncomputable def c38_1 : Code := itemAt (flat (bodyOf Tryz.f38)) 1
noncomputable def c38_2 : Code := itemAt (flat (bodyOf Tryz.f38)) 2
noncomputable def c38_3 : Code := itemAt (flat (bodyOf Tryz.f38)) 3
noncomputable def c38_4 : Code := itemAt (flat (bodyOf Tryz.f38)) 4
noncomputable def c38_5 : Code := itemAt (flat (bodyOf Tryz.f38)) 5
noncomputable def c38_6 : Code := itemAt (flat (bodyOf Tryz.f38)) 6
noncomputable def c38_4_0 : Code := itemAt (flat (innerC c38_4)) 0
noncomputable def c38_4_0_0 : Code := itemAt (flat (innerC c38_4_0)) 0
noncomputable def c38_4_0_1 : Code := itemAt (flat (innerC c38_4_0)) 1
noncomputable def c38_4_0_2 : Code := itemAt (flat (innerC c38_4_0)) 2
noncomputable def c38_4_0_3 : Code := itemAt (flat (innerC c38_4_0)) 3
def F38_q1 (R : Rt) : EQ := endQ Tryz.prog Tryz.f38.results.toList R
def F38_1 (R : Rt) (ds : Ds) (w : World) : Prop :=
 runD Tryz.prog ds w fun w1 =>
 R (.returned (.bool true)) w1
def F38_k2 (R : Rt) : EP := (fun ρ ds w => F38_1 R ds w)
def F38_q3 (R : Rt) : EQ := (thenQ (F38_k2 R) (F38_q1 R))
def F38_q4 (R : Rt) : EQ := (blockQ 0 (F38_q3 R))
def F38_q5 (R : Rt) (J1 : (Int) → World → Prop) : EQ := (thenQ (fun ρ _ w => dInt .i64 (ρ 5) fun n5 => J1 n5 w) (F38_q4 R))
def F38_2 (R : Rt) (J1 : (Int) → World → Prop) (l0 : SV) (l1 : SV) (n5 : Int) (ds : Ds) (w : World) : Prop :=
 Br (decide (n5 < ((l0.len : Nat) : Int))) (
 dwE w fun w2 =>
 ∃ a3 : Addr, l0.a = some a3 ∧ 0 ≤ n5 ∧ n5 < ((l0.len : Nat) : Int) ∧
 ∃ n20 : Int, w2.cell? (a3.add (n5.toNat * 1)) = some (.int .i64 n20) ∧
 ∃ a4 : Addr, l1.a = some a4 ∧ 0 ≤ n5 ∧ n5 < ((l1.len : Nat) : Int) ∧
 ∃ n24 : Int, w2.cell? (a4.add (n5.toNat * 1)) = some (.int .i64 n24) ∧
 Br (n20 != n24) (
 runD Tryz.prog ds w2 fun w5 =>
 R (.returned (.bool false)) w5) (
 J1 (IntKind.i64.wrap (n5 + 1)) w2)) (
 F38_1 R ds w)
def F38_3 (R : Rt) (l0 : SV) (l1 : SV) (n5 : Int) (ds : Ds) (w : World) : Prop :=
 loopT (fun (J1 : (Int) → World → Prop) (s : Int) (w : World) => F38_2 R J1 l0 l1 s ds w) n5 w
@[reducible] def F38_4 (R : Rt) (l0 : SV) (l1 : SV) (n5 : Int) (ds : Ds) (w : World) : Prop := F38_3 R l0 l1 n5 ds w
def F38_k6 (R : Rt) : EP := (fun ρ ds w => dSl (ρ 0) fun l0 => dSl (ρ 1) fun l1 => dInt .i64 (ρ 5) fun n5 => F38_4 R l0 l1 n5 ds w)
def F38_5 (R : Rt) (l0 : SV) (l1 : SV) (ds : Ds) (w : World) : Prop :=
 Br (((l0.len : Nat) : Int) != ((l1.len : Nat) : Int)) (
 runD Tryz.prog ds w fun w6 =>
 R (.returned (.bool false)) w6) (
 F38_4 R l0 l1 0 ds w)
theorem c38_l : flat (bodyOf Tryz.f38) = [c38_0, c38_1, c38_2, c38_3, c38_4, c38_5, c38_6] := by kernel_rfl
theorem c38_4_l : flat (innerC c38_4) = [c38_4_0] := by kernel_rfl
theorem c38_4_0_l : flat (innerC c38_4_0) = [c38_4_0_0, c38_4_0_1, c38_4_0_2, c38_4_0_3] := by kernel_rfl
theorem F38_1_ok (R : Rt) (ds : Ds) (w : World) (ρ : Env) (h : F38_1 R ds w) :
    TrL Tryz.prog Tryz.f38.ntmps [c38_5, c38_6] (F38_q1 R) ρ ds w :=
  TrL_leaf (X := F38_1 R ds w) setAll_nil (by kernel_rfl) (by kernel_rfl) h
theorem F38_2_ok (R : Rt) (J1 : (Int) → World → Prop) (l0 : SV) (l1 : SV) (n5 : Int) (ds : Ds) (w : World) (ρ : Env) (e0 : ρ 0 = .slice l0.a l0.len l0.cap) (e1 : ρ 1 = .slice l1.a l1.len l1.cap) (e5 : ρ 5 = .int .i64 n5) (h : F38_2 R J1 l0 l1 n5 ds w) :
    TrL Tryz.prog Tryz.f38.ntmps [c38_4_0_0, c38_4_0_1, c38_4_0_2, c38_4_0_3] (F38_q5 R J1) ρ ds w :=
  TrL_leaf (X := F38_2 R J1 l0 l1 n5 ds w) (setAll_cons e0 (setAll_cons e1 (setAll_cons e5 setAll_nil))) (by kernel_rfl) (by kernel_rfl) h
theorem F38_3_ok (R : Rt) (l0 : SV) (l1 : SV) (n5 : Int) (ds : Ds) (w : World) (ρ : Env) (e0 : ρ 0 = .slice l0.a l0.len l0.cap) (e1 : ρ 1 = .slice l1.a l1.len l1.cap) (e5 : ρ 5 = .int .i64 n5) (h : F38_3 R l0 l1 n5 ds w) :
    TrL Tryz.prog Tryz.f38.ntmps [c38_4_0] (F38_q4 R) ρ ds w :=
  TrL_one (Tr_loop' (c := innerC c38_4_0) (σ := Int) (enc := (fun (s : Int) (ρ : Env) => ρ 5 = .int .i64 s)) (D := (fun ρ K => dInt .i64 (ρ 5) fun n5 => K n5)) (F := (fun (J1 : (Int) → World → Prop) (s : Int) (w : World) => F38_2 R J1 l0 l1 s ds w)) (s0 := n5) (by kernel_rfl) c38_4_0_l e5 (by kernel_rfl) (fun ρ K hD => by obtain ⟨n5, e5, hD⟩ := dInt_elim hD; exact ⟨n5, e5, hD⟩)
      (fun J1 s ρ' w' he ha hF => by
      have e5' := he
      exact F38_2_ok R J1 l0 l1 s ds w' ρ' ((ha 0 (by kernel_rfl)).trans e0) ((ha 1 (by kernel_rfl)).trans e1) e5' hF) h)
theorem F38_4_ok (R : Rt) (l0 : SV) (l1 : SV) (n5 : Int) (ds : Ds) (w : World) (ρ : Env) (e0 : ρ 0 = .slice l0.a l0.len l0.cap) (e1 : ρ 1 = .slice l1.a l1.len l1.cap) (e5 : ρ 5 = .int .i64 n5) (h : F38_4 R l0 l1 n5 ds w) :
    TrL Tryz.prog Tryz.f38.ntmps [c38_4, c38_5, c38_6] (F38_q1 R) ρ ds w :=
  TrL_head (K := (F38_k2 R)) (Tr_block' (c := innerC c38_4) (by kernel_rfl) c38_4_l (F38_3_ok R l0 l1 n5 ds w ρ e0 e1 e5 h))
    (fun ρ' ds' w' hD => by
      exact F38_1_ok R ds' w' ρ'  hD)
theorem F38_5_ok (R : Rt) (l0 : SV) (l1 : SV) (ds : Ds) (w : World) (ρ : Env) (e0 : ρ 0 = .slice l0.a l0.len l0.cap) (e1 : ρ 1 = .slice l1.a l1.len l1.cap) (h : F38_5 R l0 l1 ds w) :
    TrL Tryz.prog Tryz.f38.ntmps [c38_0, c38_1, c38_2, c38_3, c38_4, c38_5, c38_6] (F38_q1 R) ρ ds w :=
  TrL_piece (pre := [c38_0, c38_1, c38_2, c38_3]) (K := (F38_k6 R)) (X := F38_5 R l0 l1 ds w) (setAll_cons e0 (setAll_cons e1 setAll_nil)) (by kernel_rfl) (by kernel_rfl)
    (fun ρ' ds' w' hD => by
      obtain ⟨l0, e0, hD⟩ := dSl_elim hD; obtain ⟨l1, e1, hD⟩ := dSl_elim hD; obtain ⟨n5, e5, hD⟩ := dInt_elim hD; exact F38_4_ok R l0 l1 n5 ds' w' ρ' e0 e1 e5 hD) h
theorem F38_calls (l0 : SV) (l1 : SV) (w : World) (R : Rt) (h : F38_5 R l0 l1 [] w) : Calls Tryz.prog 38 #[.slice l0.a l0.len l0.cap, .slice l1.a l1.len l1.cap] w R :=
  calls_of_L (l := [c38_0, c38_1, c38_2, c38_3, c38_4, c38_5, c38_6]) Tryz.func38 (by kernel_rfl) (by rw [Tryz.ntmps38]; exact Nat.le_of_ble_eq_true (by kernel_rfl)) c38_l
    (F38_5_ok R l0 l1 [] w _ rfl rfl h)
theorem F38_callsD (l0 : SV) (l1 : SV) (w : World) (R : Rt) (u : FrameMode) (h : F38_5 R l0 l1 [] w) : CallsD Tryz.prog 38 #[.slice l0.a l0.len l0.cap, .slice l1.a l1.len l1.cap] u w fun e u' w' => u' = u ∧ R e w' :=
  callsD_of_L (l := [c38_0, c38_1, c38_2, c38_3, c38_4, c38_5, c38_6]) Tryz.func38 (by kernel_rfl) (by rw [Tryz.ntmps38]; exact Nat.le_of_ble_eq_true (by kernel_rfl)) (by kernel_rfl) c38_l
    (F38_5_ok R l0 l1 [] w _ rfl rfl h) u

end Go.Proofs.YtecmfdfhpldmmaaGreatDoor
