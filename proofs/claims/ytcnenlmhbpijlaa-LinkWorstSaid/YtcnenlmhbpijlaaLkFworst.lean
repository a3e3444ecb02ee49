import Derived.Test.YtcnenlmhbpijlaaProg
import Derived.Test.YtcnenlmhbpijlaaShEight
/- Shallow texts of functions, printed by program, each checked by the kernel against the loaded code. No condition. -/
set_option maxRecDepth 100000
set_option linter.unusedVariables false
namespace Go.Proofs.Ytcnenlmhbpijlaa
open Go.Sh
/-! function 12: cabinetry/cabinetrylaw24.LinkBound -/
noncomputable def c12_0 : Code := itemAt (flat (bodyOf Try.f12)) 0
noncomputable def c12_1 : Code := itemAt (flat (bodyOf Try.f12)) 1
noncomputable def c12_2 : Code := itemAt (flat (bodyOf Try.f12)) 2
noncomputable def c12_3 : Code := itemAt (flat (bodyOf Try.f12)) 3
noncomputable def c12_4 : Code := itemAt (flat (bodyOf Try.f12)) 4
noncomputable def c12_5 : Code := itemAt (flat (bodyOf Try.f12)) 5
noncomputable def c12_6 : Code := itemAt (flat (bodyOf Try.f12)) 6
noncomputable def c12_7 : Code := itemAt (flat (bodyOf Try.f12)) 7
noncomputable def c12_8 : Code := itemAt (flat (bodyOf Try.f12)) 8
def F12_q1 (R : Rt) : EQ := endQ Try.prog Try.f12.results.toList R
def F12_1 (R : Rt) (l2 : SV) (n7 : Int) (n9 : Int) (n10 : Int) (ds : Ds) (w : World) : Prop :=
 Br (n10 == 0) (
 Br (decide (n7 ≤ n9)) (
 Br (decide (n9 ≤ (IntKind.i64.wrap (((l2.len : Nat) : Int) + 1)))) (
 Calls Try.prog 16 #[] w fun e w1 =>
 ∃ b66 : Bool, e = .returned (.bool b66) ∧
 runD Try.prog ds w1 fun w2 =>
 R (.returned (.bool b66)) w2) (
 runD Try.prog ds w fun w3 =>
 R (.returned (.bool false)) w3)) (
 runD Try.prog ds w fun w4 =>
 R (.returned (.bool false)) w4)) (
 runD Try.prog ds w fun w5 =>
 R (.returned (.bool false)) w5)
def F12_k2 (R : Rt) : EP := (fun ρ ds w => dSl (ρ 2) fun l2 => dInt .i64 (ρ 7) fun n7 => dInt .i64 (ρ 9) fun n9 => dInt .i64 (ρ 10) fun n10 => F12_1 R l2 n7 n9 n10 ds w)
def F12_2 (R : Rt) (l0 : SV) (s1 : ByteArray) (l2 : SV) (ds : Ds) (w : World) : Prop :=
 Calls Try.prog 17 #[.slice l0.a l0.len l0.cap, .string s1, .slice l2.a l2.len l2.cap] w fun e w6 =>
 ∃ n32_0 : Int, ∃ n32_1 : Int, e = .returned (.tuple #[.int .i64 n32_0, .int .i64 n32_1]) ∧
 Br (n32_1 != 0) (
 Calls Try.prog 16 #[] w6 fun e w7 =>
 ∃ b42 : Bool, e = .returned (.bool b42) ∧
 runD Try.prog ds w7 fun w8 =>
 R (.returned (.bool b42)) w8) (
 Br (decide (((l2.len : Nat) : Int) > 12)) (
 Calls Try.prog 16 #[] w6 fun e w9 =>
 ∃ b42 : Bool, e = .returned (.bool b42) ∧
 runD Try.prog ds w9 fun w10 =>
 R (.returned (.bool b42)) w10) (
 Calls Try.prog 42 #[.slice l0.a l0.len l0.cap, .string s1, .int .i64 ((l2.len : Nat) : Int)] w6 fun e w11 =>
 ∃ n48_0 : Int, ∃ n48_1 : Int, e = .returned (.tuple #[.int .i64 n48_0, .int .i64 n48_1]) ∧
 F12_1 R l2 n32_0 n48_0 n48_1 ds w11))
def F12_k3 (R : Rt) : EP := (fun ρ ds w => dSl (ρ 0) fun l0 => dStr (ρ 1) fun s1 => dSl (ρ 2) fun l2 => F12_2 R l0 s1 l2 ds w)
def F12_3 (R : Rt) (l0 : SV) (s1 : ByteArray) (l2 : SV) (ds : Ds) (w : World) : Prop :=
 Calls Try.prog 14 #[.slice l0.a l0.len l0.cap] w fun e w12 =>
 ∃ b12 : Bool, e = .returned (.bool b12) ∧
 Br b12 (
 Calls Try.prog 16 #[] w12 fun e w13 =>
 ∃ b27 : Bool, e = .returned (.bool b27) ∧
 runD Try.prog ds w13 fun w14 =>
 R (.returned (.bool b27)) w14) (
 Br (decide (((s1.size : Nat) : Int) > 65536)) (
 Calls Try.prog 16 #[] w12 fun e w15 =>
 ∃ b27 : Bool, e = .returned (.bool b27) ∧
 runD Try.prog ds w15 fun w16 =>
 R (.returned (.bool b27)) w16) (
 Calls Try.prog 15 #[.slice l2.a l2.len l2.cap] w12 fun e w17 =>
 ∃ n20 : Int, e = .returned (.int .i64 n20) ∧
 Br (decide (n20 > 65536)) (
 Calls Try.prog 16 #[] w17 fun e w18 =>
 ∃ b27 : Bool, e = .returned (.bool b27) ∧
 runD Try.prog ds w18 fun w19 =>
 R (.returned (.bool b27)) w19) (
 Calls Try.prog 41 #[.slice l0.a l0.len l0.cap] w17 fun e w20 =>
 ∃ b25 : Bool, e = .returned (.bool b25) ∧
 Br b25 (
 Calls Try.prog 16 #[] w20 fun e w21 =>
 ∃ b27 : Bool, e = .returned (.bool b27) ∧
 runD Try.prog ds w21 fun w22 =>
 R (.returned (.bool b27)) w22) (
 F12_2 R l0 s1 l2 ds w20))))
theorem c12_l : flat (bodyOf Try.f12) = [c12_0, c12_1, c12_2, c12_3, c12_4, c12_5, c12_6, c12_7, c12_8] := by kernel_rfl
theorem F12_1_ok (R : Rt) (l2 : SV) (n7 : Int) (n9 : Int) (n10 : Int) (ds : Ds) (w : World) (ρ : Env) (e2 : ρ 2 = .slice l2.a l2.len l2.cap) (e7 : ρ 7 = .int .i64 n7) (e9 : ρ 9 = .int .i64 n9) (e10 : ρ 10 = .int .i64 n10) (h : F12_1 R l2 n7 n9 n10 ds w) :
    TrL Try.prog Try.f12.ntmps [c12_7, c12_8] (F12_q1 R) ρ ds w :=
  TrL_leaf (X := F12_1 R l2 n7 n9 n10 ds w) (setAll_cons e2 (setAll_cons e7 (setAll_cons e9 (setAll_cons e10 setAll_nil)))) (by kernel_rfl) (by kernel_rfl) h
theorem F12_2_ok (R : Rt) (l0 : SV) (s1 : ByteArray) (l2 : SV) (ds : Ds) (w : World) (ρ : Env) (e0 : ρ 0 = .slice l0.a l0.len l0.cap) (e1 : ρ 1 = .string s1) (e2 : ρ 2 = .slice l2.a l2.len l2.cap) (h : F12_2 R l0 s1 l2 ds w) :
    TrL Try.prog Try.f12.ntmps [c12_3, c12_4, c12_5, c12_6, c12_7, c12_8] (F12_q1 R) ρ ds w :=
  TrL_piece (pre := [c12_3, c12_4, c12_5, c12_6]) (K := (F12_k2 R)) (X := F12_2 R l0 s1 l2 ds w) (setAll_cons e0 (setAll_cons e1 (setAll_cons e2 setAll_nil))) (by kernel_rfl) (by kernel_rfl)
    (fun ρ' ds' w' hD => by
      obtain ⟨l2, e2, hD⟩ := dSl_elim hD; obtain ⟨n7, e7, hD⟩ := dInt_elim hD; obtain ⟨n9, e9, hD⟩ := dInt_elim hD; obtain ⟨n10, e10, hD⟩ := dInt_elim hD; exact F12_1_ok R l2 n7 n9 n10 ds' w' ρ' e2 e7 e9 e10 hD) h
theorem F12_3_ok (R : Rt) (l0 : SV) (s1 : ByteArray) (l2 : SV) (ds : Ds) (w : World) (ρ : Env) (e0 : ρ 0 = .slice l0.a l0.len l0.cap) (e1 : ρ 1 = .string s1) (e2 : ρ 2 = .slice l2.a l2.len l2.cap) (h : F12_3 R l0 s1 l2 ds w) :
    TrL Try.prog Try.f12.ntmps [c12_0, c12_1, c12_2, c12_3, c12_4, c12_5, c12_6, c12_7, c12_8] (F12_q1 R) ρ ds w :=
  TrL_piece (pre := [c12_0, c12_1, c12_2]) (K := (F12_k3 R)) (X := F12_3 R l0 s1 l2 ds w) (setAll_cons e0 (setAll_cons e1 (setAll_cons e2 setAll_nil))) (by kernel_rfl) (by kernel_rfl)
    (fun ρ' ds' w' hD => by
      obtain ⟨l0, e0, hD⟩ := dSl_elim hD; obtain ⟨s1, e1, hD⟩ := dStr_elim hD; obtain ⟨l2, e2, hD⟩ := dSl_elim hD; exact F12_2_ok R l0 s1 l2 ds' w' ρ' e0 e1 e2 hD) h
theorem F12_calls (l0 : SV) (s1 : ByteArray) (l2 : SV) (w : World) (R : Rt) (h : F12_3 R l0 s1 l2 [] w) : Calls Try.prog 12 #[.slice l0.a l0.len l0.cap, .string s1, .slice l2.a l2.len l2.cap] w R :=
  calls_of_L (l := [c12_0, c12_1, c12_2, c12_3, c12_4, c12_5, c12_6, c12_7, c12_8]) Try.func12 (by kernel_rfl) (by rw [Try.ntmps12]; exact Nat.le_of_ble_eq_true (by kernel_rfl)) c12_l
    (F12_3_ok R l0 s1 l2 [] w _ rfl rfl rfl h)
theorem F12_callsD (l0 : SV) (s1 : ByteArray) (l2 : SV) (w : World) (R : Rt) (u : FrameMode) (h : F12_3 R l0 s1 l2 [] w) : CallsD Try.prog 12 #[.slice l0.a l0.len l0.cap, .string s1, .slice l2.a l2.len l2.cap] u w fun e u' w' => u' = u ∧ R e w' :=
  callsD_of_L (l := [c12_0, c12_1, c12_2, c12_3, c12_4, c12_5, c12_6, c12_7, c12_8]) Try.func12 (by kernel_rfl) (by rw [Try.ntmps12]; exact Nat.le_of_ble_eq_true (by kernel_rfl)) (by kernel_rfl) c12_l
    (F12_3_ok R l0 s1 l2 [] w _ rfl rfl rfl h) u

/-! function 13: cabinetry/cabinetrylaw24.LinkWorst -/
noncomputable def c13_0 : Code := itemAt (flat (bodyOf Try.f13)) 0
noncomputable def c13_1 : Code := itemAt (flat (bodyOf Try.f13)) 1
noncomputable def c13_2 : Code := itemAt (flat (bodyOf Try.f13)) 2
noncomputable def c13_3 : Code := itemAt (flat (bodyOf Try.f13)) 3
noncomputable def c13_4 : Code := itemAt (flat (bodyOf Try.f13)) 4
noncomputable def c13_5 : Code := itemAt (flat (bodyOf Try.f13)) 5
noncomputable def c13_6 : Code := itemAt (flat (bodyOf Try.f13)) 6
def F13_q1 (R : Rt) : EQ := endQ Try.prog Try.f13.results.toList R
def F13_1 (R : Rt) (l0 : SV) (s1 : ByteArray) (n2 : Int) (ds : Ds) (w : World) : Prop :=
 Calls Try.prog 42 #[.slice l0.a l0.len l0.cap, .string s1, .int .i64 n2] w fun e w1 =>
 ∃ n32_0 : Int, ∃ n32_1 : Int, e = .returned (.tuple #[.int .i64 n32_0, .int .i64 n32_1]) ∧
 Calls Try.prog 43 #[.slice l0.a l0.len l0.cap, .string s1, .int .i64 n2] w1 fun e w2 =>
 ∃ n39_0 : Int, ∃ n39_1 : Int, e = .returned (.tuple #[.int .i64 n39_0, .int .i64 n39_1]) ∧
 Br (n32_0 == n39_0) (
 Br (n32_1 == n39_1) (
 Calls Try.prog 16 #[] w2 fun e w3 =>
 ∃ b51 : Bool, e = .returned (.bool b51) ∧
 runD Try.prog ds w3 fun w4 =>
 R (.returned (.bool b51)) w4) (
 runD Try.prog ds w2 fun w5 =>
 R (.returned (.bool false)) w5)) (
 runD Try.prog ds w2 fun w6 =>
 R (.returned (.bool false)) w6)
def F13_k2 (R : Rt) : EP := (fun ρ ds w => dSl (ρ 0) fun l0 => dStr (ρ 1) fun s1 => dInt .i64 (ρ 2) fun n2 => F13_1 R l0 s1 n2 ds w)
def F13_2 (R : Rt) (l0 : SV) (s1 : ByteArray) (n2 : Int) (ds : Ds) (w : World) : Prop :=
 Calls Try.prog 14 #[.slice l0.a l0.len l0.cap] w fun e w7 =>
 ∃ b12 : Bool, e = .returned (.bool b12) ∧
 Br b12 (
 Calls Try.prog 16 #[] w7 fun e w8 =>
 ∃ b27 : Bool, e = .returned (.bool b27) ∧
 runD Try.prog ds w8 fun w9 =>
 R (.returned (.bool b27)) w9) (
 Br (decide (((s1.size : Nat) : Int) > 65536)) (
 Calls Try.prog 16 #[] w7 fun e w10 =>
 ∃ b27 : Bool, e = .returned (.bool b27) ∧
 runD Try.prog ds w10 fun w11 =>
 R (.returned (.bool b27)) w11) (
 Calls Try.prog 41 #[.slice l0.a l0.len l0.cap] w7 fun e w12 =>
 ∃ b20 : Bool, e = .returned (.bool b20) ∧
 Br b20 (
 Calls Try.prog 18 #[.slice l0.a l0.len l0.cap] w12 fun e w13 =>
 ∃ n23 : Int, e = .returned (.int .i64 n23) ∧
 Br (n23 == 0) (
 Calls Try.prog 16 #[] w13 fun e w14 =>
 ∃ b27 : Bool, e = .returned (.bool b27) ∧
 runD Try.prog ds w14 fun w15 =>
 R (.returned (.bool b27)) w15) (
 F13_1 R l0 s1 n2 ds w13)) (
 F13_1 R l0 s1 n2 ds w12)))
theorem c13_l : flat (bodyOf Try.f13) = [c13_0, c13_1, c13_2, c13_3, c13_4, c13_5, c13_6] := by kernel_rfl
theorem F13_1_ok (R : Rt) (l0 : SV) (s1 : ByteArray) (n2 : Int) (ds : Ds) (w : World) (ρ : Env) (e0 : ρ 0 = .slice l0.a l0.len l0.cap) (e1 : ρ 1 = .string s1) (e2 : ρ 2 = .int .i64 n2) (h : F13_1 R l0 s1 n2 ds w) :
    TrL Try.prog Try.f13.ntmps [c13_3, c13_4, c13_5, c13_6] (F13_q1 R) ρ ds w :=
  TrL_leaf (X := F13_1 R l0 s1 n2 ds w) (setAll_cons e0 (setAll_cons e1 (setAll_cons e2 setAll_nil))) (by kernel_rfl) (by kernel_rfl) h
theorem F13_2_ok (R : Rt) (l0 : SV) (s1 : ByteArray) (n2 : Int) (ds : Ds) (w : World) (ρ : Env) (e0 : ρ 0 = .slice l0.a l0.len l0.cap) (e1 : ρ 1 = .string s1) (e2 : ρ 2 = .int .i64 n2) (h : F13_2 R l0 s1 n2 ds w) :
    TrL Try.prog Try.f13.ntmps [c13_0, c13_1, c13_2, c13_3, c13_4, c13_5, c13_6] (F13_q1 R) ρ ds w :=
  TrL_piece (pre := [c13_0, c13_1, c13_2]) (K := (F13_k2 R)) (X := F13_2 R l0 s1 n2 ds w) (setAll_cons e0 (setAll_cons e1 (setAll_cons e2 setAll_nil))) (by kernel_rfl) (by kernel_rfl)
    (fun ρ' ds' w' hD => by
      obtain ⟨l0, e0, hD⟩ := dSl_elim hD; obtain ⟨s1, e1, hD⟩ := dStr_elim hD; obtain ⟨n2, e2, hD⟩ := dInt_elim hD; exact F13_1_ok R l0 s1 n2 ds' w' ρ' e0 e1 e2 hD) h
theorem F13_calls (l0 : SV) (s1 : ByteArray) (n2 : Int) (w : World) (R : Rt) (h : F13_2 R l0 s1 n2 [] w) : Calls Try.prog 13 #[.slice l0.a l0.len l0.cap, .string s1, .int .i64 n2] w R :=
  calls_of_L (l := [c13_0, c13_1, c13_2, c13_3, c13_4, c13_5, c13_6]) Try.func13 (by kernel_rfl) (by rw [Try.ntmps13]; exact Nat.le_of_ble_eq_true (by kernel_rfl)) c13_l
    (F13_2_ok R l0 s1 n2 [] w _ rfl rfl rfl h)
theorem F13_callsD (l0 : SV) (s1 : ByteArray) (n2 : Int) (w : World) (R : Rt) (u : FrameMode) (h : F13_2 R l0 s1 n2 [] w) : CallsD Try.prog 13 #[.slice l0.a l0.len l0.cap, .string s1, .int .i64 n2] u w fun e u' w' => u' = u ∧ R e w' :=
  callsD_of_L (l := [c13_0, c13_1, c13_2, c13_3, c13_4, c13_5, c13_6]) Try.func13 (by kernel_rfl) (by rw [Try.ntmps13]; exact Nat.le_of_ble_eq_true (by kernel_rfl)) (by kernel_rfl) c13_l
    (F13_2_ok R l0 s1 n2 [] w _ rfl rfl rfl h) u

/-! function 41: cabinetry/cabinetrylaw24.wide -/
noncomputable def c41_0 : Code := itemAt (flat (bodyOf Try.f41)) 0
noncomputable def c41_1 : Code := itemAt (flat (bodyOf Try.f41)) 1
noncomputable def c41_2 : Code := itemAt (flat (bodyOf Try.f41)) 2
noncomputable def c41_3 : Code := itemAt (flat (bodyOf Try.f41)) 3
noncomputable def c41_4 : Code := itemAt (flat (bodyOf Try.f41)) 4
noncomputable def c41_2_0 : Code := itemAt (flat (innerC c41_2)) 0
noncomputable def c41_2_0_0 : Code := itemAt (flat (innerC c41_2_0)) 0
noncomputable def c41_2_0_1 : Code := itemAt (flat (innerC c41_2_0)) 1
noncomputable def c41_2_0_2 : Code := itemAt (flat (innerC c41_2_0)) 2
noncomputable def c41_2_0_3 : Code := itemAt (flat (innerC c41_2_0)) 3
noncomputable def c41_2_0_2_0 : Code := itemAt (flat (innerC c41_2_0_2)) 0
noncomputable def c41_2_0_2_1 : Code := itemAt (flat (innerC c41_2_0_2)) 1
noncomputable def c41_2_0_2_1_0 : Code := itemAt (flat (innerC c41_2_0_2_1)) 0
noncomputable def c41_2_0_2_1_0_0 : Code := itemAt (flat (innerC c41_2_0_2_1_0)) 0
noncomputable def c41_2_0_2_1_0_1 : Code := itemAt (flat (innerC c41_2_0_2_1_0)) 1
noncomputable def c41_2_0_2_1_0_2 : Code := itemAt (flat (innerC c41_2_0_2_1_0)) 2
noncomputable def c41_2_0_2_1_0_3 : Code := itemAt (flat (innerC c41_2_0_2_1_0)) 3
def F41_q1 (R : Rt) : EQ := endQ Try.prog Try.f41.results.toList R
def F41_1 (R : Rt) (l0 : SV) (ds : Ds) (w : World) : Prop :=
 Calls Try.prog 82 #[.slice l0.a l0.len l0.cap] w fun e w1 =>
 ∃ n32 : Int, e = .returned (.int .i64 n32) ∧
 runD Try.prog ds w1 fun w2 =>
 R (.returned (.bool (decide (n32 > 14)))) w2
def F41_k2 (R : Rt) : EP := (fun ρ ds w => dSl (ρ 0) fun l0 => F41_1 R l0 ds w)
def F41_q3 (R : Rt) : EQ := (thenQ (F41_k2 R) (F41_q1 R))
def F41_q4 (R : Rt) : EQ := (blockQ 0 (F41_q3 R))
def F41_q5 (R : Rt) (J1 : (Int) → World → Prop) : EQ := (thenQ (fun ρ _ w => dInt .i64 (ρ 3) fun n3 => J1 n3 w) (F41_q4 R))
def F41_2 (R : Rt) (J1 : (Int) → World → Prop) (l0 : SV) (n3 : Int) (ds : Ds) (w : World) : Prop :=
 J1 (IntKind.i64.wrap (n3 + 1)) w
def F41_k6 (R : Rt) (J1 : (Int) → World → Prop) : EP := (fun ρ ds w => dSl (ρ 0) fun l0 => dInt .i64 (ρ 3) fun n3 => F41_2 R J1 l0 n3 ds w)
def F41_q7 (R : Rt) (J1 : (Int) → World → Prop) : EQ := (thenQ (F41_k6 R J1) (F41_q5 R J1))
def F41_q8 (R : Rt) (J1 : (Int) → World → Prop) : EQ := (blockQ 1 (F41_q7 R J1))
def F41_q9 (R : Rt) (J1 : (Int) → World → Prop) : EQ := (blockQ 2 (F41_q8 R J1))
def F41_q10 (R : Rt) (J1 : (Int) → World → Prop) (J2 : (Int) → World → Prop) : EQ := (thenQ (fun ρ _ w => dInt .i64 (ρ 4) fun n4 => J2 n4 w) (F41_q9 R J1))
def F41_3 (R : Rt) (J1 : (Int) → World → Prop) (J2 : (Int) → World → Prop) (l0 : SV) (n3 : Int) (n4 : Int) (ds : Ds) (w : World) : Prop :=
 ∃ a3 : Addr, l0.a = some a3 ∧ 0 ≤ n3 ∧ n3 < ((l0.len : Nat) : Int) ∧
 ∃ l16 : SV, w.cell? ((a3.add (n3.toNat * 5)).add 4) = some (.slice l16.a l16.len l16.cap) ∧
 Br (decide (n4 < ((l16.len : Nat) : Int))) (
 ∃ a4 : Addr, l0.a = some a4 ∧ 0 ≤ n3 ∧ n3 < ((l0.len : Nat) : Int) ∧
 ∃ l25 : SV, w.cell? ((a4.add (n3.toNat * 5)).add 4) = some (.slice l25.a l25.len l25.cap) ∧
 ∃ a5 : Addr, l25.a = some a5 ∧ 0 ≤ n4 ∧ n4 < ((l25.len : Nat) : Int) ∧
 ∃ l28 : SV, w.cell? (a5.add (n4.toNat * 1)) = some (.slice l28.a l28.len l28.cap) ∧
 Br (decide (((l28.len : Nat) : Int) > 2)) (
 runD Try.prog ds w fun w6 =>
 R (.returned (.bool true)) w6) (
 J2 (IntKind.i64.wrap (n4 + 1)) w)) (
 F41_2 R J1 l0 n3 ds w)
def F41_4 (R : Rt) (J1 : (Int) → World → Prop) (l0 : SV) (n3 : Int) (n4 : Int) (ds : Ds) (w : World) : Prop :=
 loopT (fun (J2 : (Int) → World → Prop) (s : Int) (w : World) => F41_3 R J1 J2 l0 n3 s ds w) n4 w
@[reducible] def F41_5 (R : Rt) (J1 : (Int) → World → Prop) (l0 : SV) (n3 : Int) (n4 : Int) (ds : Ds) (w : World) : Prop := F41_4 R J1 l0 n3 n4 ds w
def F41_k11 (R : Rt) (J1 : (Int) → World → Prop) : EP := (fun ρ ds w => dSl (ρ 0) fun l0 => dInt .i64 (ρ 3) fun n3 => dInt .i64 (ρ 4) fun n4 => F41_5 R J1 l0 n3 n4 ds w)
def F41_6 (R : Rt) (J1 : (Int) → World → Prop) (l0 : SV) (n3 : Int) (ds : Ds) (w : World) : Prop :=
 F41_5 R J1 l0 n3 0 ds w
@[reducible] def F41_7 (R : Rt) (J1 : (Int) → World → Prop) (l0 : SV) (n3 : Int) (ds : Ds) (w : World) : Prop := F41_6 R J1 l0 n3 ds w
def F41_k12 (R : Rt) (J1 : (Int) → World → Prop) : EP := (fun ρ ds w => dSl (ρ 0) fun l0 => dInt .i64 (ρ 3) fun n3 => F41_7 R J1 l0 n3 ds w)
def F41_8 (R : Rt) (J1 : (Int) → World → Prop) (l0 : SV) (n3 : Int) (ds : Ds) (w : World) : Prop :=
 Br (decide (n3 < ((l0.len : Nat) : Int))) (
 F41_7 R J1 l0 n3 ds w) (
 F41_1 R l0 ds w)
def F41_9 (R : Rt) (l0 : SV) (n3 : Int) (ds : Ds) (w : World) : Prop :=
 loopT (fun (J1 : (Int) → World → Prop) (s : Int) (w : World) => F41_8 R J1 l0 s ds w) n3 w
@[reducible] def F41_10 (R : Rt) (l0 : SV) (n3 : Int) (ds : Ds) (w : World) : Prop := F41_9 R l0 n3 ds w
def F41_k13 (R : Rt) : EP := (fun ρ ds w => dSl (ρ 0) fun l0 => dInt .i64 (ρ 3) fun n3 => F41_10 R l0 n3 ds w)
def F41_11 (R : Rt) (l0 : SV) (ds : Ds) (w : World) : Prop :=
 F41_10 R l0 0 ds w
theorem c41_l : flat (bodyOf Try.f41) = [c41_0, c41_1, c41_2, c41_3, c41_4] := by kernel_rfl
theorem c41_2_l : flat (innerC c41_2) = [c41_2_0] := by kernel_rfl
theorem c41_2_0_l : flat (innerC c41_2_0) = [c41_2_0_0, c41_2_0_1, c41_2_0_2, c41_2_0_3] := by kernel_rfl
theorem c41_2_0_2_l : flat (innerC c41_2_0_2) = [c41_2_0_2_0, c41_2_0_2_1] := by kernel_rfl
theorem c41_2_0_2_1_l : flat (innerC c41_2_0_2_1) = [c41_2_0_2_1_0] := by kernel_rfl
theorem c41_2_0_2_1_0_l : flat (innerC c41_2_0_2_1_0) = [c41_2_0_2_1_0_0, c41_2_0_2_1_0_1, c41_2_0_2_1_0_2, c41_2_0_2_1_0_3] := by kernel_rfl
theorem F41_1_ok (R : Rt) (l0 : SV) (ds : Ds) (w : World) (ρ : Env) (e0 : ρ 0 = .slice l0.a l0.len l0.cap) (h : F41_1 R l0 ds w) :
    TrL Try.prog Try.f41.ntmps [c41_3, c41_4] (F41_q1 R) ρ ds w :=
  TrL_leaf (X := F41_1 R l0 ds w) (setAll_cons e0 setAll_nil) (by kernel_rfl) (by kernel_rfl) h
theorem F41_2_ok (R : Rt) (J1 : (Int) → World → Prop) (l0 : SV) (n3 : Int) (ds : Ds) (w : World) (ρ : Env) (e0 : ρ 0 = .slice l0.a l0.len l0.cap) (e3 : ρ 3 = .int .i64 n3) (h : F41_2 R J1 l0 n3 ds w) :
    TrL Try.prog Try.f41.ntmps [c41_2_0_3] (F41_q5 R J1) ρ ds w :=
  TrL_leaf (X := F41_2 R J1 l0 n3 ds w) (setAll_cons e0 (setAll_cons e3 setAll_nil)) (by kernel_rfl) (by kernel_rfl) h
theorem F41_3_ok (R : Rt) (J1 : (Int) → World → Prop) (J2 : (Int) → World → Prop) (l0 : SV) (n3 : Int) (n4 : Int) (ds : Ds) (w : World) (ρ : Env) (e0 : ρ 0 = .slice l0.a l0.len l0.cap) (e3 : ρ 3 = .int .i64 n3) (e4 : ρ 4 = .int .i64 n4) (h : F41_3 R J1 J2 l0 n3 n4 ds w) :
    TrL Try.prog Try.f41.ntmps [c41_2_0_2_1_0_0, c41_2_0_2_1_0_1, c41_2_0_2_1_0_2, c41_2_0_2_1_0_3] (F41_q10 R J1 J2) ρ ds w :=
  TrL_leaf (X := F41_3 R J1 J2 l0 n3 n4 ds w) (setAll_cons e0 (setAll_cons e3 (setAll_cons e4 setAll_nil))) (by kernel_rfl) (by kernel_rfl) h
theorem F41_4_ok (R : Rt) (J1 : (Int) → World → Prop) (l0 : SV) (n3 : Int) (n4 : Int) (ds : Ds) (w : World) (ρ : Env) (e0 : ρ 0 = .slice l0.a l0.len l0.cap) (e3 : ρ 3 = .int .i64 n3) (e4 : ρ 4 = .int .i64 n4) (h : F41_4 R J1 l0 n3 n4 ds w) :
    TrL Try.prog Try.f41.ntmps [c41_2_0_2_1_0] (F41_q9 R J1) ρ ds w :=
  TrL_one (Tr_loop' (c := innerC c41_2_0_2_1_0) (σ := Int) (enc := (fun (s : Int) (ρ : Env) => ρ 4 = .int .i64 s)) (D := (fun ρ K => dInt .i64 (ρ 4) fun n4 => K n4)) (F := (fun (J2 : (Int) → World → Prop) (s : Int) (w : World) => F41_3 R J1 J2 l0 n3 s ds w)) (s0 := n4) (by kernel_rfl) c41_2_0_2_1_0_l e4 (by kernel_rfl) (fun ρ K hD => by obtain ⟨n4, e4, hD⟩ := dInt_elim hD; exact ⟨n4, e4, hD⟩)
      (fun J2 s ρ' w' he ha hF => by
      have e4' := he
      exact F41_3_ok R J1 J2 l0 n3 s ds w' ρ' ((ha 0 (by kernel_rfl)).trans e0) ((ha 3 (by kernel_rfl)).trans e3) e4' hF) h)
theorem F41_5_ok (R : Rt) (J1 : (Int) → World → Prop) (l0 : SV) (n3 : Int) (n4 : Int) (ds : Ds) (w : World) (ρ : Env) (e0 : ρ 0 = .slice l0.a l0.len l0.cap) (e3 : ρ 3 = .int .i64 n3) (e4 : ρ 4 = .int .i64 n4) (h : F41_5 R J1 l0 n3 n4 ds w) :
    TrL Try.prog Try.f41.ntmps [c41_2_0_2_1] (F41_q8 R J1) ρ ds w :=
  TrL_one (Tr_block' (c := innerC c41_2_0_2_1) (by kernel_rfl) c41_2_0_2_1_l (F41_4_ok R J1 l0 n3 n4 ds w ρ e0 e3 e4 h))
theorem F41_6_ok (R : Rt) (J1 : (Int) → World → Prop) (l0 : SV) (n3 : Int) (ds : Ds) (w : World) (ρ : Env) (e0 : ρ 0 = .slice l0.a l0.len l0.cap) (e3 : ρ 3 = .int .i64 n3) (h : F41_6 R J1 l0 n3 ds w) :
    TrL Try.prog Try.f41.ntmps [c41_2_0_2_0, c41_2_0_2_1] (F41_q8 R J1) ρ ds w :=
  TrL_piece (pre := [c41_2_0_2_0]) (K := (F41_k11 R J1)) (X := F41_6 R J1 l0 n3 ds w) (setAll_cons e0 (setAll_cons e3 setAll_nil)) (by kernel_rfl) (by kernel_rfl)
    (fun ρ' ds' w' hD => by
      obtain ⟨l0, e0, hD⟩ := dSl_elim hD; obtain ⟨n3, e3, hD⟩ := dInt_elim hD; obtain ⟨n4, e4, hD⟩ := dInt_elim hD; exact F41_5_ok R J1 l0 n3 n4 ds' w' ρ' e0 e3 e4 hD) h
theorem F41_7_ok (R : Rt) (J1 : (Int) → World → Prop) (l0 : SV) (n3 : Int) (ds : Ds) (w : World) (ρ : Env) (e0 : ρ 0 = .slice l0.a l0.len l0.cap) (e3 : ρ 3 = .int .i64 n3) (h : F41_7 R J1 l0 n3 ds w) :
    TrL Try.prog Try.f41.ntmps [c41_2_0_2, c41_2_0_3] (F41_q5 R J1) ρ ds w :=
  TrL_head (K := (F41_k6 R J1)) (Tr_block' (c := innerC c41_2_0_2) (by kernel_rfl) c41_2_0_2_l (F41_6_ok R J1 l0 n3 ds w ρ e0 e3 h))
    (fun ρ' ds' w' hD => by
      obtain ⟨l0, e0, hD⟩ := dSl_elim hD; obtain ⟨n3, e3, hD⟩ := dInt_elim hD; exact F41_2_ok R J1 l0 n3 ds' w' ρ' e0 e3 hD)
theorem F41_8_ok (R : Rt) (J1 : (Int) → World → Prop) (l0 : SV) (n3 : Int) (ds : Ds) (w : World) (ρ : Env) (e0 : ρ 0 = .slice l0.a l0.len l0.cap) (e3 : ρ 3 = .int .i64 n3) (h : F41_8 R J1 l0 n3 ds w) :
    TrL Try.prog Try.f41.ntmps [c41_2_0_0, c41_2_0_1, c41_2_0_2, c41_2_0_3] (F41_q5 R J1) ρ ds w :=
  TrL_piece (pre := [c41_2_0_0, c41_2_0_1]) (K := (F41_k12 R J1)) (X := F41_8 R J1 l0 n3 ds w) (setAll_cons e0 (setAll_cons e3 setAll_nil)) (by kernel_rfl) (by kernel_rfl)
    (fun ρ' ds' w' hD => by
      obtain ⟨l0, e0, hD⟩ := dSl_elim hD; obtain ⟨n3, e3, hD⟩ := dInt_elim hD; exact F41_7_ok R J1 l0 n3 ds' w' ρ' e0 e3 hD) h
theorem F41_9_ok (R : Rt) (l0 : SV) (n3 : Int) (ds : Ds) (w : World) (ρ : Env) (e0 : ρ 0 = .slice l0.a l0.len l0.cap) (e3 : ρ 3 = .int .i64 n3) (h : F41_9 R l0 n3 ds w) :
    TrL Try.prog Try.f41.ntmps [c41_2_0] (F41_q4 R) ρ ds w :=
  TrL_one (Tr_loop' (c := innerC c41_2_0) (σ := Int) (enc := (fun (s : Int) (ρ : Env) => ρ 3 = .int .i64 s)) (D := (fun ρ K => dInt .i64 (ρ 3) fun n3 => K n3)) (F := (fun (J1 : (Int) → World → Prop) (s : Int) (w : World) => F41_8 R J1 l0 s ds w)) (s0 := n3) (by kernel_rfl) c41_2_0_l e3 (by kernel_rfl) (fun ρ K hD => by obtain ⟨n3, e3, hD⟩ := dInt_elim hD; exact ⟨n3, e3, hD⟩)
      (fun J1 s ρ' w' he ha hF => by
      have e3' := he
      exact F41_8_ok R J1 l0 s ds w' ρ' ((ha 0 (by kernel_rfl)).trans e0) e3' hF) h)
theorem F41_10_ok (R : Rt) (l0 : SV) (n3 : Int) (ds : Ds) (w : World) (ρ : Env) (e0 : ρ 0 = .slice l0.a l0.len l0.cap) (e3 : ρ 3 = .int .i64 n3) (h : F41_10 R l0 n3 ds w) :
    TrL Try.prog Try.f41.ntmps [c41_2, c41_3, c41_4] (F41_q1 R) ρ ds w :=
  TrL_head (K := (F41_k2 R)) (Tr_block' (c := innerC c41_2) (by kernel_rfl) c41_2_l (F41_9_ok R l0 n3 ds w ρ e0 e3 h))
    (fun ρ' ds' w' hD => by
      obtain ⟨l0, e0, hD⟩ := dSl_elim hD; exact F41_1_ok R l0 ds' w' ρ' e0 hD)
theorem F41_11_ok (R : Rt) (l0 : SV) (ds : Ds) (w : World) (ρ : Env) (e0 : ρ 0 = .slice l0.a l0.len l0.cap) (h : F41_11 R l0 ds w) :
    TrL Try.prog Try.f41.ntmps [c41_0, c41_1, c41_2, c41_3, c41_4] (F41_q1 R) ρ ds w :=
  TrL_piece (pre := [c41_0, c41_1]) (K := (F41_k13 R)) (X := F41_11 R l0 ds w) (setAll_cons e0 setAll_nil) (by kernel_rfl) (by kernel_rfl)
    (fun ρ' ds' w' hD => by
      obtain ⟨l0, e0, hD⟩ := dSl_elim hD; obtain ⟨n3, e3, hD⟩ := dInt_elim hD; exact F41_10_ok R l0 n3 ds' w' ρ' e0 e3 hD) h
theorem F41_calls (l0 : SV) (w : World) (R : Rt) (h : F41_11 R l0 [] w) : Calls Try.prog 41 #[.slice l0.a l0.len l0.cap] w R :=
  calls_of_L (l := [c41_0, c41_1, c41_2, c41_3, c41_4]) Try.func41 (by kernel_rfl) (by rw [Try.ntmps41]; exact Nat.le_of_ble_eq_true (by kernel_rfl)) c41_l
    (F41_11_ok R l0 [] w _ rfl h)
theorem F41_callsD (l0 : SV) (w : World) (R : Rt) (u : FrameMode) (h : F41_11 R l0 [] w) : CallsD Try.prog 41 #[.slice l0.a l0.len l0.cap] u w fun e u' w' => u' = u ∧ R e w' :=
  callsD_of_L (l := [c41_0, c41_1, c41_2, c41_3, c41_4]) Try.func41 (by kernel_rfl) (by rw [Try.ntmps41]; exact Nat.le_of_ble_eq_true (by kernel_rfl)) (by kernel_rfl) c41_l
    (F41_11_ok R l0 [] w _ rfl h) u

/-! function 42: cabinetry/link.Worst -/
noncomputable def c42_0 : Code := itemAt (flat (bodyOf Try.f42)) 0
noncomputable def c42_1 : Code := itemAt (flat (bodyOf Try.f42)) 1
noncomputable def c42_2 : Code := itemAt (flat (bodyOf Try.f42)) 2
noncomputable def c42_3 : Code := itemAt (flat (bodyOf Try.f42)) 3
noncomputable def c42_4 : Code := itemAt (flat (bodyOf Try.f42)) 4
noncomputable def c42_5 : Code := itemAt (flat (bodyOf Try.f42)) 5
noncomputable def c42_6 : Code := itemAt (flat (bodyOf Try.f42)) 6
noncomputable def c42_7 : Code := itemAt (flat (bodyOf Try.f42)) 7
noncomputable def c42_8 : Code := itemAt (flat (bodyOf Try.f42)) 8
noncomputable def c42_9 : Code := itemAt (flat (bodyOf Try.f42)) 9
noncomputable def c42_10 : Code := itemAt (flat (bodyOf Try.f42)) 10
noncomputable def c42_11 : Code := itemAt (flat (bodyOf Try.f42)) 11
def F42_q1 (R : Rt) : EQ := endQ Try.prog Try.f42.results.toList R
def F42_1 (R : Rt) (l0 : SV) (s1 : ByteArray) (n2 : Int) (ds : Ds) (w : World) : Prop :=
 Calls Try.prog 45 #[.slice l0.a l0.len l0.cap, .string s1] w fun e w1 =>
 ∃ m16_0 : Option Nat, ∃ n16_1 : Int, e = .returned (.tuple #[.map m16_0, .int .i64 n16_1]) ∧
 alE (.cells #[.map none] 57) w1 fun r8 w2 =>
 st1 (⟨r8, 0, none⟩ : Addr) (.map m16_0) w2 fun w3 =>
 Br (n16_1 != 0) (
 runD Try.prog ds w3 fun w4 =>
 R (.returned (.tuple #[.int .i64 0, .int .i64 n16_1])) w4) (
 Br (decide (n2 < 0)) (
 runD Try.prog ds w3 fun w5 =>
 R (.returned (.tuple #[.int .i64 0, .int .i64 1])) w5) (
 Br (decide (n2 > 12)) (
 runD Try.prog ds w3 fun w6 =>
 R (.returned (.tuple #[.int .i64 0, .int .i64 1])) w6) (
 alE (.map #[] 0) w3 fun r28 w7 =>
 alE (.cells #[.map none] 103) w7 fun r10 w8 =>
 st1 (⟨r10, 0, none⟩ : Addr) (.map (some r28)) w8 fun w9 =>
 alE (.cells #[.nilFunc] 104) w9 fun r11 w10 =>
 st1 (⟨r11, 0, none⟩ : Addr) (.func (.func 83) #[] #[.pointer (some (⟨r10, 0, none⟩ : Addr)), .pointer (some (⟨r8, 0, none⟩ : Addr)), .pointer (some (⟨r11, 0, none⟩ : Addr))]) w10 fun w11 =>
 ∃ m31 : Option Nat, w11.cell? (⟨r8, 0, none⟩ : Addr) = some (.map m31) ∧
 ∃ n33_0 : Int, ∃ l33_1 : SV, ∃ w12 : World, (Instr.lookup 57 (.map m31) (.string s1) false).run Try.prog w11 = .ok (.agg #[.int .i64 n33_0, .slice l33_1.a l33_1.len l33_1.cap]) w12 ∧
 Calls Try.prog 46 #[.agg #[.int .i64 0, .int .i64 0], .int .i64 n33_0] w12 fun e w13 =>
 ∃ n35_0 : Int, ∃ n35_1 : Int, e = .returned (.agg #[.int .i64 n35_0, .int .i64 n35_1]) ∧
 alE (.cells #[.int .i64 0, .int .i64 0] 61) w13 fun r12 w14 =>
 stA Try.prog 61 (⟨r12, 0, none⟩ : Addr) #[.int .i64 n35_0, .int .i64 n35_1] w14 fun w15 =>
 dwE w15 fun w16 =>
 ∃ S1 : World → Prop, S1 w16 ∧
 ∃ n37 : Int, (∀ w', S1 w' → w'.cell? ((⟨r12, 0, none⟩ : Addr).add 1) = some (.int .i64 n37)) ∧
 ∃ v38 : Value, (∀ w', S1 w' → w'.cell? (⟨r11, 0, none⟩ : Addr) = some (v38)) ∧
 ∃ n41 : Int, (∀ w', S1 w' → w'.cell? (⟨r12, 0, none⟩ : Addr) = some (.int .i64 n41)) ∧
 fnE v38 fun f44 first44 cap44 =>
 hasBody Try.prog f44 = true ∧ Calls Try.prog f44 (first44.toList ++ (([.agg #[.string (⟨#[]⟩ : ByteArray), .string s1, .int .i64 n41, .int .i64 n2]] : List Value) ++ cap44.toList)).toArray w16 fun e w17 =>
 ∃ n44 : Int, e = .returned (.int .i64 n44) ∧
 S1 w17 ∧
 runD Try.prog ds w17 fun w18 =>
 R (.returned (.tuple #[.int .i64 (IntKind.i64.wrap (n37 + n44)), .int .i64 0])) w18)))
theorem c42_l : flat (bodyOf Try.f42) = [c42_0, c42_1, c42_2, c42_3, c42_4, c42_5, c42_6, c42_7, c42_8, c42_9, c42_10, c42_11] := by kernel_rfl
theorem F42_1_ok (R : Rt) (l0 : SV) (s1 : ByteArray) (n2 : Int) (ds : Ds) (w : World) (ρ : Env) (e0 : ρ 0 = .slice l0.a l0.len l0.cap) (e1 : ρ 1 = .string s1) (e2 : ρ 2 = .int .i64 n2) (h : F42_1 R l0 s1 n2 ds w) :
    TrL Try.prog Try.f42.ntmps [c42_0, c42_1, c42_2, c42_3, c42_4, c42_5, c42_6, c42_7, c42_8, c42_9, c42_10, c42_11] (F42_q1 R) ρ ds w :=
  TrL_leaf (X := F42_1 R l0 s1 n2 ds w) (setAll_cons e0 (setAll_cons e1 (setAll_cons e2 setAll_nil))) (by kernel_rfl) (by kernel_rfl) h
theorem F42_calls (l0 : SV) (s1 : ByteArray) (n2 : Int) (w : World) (R : Rt) (h : F42_1 R l0 s1 n2 [] w) : Calls Try.prog 42 #[.slice l0.a l0.len l0.cap, .string s1, .int .i64 n2] w R :=
  calls_of_L (l := [c42_0, c42_1, c42_2, c42_3, c42_4, c42_5, c42_6, c42_7, c42_8, c42_9, c42_10, c42_11]) Try.func42 (by kernel_rfl) (by rw [Try.ntmps42]; exact Nat.le_of_ble_eq_true (by kernel_rfl)) c42_l
    (F42_1_ok R l0 s1 n2 [] w _ rfl rfl rfl h)
theorem F42_callsD (l0 : SV) (s1 : ByteArray) (n2 : Int) (w : World) (R : Rt) (u : FrameMode) (h : F42_1 R l0 s1 n2 [] w) : CallsD Try.prog 42 #[.slice l0.a l0.len l0.cap, .string s1, .int .i64 n2] u w fun e u' w' => u' = u ∧ R e w' :=
  callsD_of_L (l := [c42_0, c42_1, c42_2, c42_3, c42_4, c42_5, c42_6, c42_7, c42_8, c42_9, c42_10, c42_11]) Try.func42 (by kernel_rfl) (by rw [Try.ntmps42]; exact Nat.le_of_ble_eq_true (by kernel_rfl)) (by kernel_rfl) c42_l
    (F42_1_ok R l0 s1 n2 [] w _ rfl rfl rfl h) u

/-! function 43: cabinetry/cabinetryref24.Worst -/
noncomputable def c43_0 : Code := itemAt (flat (bodyOf Try.f43)) 0
noncomputable def c43_1 : Code := itemAt (flat (bodyOf Try.f43)) 1
noncomputable def c43_2 : Code := itemAt (flat (bodyOf Try.f43)) 2
noncomputable def c43_3 : Code := itemAt (flat (bodyOf Try.f43)) 3
noncomputable def c43_4 : Code := itemAt (flat (bodyOf Try.f43)) 4
noncomputable def c43_5 : Code := itemAt (flat (bodyOf Try.f43)) 5
noncomputable def c43_6 : Code := itemAt (flat (bodyOf Try.f43)) 6
noncomputable def c43_7 : Code := itemAt (flat (bodyOf Try.f43)) 7
noncomputable def c43_8 : Code := itemAt (flat (bodyOf Try.f43)) 8
noncomputable def c43_9 : Code := itemAt (flat (bodyOf Try.f43)) 9
noncomputable def c43_10 : Code := itemAt (flat (bodyOf Try.f43)) 10
noncomputable def c43_11 : Code := itemAt (flat (bodyOf Try.f43)) 11
noncomputable def c43_8_0 : Code := itemAt (flat (innerC c43_8)) 0
noncomputable def c43_8_0_0 : Code := itemAt (flat (innerC c43_8_0)) 0
noncomputable def c43_8_0_1 : Code := itemAt (flat (innerC c43_8_0)) 1
noncomputable def c43_8_0_2 : Code := itemAt (flat (innerC c43_8_0)) 2
noncomputable def c43_8_0_3 : Code := itemAt (flat (innerC c43_8_0)) 3
noncomputable def c43_8_0_2_0 : Code := itemAt (flat (innerC c43_8_0_2)) 0
noncomputable def c43_8_0_2_1 : Code := itemAt (flat (innerC c43_8_0_2)) 1
noncomputable def c43_8_0_2_2 : Code := itemAt (flat (innerC c43_8_0_2)) 2
noncomputable def c43_8_0_2_3 : Code := itemAt (flat (innerC c43_8_0_2)) 3
noncomputable def c43_8_0_2_4 : Code := itemAt (flat (innerC c43_8_0_2)) 4
noncomputable def c43_8_0_2_3_0 : Code := itemAt (flat (innerC c43_8_0_2_3)) 0
noncomputable def c43_8_0_2_3_0_0 : Code := itemAt (flat (innerC c43_8_0_2_3_0)) 0
noncomputable def c43_8_0_2_3_0_1 : Code := itemAt (flat (innerC c43_8_0_2_3_0)) 1
noncomputable def c43_8_0_2_3_0_2 : Code := itemAt (flat (innerC c43_8_0_2_3_0)) 2
noncomputable def c43_8_0_2_3_0_3 : Code := itemAt (flat (innerC c43_8_0_2_3_0)) 3
def F43_q1 (R : Rt) : EQ := endQ Try.prog Try.f43.results.toList R
def F43_1 (R : Rt) (n2 : Int) (n9 : Int) (p11 : Option Addr) (ds : Ds) (w : World) : Prop :=
 Calls Try.prog 88 #[.pointer p11, .int .i64 n9, .int .i64 0] w fun e w1 =>
 ∃ n79_0 : Int, ∃ n79_1 : Int, e = .returned (.tuple #[.int .i64 n79_0, .int .i64 n79_1]) ∧
 Calls Try.prog 89 #[.pointer p11, .int .i64 n9, .int .i64 n79_0, .int .i64 n2] w1 fun e w2 =>
 ∃ n87 : Int, e = .returned (.int .i64 n87) ∧
 runD Try.prog ds w2 fun w3 =>
 R (.returned (.tuple #[.int .i64 (IntKind.i64.wrap (n79_1 + n87)), .int .i64 0])) w3
def F43_k2 (R : Rt) : EP := (fun ρ ds w => dInt .i64 (ρ 2) fun n2 => dInt .i64 (ρ 9) fun n9 => dPtr (ρ 11) fun p11 => F43_1 R n2 n9 p11 ds w)
def F43_q3 (R : Rt) : EQ := (thenQ (F43_k2 R) (F43_q1 R))
def F43_q4 (R : Rt) : EQ := (blockQ 0 (F43_q3 R))
def F43_q5 (R : Rt) (J1 : (Int) → World → Prop) : EQ := (thenQ (fun ρ _ w => dInt .i64 (ρ 12) fun n12 => J1 n12 w) (F43_q4 R))
def F43_2 (R : Rt) (J1 : (Int) → World → Prop) (n2 : Int) (l8 : SV) (n9 : Int) (p11 : Option Addr) (n12 : Int) (ds : Ds) (w : World) : Prop :=
 J1 (IntKind.i64.wrap (n12 + 1)) w
def F43_k6 (R : Rt) (J1 : (Int) → World → Prop) : EP := (fun ρ ds w => dInt .i64 (ρ 2) fun n2 => dSl (ρ 8) fun l8 => dInt .i64 (ρ 9) fun n9 => dPtr (ρ 11) fun p11 => dInt .i64 (ρ 12) fun n12 => F43_2 R J1 n2 l8 n9 p11 n12 ds w)
def F43_q7 (R : Rt) (J1 : (Int) → World → Prop) : EQ := (thenQ (F43_k6 R J1) (F43_q5 R J1))
def F43_q8 (R : Rt) (J1 : (Int) → World → Prop) : EQ := (blockQ 1 (F43_q7 R J1))
def F43_3 (R : Rt) (J1 : (Int) → World → Prop) (n2 : Int) (l8 : SV) (n9 : Int) (p11 : Option Addr) (n12 : Int) (l13 : SV) (ds : Ds) (w : World) : Prop :=
 ptrE p11 fun a4 =>
 ∃ l70 : SV, w.cell? (a4.add 1) = some (.slice l70.a l70.len l70.cap) ∧
 alE (.cells #[.slice l13.a l13.len l13.cap] 30) w fun r72 w5 =>
 ∃ l73 : SV, ∃ w6 : World, (Builtin.append_ #[114, 114] 114 #[.slice l70.a l70.len l70.cap, .slice (some ⟨r72, 0, none⟩) 1 1]).run Try.prog w5 = .ok (.slice l73.a l73.len l73.cap) w6 ∧
 ptrE p11 fun a7 =>
 st1 (a7.add 1) (.slice l73.a l73.len l73.cap) w6 fun w8 =>
 F43_2 R J1 n2 l8 n9 p11 n12 ds w8
def F43_k9 (R : Rt) (J1 : (Int) → World → Prop) : EP := (fun ρ ds w => dInt .i64 (ρ 2) fun n2 => dSl (ρ 8) fun l8 => dInt .i64 (ρ 9) fun n9 => dPtr (ρ 11) fun p11 => dInt .i64 (ρ 12) fun n12 => dSl (ρ 13) fun l13 => F43_3 R J1 n2 l8 n9 p11 n12 l13 ds w)
def F43_q10 (R : Rt) (J1 : (Int) → World → Prop) : EQ := (thenQ (F43_k9 R J1) (F43_q8 R J1))
def F43_q11 (R : Rt) (J1 : (Int) → World → Prop) : EQ := (blockQ 2 (F43_q10 R J1))
def F43_q12 (R : Rt) (J1 : (Int) → World → Prop) (J2 : (SV × Int) → World → Prop) : EQ := (thenQ (fun ρ _ w => dSl (ρ 13) fun l13 => dInt .i64 (ρ 15) fun n15 => J2 (l13, n15) w) (F43_q11 R J1))
def F43_4 (R : Rt) (J1 : (Int) → World → Prop) (J2 : (SV × Int) → World → Prop) (n2 : Int) (l8 : SV) (n9 : Int) (p11 : Option Addr) (n12 : Int) (l13 : SV) (l14 : SV) (n15 : Int) (ds : Ds) (w : World) : Prop :=
 Br (decide (n15 < ((l14.len : Nat) : Int))) (
 ∃ a9 : Addr, l14.a = some a9 ∧ 0 ≤ n15 ∧ n15 < ((l14.len : Nat) : Int) ∧
 ∃ s62 : ByteArray, w.cell? (a9.add (n15.toNat * 1)) = some (.string s62) ∧
 Calls Try.prog 52 #[.slice l8.a l8.len l8.cap, .string s62] w fun e w10 =>
 ∃ n63 : Int, e = .returned (.int .i64 n63) ∧
 alE (.cells #[.int .i64 n63] 3) w10 fun r64 w11 =>
 ∃ l65 : SV, ∃ w12 : World, (Builtin.append_ #[30, 30] 30 #[.slice l13.a l13.len l13.cap, .slice (some ⟨r64, 0, none⟩) 1 1]).run Try.prog w11 = .ok (.slice l65.a l65.len l65.cap) w12 ∧
 J2 (l65, (IntKind.i64.wrap (n15 + 1))) w12) (
 F43_3 R J1 n2 l8 n9 p11 n12 l13 ds w)
def F43_5 (R : Rt) (J1 : (Int) → World → Prop) (n2 : Int) (l8 : SV) (n9 : Int) (p11 : Option Addr) (n12 : Int) (l13 : SV) (l14 : SV) (n15 : Int) (ds : Ds) (w : World) : Prop :=
 loopT (fun (J2 : (SV × Int) → World → Prop) (s : SV × Int) (w : World) => F43_4 R J1 J2 n2 l8 n9 p11 n12 s.1 l14 s.2 ds w) (l13, n15) w
@[reducible] def F43_6 (R : Rt) (J1 : (Int) → World → Prop) (n2 : Int) (l8 : SV) (n9 : Int) (p11 : Option Addr) (n12 : Int) (l13 : SV) (l14 : SV) (n15 : Int) (ds : Ds) (w : World) : Prop := F43_5 R J1 n2 l8 n9 p11 n12 l13 l14 n15 ds w
def F43_k13 (R : Rt) (J1 : (Int) → World → Prop) : EP := (fun ρ ds w => dInt .i64 (ρ 2) fun n2 => dSl (ρ 8) fun l8 => dInt .i64 (ρ 9) fun n9 => dPtr (ρ 11) fun p11 => dInt .i64 (ρ 12) fun n12 => dSl (ρ 13) fun l13 => dSl (ρ 14) fun l14 => dInt .i64 (ρ 15) fun n15 => F43_6 R J1 n2 l8 n9 p11 n12 l13 l14 n15 ds w)
def F43_7 (R : Rt) (J1 : (Int) → World → Prop) (n2 : Int) (l8 : SV) (n9 : Int) (p11 : Option Addr) (n12 : Int) (ds : Ds) (w : World) : Prop :=
 ∃ a13 : Addr, l8.a = some a13 ∧ 0 ≤ n12 ∧ n12 < ((l8.len : Nat) : Int) ∧
 ∃ l49 : SV, w.cell? ((a13.add (n12.toNat * 4)).add 3) = some (.slice l49.a l49.len l49.cap) ∧
 Calls Try.prog 68 #[.slice l49.a l49.len l49.cap] w fun e w14 =>
 ∃ l50 : SV, e = .returned (.slice l50.a l50.len l50.cap) ∧
 F43_6 R J1 n2 l8 n9 p11 n12 ⟨none, 0, 0⟩ l50 0 ds w14
@[reducible] def F43_8 (R : Rt) (J1 : (Int) → World → Prop) (n2 : Int) (l8 : SV) (n9 : Int) (p11 : Option Addr) (n12 : Int) (ds : Ds) (w : World) : Prop := F43_7 R J1 n2 l8 n9 p11 n12 ds w
def F43_k14 (R : Rt) (J1 : (Int) → World → Prop) : EP := (fun ρ ds w => dInt .i64 (ρ 2) fun n2 => dSl (ρ 8) fun l8 => dInt .i64 (ρ 9) fun n9 => dPtr (ρ 11) fun p11 => dInt .i64 (ρ 12) fun n12 => F43_8 R J1 n2 l8 n9 p11 n12 ds w)
def F43_9 (R : Rt) (J1 : (Int) → World → Prop) (n2 : Int) (l8 : SV) (n9 : Int) (p11 : Option Addr) (n12 : Int) (ds : Ds) (w : World) : Prop :=
 Br (decide (n12 < ((l8.len : Nat) : Int))) (
 F43_8 R J1 n2 l8 n9 p11 n12 ds w) (
 F43_1 R n2 n9 p11 ds w)
def F43_10 (R : Rt) (n2 : Int) (l8 : SV) (n9 : Int) (p11 : Option Addr) (n12 : Int) (ds : Ds) (w : World) : Prop :=
 loopT (fun (J1 : (Int) → World → Prop) (s : Int) (w : World) => F43_9 R J1 n2 l8 n9 p11 s ds w) n12 w
@[reducible] def F43_11 (R : Rt) (n2 : Int) (l8 : SV) (n9 : Int) (p11 : Option Addr) (n12 : Int) (ds : Ds) (w : World) : Prop := F43_10 R n2 l8 n9 p11 n12 ds w
def F43_k15 (R : Rt) : EP := (fun ρ ds w => dInt .i64 (ρ 2) fun n2 => dSl (ρ 8) fun l8 => dInt .i64 (ρ 9) fun n9 => dPtr (ρ 11) fun p11 => dInt .i64 (ρ 12) fun n12 => F43_11 R n2 l8 n9 p11 n12 ds w)
def F43_12 (R : Rt) (l0 : SV) (s1 : ByteArray) (n2 : Int) (ds : Ds) (w : World) : Prop :=
 Calls Try.prog 51 #[.slice l0.a l0.len l0.cap, .string s1] w fun e w15 =>
 ∃ l21_0 : SV, ∃ n21_1 : Int, ∃ n21_2 : Int, e = .returned (.tuple #[.slice l21_0.a l21_0.len l21_0.cap, .int .i64 n21_1, .int .i64 n21_2]) ∧
 Br (n21_2 != 0) (
 runD Try.prog ds w15 fun w16 =>
 R (.returned (.tuple #[.int .i64 0, .int .i64 n21_2])) w16) (
 Br (decide (n2 < 0)) (
 runD Try.prog ds w15 fun w17 =>
 R (.returned (.tuple #[.int .i64 0, .int .i64 1])) w17) (
 Br (decide (n2 > 12)) (
 runD Try.prog ds w15 fun w18 =>
 R (.returned (.tuple #[.int .i64 0, .int .i64 1])) w18) (
 alE (.map #[] 0) w15 fun r35 w19 =>
 alE (.map #[] 0) w19 fun r36 w20 =>
 alE (.cells #[.slice l21_0.a l21_0.len l21_0.cap, .slice none 0 0, .map (some r35), .map (some r36)] 116) w20 fun r38 w21 =>
 F43_11 R n2 l21_0 n21_1 (some (⟨r38, 0, none⟩ : Addr)) 0 ds w21)))
theorem c43_l : flat (bodyOf Try.f43) = [c43_0, c43_1, c43_2, c43_3, c43_4, c43_5, c43_6, c43_7, c43_8, c43_9, c43_10, c43_11] := by kernel_rfl
theorem c43_8_l : flat (innerC c43_8) = [c43_8_0] := by kernel_rfl
theorem c43_8_0_l : flat (innerC c43_8_0) = [c43_8_0_0, c43_8_0_1, c43_8_0_2, c43_8_0_3] := by kernel_rfl
theorem c43_8_0_2_l : flat (innerC c43_8_0_2) = [c43_8_0_2_0, c43_8_0_2_1, c43_8_0_2_2, c43_8_0_2_3, c43_8_0_2_4] := by kernel_rfl
theorem c43_8_0_2_3_l : flat (innerC c43_8_0_2_3) = [c43_8_0_2_3_0] := by kernel_rfl
theorem c43_8_0_2_3_0_l : flat (innerC c43_8_0_2_3_0) = [c43_8_0_2_3_0_0, c43_8_0_2_3_0_1, c43_8_0_2_3_0_2, c43_8_0_2_3_0_3] := by kernel_rfl
theorem F43_1_ok (R : Rt) (n2 : Int) (n9 : Int) (p11 : Option Addr) (ds : Ds) (w : World) (ρ : Env) (e2 : ρ 2 = .int .i64 n2) (e9 : ρ 9 = .int .i64 n9) (e11 : ρ 11 = .pointer p11) (h : F43_1 R n2 n9 p11 ds w) :
    TrL Try.prog Try.f43.ntmps [c43_9, c43_10, c43_11] (F43_q1 R) ρ ds w :=
  TrL_leaf (X := F43_1 R n2 n9 p11 ds w) (setAll_cons e2 (setAll_cons e9 (setAll_cons e11 setAll_nil))) (by kernel_rfl) (by kernel_rfl) h
theorem F43_2_ok (R : Rt) (J1 : (Int) → World → Prop) (n2 : Int) (l8 : SV) (n9 : Int) (p11 : Option Addr) (n12 : Int) (ds : Ds) (w : World) (ρ : Env) (e2 : ρ 2 = .int .i64 n2) (e8 : ρ 8 = .slice l8.a l8.len l8.cap) (e9 : ρ 9 = .int .i64 n9) (e11 : ρ 11 = .pointer p11) (e12 : ρ 12 = .int .i64 n12) (h : F43_2 R J1 n2 l8 n9 p11 n12 ds w) :
    TrL Try.prog Try.f43.ntmps [c43_8_0_3] (F43_q5 R J1) ρ ds w :=
  TrL_leaf (X := F43_2 R J1 n2 l8 n9 p11 n12 ds w) (setAll_cons e2 (setAll_cons e8 (setAll_cons e9 (setAll_cons e11 (setAll_cons e12 setAll_nil))))) (by kernel_rfl) (by kernel_rfl) h
theorem F43_3_ok (R : Rt) (J1 : (Int) → World → Prop) (n2 : Int) (l8 : SV) (n9 : Int) (p11 : Option Addr) (n12 : Int) (l13 : SV) (ds : Ds) (w : World) (ρ : Env) (e2 : ρ 2 = .int .i64 n2) (e8 : ρ 8 = .slice l8.a l8.len l8.cap) (e9 : ρ 9 = .int .i64 n9) (e11 : ρ 11 = .pointer p11) (e12 : ρ 12 = .int .i64 n12) (e13 : ρ 13 = .slice l13.a l13.len l13.cap) (h : F43_3 R J1 n2 l8 n9 p11 n12 l13 ds w) :
    TrL Try.prog Try.f43.ntmps [c43_8_0_2_4] (F43_q8 R J1) ρ ds w :=
  TrL_leaf (X := F43_3 R J1 n2 l8 n9 p11 n12 l13 ds w) (setAll_cons e2 (setAll_cons e8 (setAll_cons e9 (setAll_cons e11 (setAll_cons e12 (setAll_cons e13 setAll_nil)))))) (by kernel_rfl) (by kernel_rfl) h
theorem F43_4_ok (R : Rt) (J1 : (Int) → World → Prop) (J2 : (SV × Int) → World → Prop) (n2 : Int) (l8 : SV) (n9 : Int) (p11 : Option Addr) (n12 : Int) (l13 : SV) (l14 : SV) (n15 : Int) (ds : Ds) (w : World) (ρ : Env) (e2 : ρ 2 = .int .i64 n2) (e8 : ρ 8 = .slice l8.a l8.len l8.cap) (e9 : ρ 9 = .int .i64 n9) (e11 : ρ 11 = .pointer p11) (e12 : ρ 12 = .int .i64 n12) (e13 : ρ 13 = .slice l13.a l13.len l13.cap) (e14 : ρ 14 = .slice l14.a l14.len l14.cap) (e15 : ρ 15 = .int .i64 n15) (h : F43_4 R J1 J2 n2 l8 n9 p11 n12 l13 l14 n15 ds w) :
    TrL Try.prog Try.f43.ntmps [c43_8_0_2_3_0_0, c43_8_0_2_3_0_1, c43_8_0_2_3_0_2, c43_8_0_2_3_0_3] (F43_q12 R J1 J2) ρ ds w :=
  TrL_leaf (X := F43_4 R J1 J2 n2 l8 n9 p11 n12 l13 l14 n15 ds w) (setAll_cons e2 (setAll_cons e8 (setAll_cons e9 (setAll_cons e11 (setAll_cons e12 (setAll_cons e13 (setAll_cons e14 (setAll_cons e15 setAll_nil)))))))) (by kernel_rfl) (by kernel_rfl) h
theorem F43_5_ok (R : Rt) (J1 : (Int) → World → Prop) (n2 : Int) (l8 : SV) (n9 : Int) (p11 : Option Addr) (n12 : Int) (l13 : SV) (l14 : SV) (n15 : Int) (ds : Ds) (w : World) (ρ : Env) (e2 : ρ 2 = .int .i64 n2) (e8 : ρ 8 = .slice l8.a l8.len l8.cap) (e9 : ρ 9 = .int .i64 n9) (e11 : ρ 11 = .pointer p11) (e12 : ρ 12 = .int .i64 n12) (e13 : ρ 13 = .slice l13.a l13.len l13.cap) (e14 : ρ 14 = .slice l14.a l14.len l14.cap) (e15 : ρ 15 = .int .i64 n15) (h : F43_5 R J1 n2 l8 n9 p11 n12 l13 l14 n15 ds w) :
    TrL Try.prog Try.f43.ntmps [c43_8_0_2_3_0] (F43_q11 R J1) ρ ds w :=
  TrL_one (Tr_loop' (c := innerC c43_8_0_2_3_0) (σ := SV × Int) (enc := (fun (s : SV × Int) (ρ : Env) => ρ 13 = .slice s.1.a s.1.len s.1.cap ∧ ρ 15 = .int .i64 s.2)) (D := (fun ρ K => dSl (ρ 13) fun l13 => dInt .i64 (ρ 15) fun n15 => K (l13, n15))) (F := (fun (J2 : (SV × Int) → World → Prop) (s : SV × Int) (w : World) => F43_4 R J1 J2 n2 l8 n9 p11 n12 s.1 l14 s.2 ds w)) (s0 := (l13, n15)) (by kernel_rfl) c43_8_0_2_3_0_l ⟨e13, e15⟩ (by kernel_rfl) (fun ρ K hD => by obtain ⟨l13, e13, hD⟩ := dSl_elim hD; obtain ⟨n15, e15, hD⟩ := dInt_elim hD; exact ⟨(l13, n15), ⟨e13, e15⟩, hD⟩)
      (fun J2 s ρ' w' he ha hF => by
      obtain ⟨e13', e15'⟩ := he
      exact F43_4_ok R J1 J2 n2 l8 n9 p11 n12 s.1 l14 s.2 ds w' ρ' ((ha 2 (by kernel_rfl)).trans e2) ((ha 8 (by kernel_rfl)).trans e8) ((ha 9 (by kernel_rfl)).trans e9) ((ha 11 (by kernel_rfl)).trans e11) ((ha 12 (by kernel_rfl)).trans e12) e13' ((ha 14 (by kernel_rfl)).trans e14) e15' hF) h)
theorem F43_6_ok (R : Rt) (J1 : (Int) → World → Prop) (n2 : Int) (l8 : SV) (n9 : Int) (p11 : Option Addr) (n12 : Int) (l13 : SV) (l14 : SV) (n15 : Int) (ds : Ds) (w : World) (ρ : Env) (e2 : ρ 2 = .int .i64 n2) (e8 : ρ 8 = .slice l8.a l8.len l8.cap) (e9 : ρ 9 = .int .i64 n9) (e11 : ρ 11 = .pointer p11) (e12 : ρ 12 = .int .i64 n12) (e13 : ρ 13 = .slice l13.a l13.len l13.cap) (e14 : ρ 14 = .slice l14.a l14.len l14.cap) (e15 : ρ 15 = .int .i64 n15) (h : F43_6 R J1 n2 l8 n9 p11 n12 l13 l14 n15 ds w) :
    TrL Try.prog Try.f43.ntmps [c43_8_0_2_3, c43_8_0_2_4] (F43_q8 R J1) ρ ds w :=
  TrL_head (K := (F43_k9 R J1)) (Tr_block' (c := innerC c43_8_0_2_3) (by kernel_rfl) c43_8_0_2_3_l (F43_5_ok R J1 n2 l8 n9 p11 n12 l13 l14 n15 ds w ρ e2 e8 e9 e11 e12 e13 e14 e15 h))
    (fun ρ' ds' w' hD => by
      obtain ⟨n2, e2, hD⟩ := dInt_elim hD; obtain ⟨l8, e8, hD⟩ := dSl_elim hD; obtain ⟨n9, e9, hD⟩ := dInt_elim hD; obtain ⟨p11, e11, hD⟩ := dPtr_elim hD; obtain ⟨n12, e12, hD⟩ := dInt_elim hD; obtain ⟨l13, e13, hD⟩ := dSl_elim hD; exact F43_3_ok R J1 n2 l8 n9 p11 n12 l13 ds' w' ρ' e2 e8 e9 e11 e12 e13 hD)
theorem F43_7_ok (R : Rt) (J1 : (Int) → World → Prop) (n2 : Int) (l8 : SV) (n9 : Int) (p11 : Option Addr) (n12 : Int) (ds : Ds) (w : World) (ρ : Env) (e2 : ρ 2 = .int .i64 n2) (e8 : ρ 8 = .slice l8.a l8.len l8.cap) (e9 : ρ 9 = .int .i64 n9) (e11 : ρ 11 = .pointer p11) (e12 : ρ 12 = .int .i64 n12) (h : F43_7 R J1 n2 l8 n9 p11 n12 ds w) :
    TrL Try.prog Try.f43.ntmps [c43_8_0_2_0, c43_8_0_2_1, c43_8_0_2_2, c43_8_0_2_3, c43_8_0_2_4] (F43_q8 R J1) ρ ds w :=
  TrL_piece (pre := [c43_8_0_2_0, c43_8_0_2_1, c43_8_0_2_2]) (K := (F43_k13 R J1)) (X := F43_7 R J1 n2 l8 n9 p11 n12 ds w) (setAll_cons e2 (setAll_cons e8 (setAll_cons e9 (setAll_cons e11 (setAll_cons e12 setAll_nil))))) (by kernel_rfl) (by kernel_rfl)
    (fun ρ' ds' w' hD => by
      obtain ⟨n2, e2, hD⟩ := dInt_elim hD; obtain ⟨l8, e8, hD⟩ := dSl_elim hD; obtain ⟨n9, e9, hD⟩ := dInt_elim hD; obtain ⟨p11, e11, hD⟩ := dPtr_elim hD; obtain ⟨n12, e12, hD⟩ := dInt_elim hD; obtain ⟨l13, e13, hD⟩ := dSl_elim hD; obtain ⟨l14, e14, hD⟩ := dSl_elim hD; obtain ⟨n15, e15, hD⟩ := dInt_elim hD; exact F43_6_ok R J1 n2 l8 n9 p11 n12 l13 l14 n15 ds' w' ρ' e2 e8 e9 e11 e12 e13 e14 e15 hD) h
theorem F43_8_ok (R : Rt) (J1 : (Int) → World → Prop) (n2 : Int) (l8 : SV) (n9 : Int) (p11 : Option Addr) (n12 : Int) (ds : Ds) (w : World) (ρ : Env) (e2 : ρ 2 = .int .i64 n2) (e8 : ρ 8 = .slice l8.a l8.len l8.cap) (e9 : ρ 9 = .int .i64 n9) (e11 : ρ 11 = .pointer p11) (e12 : ρ 12 = .int .i64 n12) (h : F43_8 R J1 n2 l8 n9 p11 n12 ds w) :
    TrL Try.prog Try.f43.ntmps [c43_8_0_2, c43_8_0_3] (F43_q5 R J1) ρ ds w :=
  TrL_head (K := (F43_k6 R J1)) (Tr_block' (c := innerC c43_8_0_2) (by kernel_rfl) c43_8_0_2_l (F43_7_ok R J1 n2 l8 n9 p11 n12 ds w ρ e2 e8 e9 e11 e12 h))
    (fun ρ' ds' w' hD => by
      obtain ⟨n2, e2, hD⟩ := dInt_elim hD; obtain ⟨l8, e8, hD⟩ := dSl_elim hD; obtain ⟨n9, e9, hD⟩ := dInt_elim hD; obtain ⟨p11, e11, hD⟩ := dPtr_elim hD; obtain ⟨n12, e12, hD⟩ := dInt_elim hD; exact F43_2_ok R J1 n2 l8 n9 p11 n12 ds' w' ρ' e2 e8 e9 e11 e12 hD)
theorem F43_9_ok (R : Rt) (J1 : (Int) → World → Prop) (n2 : Int) (l8 : SV) (n9 : Int) (p11 : Option Addr) (n12 : Int) (ds : Ds) (w : World) (ρ : Env) (e2 : ρ 2 = .int .i64 n2) (e8 : ρ 8 = .slice l8.a l8.len l8.cap) (e9 : ρ 9 = .int .i64 n9) (e11 : ρ 11 = .pointer p11) (e12 : ρ 12 = .int .i64 n12) (h : F43_9 R J1 n2 l8 n9 p11 n12 ds w) :
    TrL Try.prog Try.f43.ntmps [c43_8_0_0, c43_8_0_1, c43_8_0_2, c43_8_0_3] (F43_q5 R J1) ρ ds w :=
  TrL_piece (pre := [c43_8_0_0, c43_8_0_1]) (K := (F43_k14 R J1)) (X := F43_9 R J1 n2 l8 n9 p11 n12 ds w) (setAll_cons e2 (setAll_cons e8 (setAll_cons e9 (setAll_cons e11 (setAll_cons e12 setAll_nil))))) (by kernel_rfl) (by kernel_rfl)
    (fun ρ' ds' w' hD => by
      obtain ⟨n2, e2, hD⟩ := dInt_elim hD; obtain ⟨l8, e8, hD⟩ := dSl_elim hD; obtain ⟨n9, e9, hD⟩ := dInt_elim hD; obtain ⟨p11, e11, hD⟩ := dPtr_elim hD; obtain ⟨n12, e12, hD⟩ := dInt_elim hD; exact F43_8_ok R J1 n2 l8 n9 p11 n12 ds' w' ρ' e2 e8 e9 e11 e12 hD) h
theorem F43_10_ok (R : Rt) (n2 : Int) (l8 : SV) (n9 : Int) (p11 : Option Addr) (n12 : Int) (ds : Ds) (w : World) (ρ : Env) (e2 : ρ 2 = .int .i64 n2) (e8 : ρ 8 = .slice l8.a l8.len l8.cap) (e9 : ρ 9 = .int .i64 n9) (e11 : ρ 11 = .pointer p11) (e12 : ρ 12 = .int .i64 n12) (h : F43_10 R n2 l8 n9 p11 n12 ds w) :
    TrL Try.prog Try.f43.ntmps [c43_8_0] (F43_q4 R) ρ ds w :=
  TrL_one (Tr_loop' (c := innerC c43_8_0) (σ := Int) (enc := (fun (s : Int) (ρ : Env) => ρ 12 = .int .i64 s)) (D := (fun ρ K => dInt .i64 (ρ 12) fun n12 => K n12)) (F := (fun (J1 : (Int) → World → Prop) (s : Int) (w : World) => F43_9 R J1 n2 l8 n9 p11 s ds w)) (s0 := n12) (by kernel_rfl) c43_8_0_l e12 (by kernel_rfl) (fun ρ K hD => by obtain ⟨n12, e12, hD⟩ := dInt_elim hD; exact ⟨n12, e12, hD⟩)
      (fun J1 s ρ' w' he ha hF => by
      have e12' := he
      exact F43_9_ok R J1 n2 l8 n9 p11 s ds w' ρ' ((ha 2 (by kernel_rfl)).trans e2) ((ha 8 (by kernel_rfl)).trans e8) ((ha 9 (by kernel_rfl)).trans e9) ((ha 11 (by kernel_rfl)).trans e11) e12' hF) h)
theorem F43_11_ok (R : Rt) (n2 : Int) (l8 : SV) (n9 : Int) (p11 : Option Addr) (n12 : Int) (ds : Ds) (w : World) (ρ : Env) (e2 : ρ 2 = .int .i64 n2) (e8 : ρ 8 = .slice l8.a l8.len l8.cap) (e9 : ρ 9 = .int .i64 n9) (e11 : ρ 11 = .pointer p11) (e12 : ρ 12 = .int .i64 n12) (h : F43_11 R n2 l8 n9 p11 n12 ds w) :
    TrL Try.prog Try.f43.ntmps [c43_8, c43_9, c43_10, c43_11] (F43_q1 R) ρ ds w :=
  TrL_head (K := (F43_k2 R)) (Tr_block' (c := innerC c43_8) (by kernel_rfl) c43_8_l (F43_10_ok R n2 l8 n9 p11 n12 ds w ρ e2 e8 e9 e11 e12 h))
    (fun ρ' ds' w' hD => by
      obtain ⟨n2, e2, hD⟩ := dInt_elim hD; obtain ⟨n9, e9, hD⟩ := dInt_elim hD; obtain ⟨p11, e11, hD⟩ := dPtr_elim hD; exact F43_1_ok R n2 n9 p11 ds' w' ρ' e2 e9 e11 hD)
theorem F43_12_ok (R : Rt) (l0 : SV) (s1 : ByteArray) (n2 : Int) (ds : Ds) (w : World) (ρ : Env) (e0 : ρ 0 = .slice l0.a l0.len l0.cap) (e1 : ρ 1 = .string s1) (e2 : ρ 2 = .int .i64 n2) (h : F43_12 R l0 s1 n2 ds w) :
    TrL Try.prog Try.f43.ntmps [c43_0, c43_1, c43_2, c43_3, c43_4, c43_5, c43_6, c43_7, c43_8, c43_9, c43_10, c43_11] (F43_q1 R) ρ ds w :=
  TrL_piece (pre := [c43_0, c43_1, c43_2, c43_3, c43_4, c43_5, c43_6, c43_7]) (K := (F43_k15 R)) (X := F43_12 R l0 s1 n2 ds w) (setAll_cons e0 (setAll_cons e1 (setAll_cons e2 setAll_nil))) (by kernel_rfl) (by kernel_rfl)
    (fun ρ' ds' w' hD => by
      obtain ⟨n2, e2, hD⟩ := dInt_elim hD; obtain ⟨l8, e8, hD⟩ := dSl_elim hD; obtain ⟨n9, e9, hD⟩ := dInt_elim hD; obtain ⟨p11, e11, hD⟩ := dPtr_elim hD; obtain ⟨n12, e12, hD⟩ := dInt_elim hD; exact F43_11_ok R n2 l8 n9 p11 n12 ds' w' ρ' e2 e8 e9 e11 e12 hD) h
theorem F43_calls (l0 : SV) (s1 : ByteArray) (n2 : Int) (w : World) (R : Rt) (h : F43_12 R l0 s1 n2 [] w) : Calls Try.prog 43 #[.slice l0.a l0.len l0.cap, .string s1, .int .i64 n2] w R :=
  calls_of_L (l := [c43_0, c43_1, c43_2, c43_3, c43_4, c43_5, c43_6, c43_7, c43_8, c43_9, c43_10, c43_11]) Try.func43 (by kernel_rfl) (by rw [Try.ntmps43]; exact Nat.le_of_ble_eq_true (by kernel_rfl)) c43_l
    (F43_12_ok R l0 s1 n2 [] w _ rfl rfl rfl h)
theorem F43_callsD (l0 : SV) (s1 : ByteArray) (n2 : Int) (w : World) (R : Rt) (u : FrameMode) (h : F43_12 R l0 s1 n2 [] w) : CallsD Try.prog 43 #[.slice l0.a l0.len l0.cap, .string s1, .int .i64 n2] u w fun e u' w' => u' = u ∧ R e w' :=
  callsD_of_L (l := [c43_0, c43_1, c43_2, c43_3, c43_4, c43_5, c43_6, c43_7, c43_8, c43_9, c43_10, c43_11]) Try.func43 (by kernel_rfl) (by rw [Try.ntmps43]; exact Nat.le_of_ble_eq_true (by kernel_rfl)) (by kernel_rfl) c43_l
    (F43_12_ok R l0 s1 n2 [] w _ rfl rfl rfl h) u

/-! function 82: cabinetry/cabinetrylaw24.procs -/
noncomputable def c82_0 : Code := itemAt (flat (bodyOf Try.f82)) 0
noncomputable def c82_1 : Code := itemAt (flat (bodyOf Try.f82)) 1
noncomputable def c82_2 : Code := itemAt (flat (bodyOf Try.f82)) 2
noncomputable def c82_3 : Code := itemAt (flat (bodyOf Try.f82)) 3
noncomputable def c82_4 : Code := itemAt (flat (bodyOf Try.f82)) 4
noncomputable def c82_5 : Code := itemAt (flat (bodyOf Try.f82)) 5
noncomputable def c82_3_0 : Code := itemAt (flat (innerC c82_3)) 0
noncomputable def c82_3_0_0 : Code := itemAt (flat (innerC c82_3_0)) 0
noncomputable def c82_3_0_1 : Code := itemAt (flat (innerC c82_3_0)) 1
noncomputable def c82_3_0_2 : Code := itemAt (flat (innerC c82_3_0)) 2
noncomputable def c82_3_0_3 : Code := itemAt (flat (innerC c82_3_0)) 3
def F82_q1 (R : Rt) : EQ := endQ Try.prog Try.f82.results.toList R
def F82_1 (R : Rt) (n3 : Int) (ds : Ds) (w : World) : Prop :=
 runD Try.prog ds w fun w1 =>
 R (.returned (.int .i64 n3)) w1
def F82_k2 (R : Rt) : EP := (fun ρ ds w => dInt .i64 (ρ 3) fun n3 => F82_1 R n3 ds w)
def F82_q3 (R : Rt) : EQ := (thenQ (F82_k2 R) (F82_q1 R))
def F82_q4 (R : Rt) : EQ := (blockQ 0 (F82_q3 R))
def F82_q5 (R : Rt) (J1 : (Int × Int) → World → Prop) : EQ := (thenQ (fun ρ _ w => dInt .i64 (ρ 3) fun n3 => dInt .i64 (ρ 4) fun n4 => J1 (n3, n4) w) (F82_q4 R))
def F82_2 (R : Rt) (J1 : (Int × Int) → World → Prop) (l0 : SV) (n3 : Int) (n4 : Int) (ds : Ds) (w : World) : Prop :=
 Br (decide (n4 < ((l0.len : Nat) : Int))) (
 ∃ a2 : Addr, l0.a = some a2 ∧ 0 ≤ n4 ∧ n4 < ((l0.len : Nat) : Int) ∧
 ∃ l16 : SV, w.cell? ((a2.add (n4.toNat * 5)).add 2) = some (.slice l16.a l16.len l16.cap) ∧
 J1 ((IntKind.i64.wrap (n3 + ((l16.len : Nat) : Int))), (IntKind.i64.wrap (n4 + 1))) w) (
 F82_1 R n3 ds w)
def F82_3 (R : Rt) (l0 : SV) (n3 : Int) (n4 : Int) (ds : Ds) (w : World) : Prop :=
 loopT (fun (J1 : (Int × Int) → World → Prop) (s : Int × Int) (w : World) => F82_2 R J1 l0 s.1 s.2 ds w) (n3, n4) w
@[reducible] def F82_4 (R : Rt) (l0 : SV) (n3 : Int) (n4 : Int) (ds : Ds) (w : World) : Prop := F82_3 R l0 n3 n4 ds w
def F82_k6 (R : Rt) : EP := (fun ρ ds w => dSl (ρ 0) fun l0 => dInt .i64 (ρ 3) fun n3 => dInt .i64 (ρ 4) fun n4 => F82_4 R l0 n3 n4 ds w)
def F82_5 (R : Rt) (l0 : SV) (ds : Ds) (w : World) : Prop :=
 F82_4 R l0 0 0 ds w
theorem c82_l : flat (bodyOf Try.f82) = [c82_0, c82_1, c82_2, c82_3, c82_4, c82_5] := by kernel_rfl
theorem c82_3_l : flat (innerC c82_3) = [c82_3_0] := by kernel_rfl
theorem c82_3_0_l : flat (innerC c82_3_0) = [c82_3_0_0, c82_3_0_1, c82_3_0_2, c82_3_0_3] := by kernel_rfl
theorem F82_1_ok (R : Rt) (n3 : Int) (ds : Ds) (w : World) (ρ : Env) (e3 : ρ 3 = .int .i64 n3) (h : F82_1 R n3 ds w) :
    TrL Try.prog Try.f82.ntmps [c82_4, c82_5] (F82_q1 R) ρ ds w :=
  TrL_leaf (X := F82_1 R n3 ds w) (setAll_cons e3 setAll_nil) (by kernel_rfl) (by kernel_rfl) h
theorem F82_2_ok (R : Rt) (J1 : (Int × Int) → World → Prop) (l0 : SV) (n3 : Int) (n4 : Int) (ds : Ds) (w : World) (ρ : Env) (e0 : ρ 0 = .slice l0.a l0.len l0.cap) (e3 : ρ 3 = .int .i64 n3) (e4 : ρ 4 = .int .i64 n4) (h : F82_2 R J1 l0 n3 n4 ds w) :
    TrL Try.prog Try.f82.ntmps [c82_3_0_0, c82_3_0_1, c82_3_0_2, c82_3_0_3] (F82_q5 R J1) ρ ds w :=
  TrL_leaf (X := F82_2 R J1 l0 n3 n4 ds w) (setAll_cons e0 (setAll_cons e3 (setAll_cons e4 setAll_nil))) (by kernel_rfl) (by kernel_rfl) h
theorem F82_3_ok (R : Rt) (l0 : SV) (n3 : Int) (n4 : Int) (ds : Ds) (w : World) (ρ : Env) (e0 : ρ 0 = .slice l0.a l0.len l0.cap) (e3 : ρ 3 = .int .i64 n3) (e4 : ρ 4 = .int .i64 n4) (h : F82_3 R l0 n3 n4 ds w) :
    TrL Try.prog Try.f82.ntmps [c82_3_0] (F82_q4 R) ρ ds w :=
  TrL_one (Tr_loop' (c := innerC c82_3_0) (σ := Int × Int) (enc := (fun (s : Int × Int) (ρ : Env) => ρ 3 = .int .i64 s.1 ∧ ρ 4 = .int .i64 s.2)) (D := (fun ρ K => dInt .i64 (ρ 3) fun n3 => dInt .i64 (ρ 4) fun n4 => K (n3, n4))) (F := (fun (J1 : (Int × Int) → World → Prop) (s : Int × Int) (w : World) => F82_2 R J1 l0 s.1 s.2 ds w)) (s0 := (n3, n4)) (by kernel_rfl) c82_3_0_l ⟨e3, e4⟩ (by kernel_rfl) (fun ρ K hD => by obtain ⟨n3, e3, hD⟩ := dInt_elim hD; obtain ⟨n4, e4, hD⟩ := dInt_elim hD; exact ⟨(n3, n4), ⟨e3, e4⟩, hD⟩)
      (fun J1 s ρ' w' he ha hF => by
      obtain ⟨e3', e4'⟩ := he
      exact F82_2_ok R J1 l0 s.1 s.2 ds w' ρ' ((ha 0 (by kernel_rfl)).trans e0) e3' e4' hF) h)
theorem F82_4_ok (R : Rt) (l0 : SV) (n3 : Int) (n4 : Int) (ds : Ds) (w : World) (ρ : Env) (e0 : ρ 0 = .slice l0.a l0.len l0.cap) (e3 : ρ 3 = .int .i64 n3) (e4 : ρ 4 = .int .i64 n4) (h : F82_4 R l0 n3 n4 ds w) :
    TrL Try.prog Try.f82.ntmps [c82_3, c82_4, c82_5] (F82_q1 R) ρ ds w :=
  TrL_head (K := (F82_k2 R)) (Tr_block' (c := innerC c82_3) (by kernel_rfl) c82_3_l (F82_3_ok R l0 n3 n4 ds w ρ e0 e3 e4 h))
    (fun ρ' ds' w' hD => by
      obtain ⟨n3, e3, hD⟩ := dInt_elim hD; exact F82_1_ok R n3 ds' w' ρ' e3 hD)
theorem F82_5_ok (R : Rt) (l0 : SV) (ds : Ds) (w : World) (ρ : Env) (e0 : ρ 0 = .slice l0.a l0.len l0.cap) (h : F82_5 R l0 ds w) :
    TrL Try.prog Try.f82.ntmps [c82_0, c82_1, c82_2, c82_3, c82_4, c82_5] (F82_q1 R) ρ ds w :=
  TrL_piece (pre := [c82_0, c82_1, c82_2]) (K := (F82_k6 R)) (X := F82_5 R l0 ds w) (setAll_cons e0 setAll_nil) (by kernel_rfl) (by kernel_rfl)
    (fun ρ' ds' w' hD => by
      obtain ⟨l0, e0, hD⟩ := dSl_elim hD; obtain ⟨n3, e3, hD⟩ := dInt_elim hD; obtain ⟨n4, e4, hD⟩ := dInt_elim hD; exact F82_4_ok R l0 n3 n4 ds' w' ρ' e0 e3 e4 hD) h
theorem F82_calls (l0 : SV) (w : World) (R : Rt) (h : F82_5 R l0 [] w) : Calls Try.prog 82 #[.slice l0.a l0.len l0.cap] w R :=
  calls_of_L (l := [c82_0, c82_1, c82_2, c82_3, c82_4, c82_5]) Try.func82 (by kernel_rfl) (by rw [Try.ntmps82]; exact Nat.le_of_ble_eq_true (by kernel_rfl)) c82_l
    (F82_5_ok R l0 [] w _ rfl h)
theorem F82_callsD (l0 : SV) (w : World) (R : Rt) (u : FrameMode) (h : F82_5 R l0 [] w) : CallsD Try.prog 82 #[.slice l0.a l0.len l0.cap] u w fun e u' w' => u' = u ∧ R e w' :=
  callsD_of_L (l := [c82_0, c82_1, c82_2, c82_3, c82_4, c82_5]) Try.func82 (by kernel_rfl) (by rw [Try.ntmps82]; exact Nat.le_of_ble_eq_true (by kernel_rfl)) (by kernel_rfl) c82_l
    (F82_5_ok R l0 [] w _ rfl h) u

/-! function 83: cabinetry/link.Worst$1 -/
noncomputable def c83_0 : Code := itemAt (flat (bodyOf Try.f83)) 0
noncomputable def c83_1 : Code := itemAt (flat (bodyOf Try.f83)) 1
noncomputable def c83_2 : Code := itemAt (flat (bodyOf Try.f83)) 2
noncomputable def c83_3 : Code := itemAt (flat (bodyOf Try.f83)) 3
noncomputable def c83_4 : Code := itemAt (flat (bodyOf Try.f83)) 4
noncomputable def c83_5 : Code := itemAt (flat (bodyOf Try.f83)) 5
noncomputable def c83_6 : Code := itemAt (flat (bodyOf Try.f83)) 6
noncomputable def c83_7 : Code := itemAt (flat (bodyOf Try.f83)) 7
noncomputable def c83_8 : Code := itemAt (flat (bodyOf Try.f83)) 8
noncomputable def c83_9 : Code := itemAt (flat (bodyOf Try.f83)) 9
noncomputable def c83_10 : Code := itemAt (flat (bodyOf Try.f83)) 10
noncomputable def c83_11 : Code := itemAt (flat (bodyOf Try.f83)) 11
noncomputable def c83_12 : Code := itemAt (flat (bodyOf Try.f83)) 12
noncomputable def c83_13 : Code := itemAt (flat (bodyOf Try.f83)) 13
noncomputable def c83_7_0 : Code := itemAt (flat (innerC c83_7)) 0
noncomputable def c83_7_0_0 : Code := itemAt (flat (innerC c83_7_0)) 0
noncomputable def c83_7_0_1 : Code := itemAt (flat (innerC c83_7_0)) 1
noncomputable def c83_7_0_2 : Code := itemAt (flat (innerC c83_7_0)) 2
noncomputable def c83_7_0_3 : Code := itemAt (flat (innerC c83_7_0)) 3
def F83_q1 (R : Rt) : EQ := endQ Try.prog Try.f83.results.toList R
def F83_1 (R : Rt) (v1 : Value) (p4 : Option Addr) (p8 : Option Addr) (v9 : Value) (ds : Ds) (w : World) : Prop :=
 ptrE p4 fun a1 =>
 ∃ s52 : ByteArray, w.cell? a1 = some (.string s52) ∧
 Calls Try.prog 87 #[.string s52, .string (⟨#[32]⟩ : ByteArray)] w fun e w2 =>
 ∃ n53 : Int, e = .returned (.int .i64 n53) ∧
 Br (decide (n53 ≥ 0)) (
 dwE w2 fun w3 =>
 ptrE p4 fun a4 =>
 ∃ s58 : ByteArray, w3.cell? a4 = some (.string s58) ∧
 0 ≤ n53 ∧ n53.toNat ≤ s58.size ∧ 0 ≤ n53.toNat ∧
 ptrE p4 fun a5 =>
 ∃ s62 : ByteArray, w3.cell? a5 = some (.string s62) ∧
 s62.size ≤ s62.size ∧ 0 ≤ (IntKind.i64.wrap (n53 + 1)) ∧ (IntKind.i64.wrap (n53 + 1)).toNat ≤ s62.size ∧
 fnE v9 fun f67 first67 cap67 =>
 hasBody Try.prog f67 = true ∧ Calls Try.prog f67 (first67.toList ++ (([.agg #[.string (s58.extract 0 n53.toNat), .string (s62.extract ((IntKind.i64.wrap (n53 + 1)).toNat) s62.size), .int .i64 0, .int .i64 0]] : List Value) ++ cap67.toList)).toArray w3 fun e w6 =>
 e = .returned (.tuple #[]) ∧
 addrE v1 fun a7 =>
 ∃ m68 : Option Nat, w6.cell? a7 = some (.map m68) ∧
 ptrE p4 fun a8 =>
 ∃ s69_0 : ByteArray, w6.cell? (a8.add 0) = some (.string s69_0) ∧
 ∃ s69_1 : ByteArray, w6.cell? (a8.add 1) = some (.string s69_1) ∧
 ∃ n69_2 : Int, w6.cell? (a8.add 2) = some (.int .i64 n69_2) ∧
 ∃ n69_3 : Int, w6.cell? (a8.add 3) = some (.int .i64 n69_3) ∧
 ptrE p8 fun a9 =>
 ∃ n70 : Int, w6.cell? a9 = some (.int .i64 n70) ∧
 doE Try.prog (Instr.mapUpdate 103 (.map m68) (.agg #[.string s69_0, .string s69_1, .int .i64 n69_2, .int .i64 n69_3]) (.int .i64 n70)) w6 fun w10 =>
 ptrE p8 fun a11 =>
 ∃ n71 : Int, w10.cell? a11 = some (.int .i64 n71) ∧
 runD Try.prog ds w10 fun w12 =>
 R (.returned (.int .i64 n71)) w12) (
 addrE v1 fun a13 =>
 ∃ m68 : Option Nat, w2.cell? a13 = some (.map m68) ∧
 ptrE p4 fun a14 =>
 ∃ s69_0 : ByteArray, w2.cell? (a14.add 0) = some (.string s69_0) ∧
 ∃ s69_1 : ByteArray, w2.cell? (a14.add 1) = some (.string s69_1) ∧
 ∃ n69_2 : Int, w2.cell? (a14.add 2) = some (.int .i64 n69_2) ∧
 ∃ n69_3 : Int, w2.cell? (a14.add 3) = some (.int .i64 n69_3) ∧
 ptrE p8 fun a15 =>
 ∃ n70 : Int, w2.cell? a15 = some (.int .i64 n70) ∧
 doE Try.prog (Instr.mapUpdate 103 (.map m68) (.agg #[.string s69_0, .string s69_1, .int .i64 n69_2, .int .i64 n69_3]) (.int .i64 n70)) w2 fun w16 =>
 ptrE p8 fun a17 =>
 ∃ n71 : Int, w16.cell? a17 = some (.int .i64 n71) ∧
 runD Try.prog ds w16 fun w18 =>
 R (.returned (.int .i64 n71)) w18)
def F83_k2 (R : Rt) : EP := (fun ρ ds w => dPtr (ρ 4) fun p4 => dPtr (ρ 8) fun p8 => F83_1 R (ρ 1) p4 p8 (ρ 9) ds w)
def F83_q3 (R : Rt) : EQ := (thenQ (F83_k2 R) (F83_q1 R))
def F83_q4 (R : Rt) : EQ := (blockQ 0 (F83_q3 R))
def F83_q5 (R : Rt) (J1 : (Int) → World → Prop) : EQ := (thenQ (fun ρ _ w => dInt .i64 (ρ 36) fun n36 => J1 n36 w) (F83_q4 R))
def F83_2 (R : Rt) (J1 : (Int) → World → Prop) (v1 : Value) (p4 : Option Addr) (p8 : Option Addr) (v9 : Value) (l34 : SV) (n35 : Int) (n36 : Int) (ds : Ds) (w : World) : Prop :=
 Br (decide (n36 < n35)) (
 ∃ a19 : Addr, l34.a = some a19 ∧ 0 ≤ n36 ∧ n36 < ((l34.len : Nat) : Int) ∧
 ∃ s39 : ByteArray, w.cell? (a19.add (n36.toNat * 1)) = some (.string s39) ∧
 ptrE p4 fun a20 =>
 ∃ s42 : ByteArray, w.cell? a20 = some (.string s42) ∧
 ((s42.size + (⟨#[32]⟩ : ByteArray).size : Nat) : Int) ≤ 9223372036854775807 ∧
 ptrE p4 fun a21 =>
 ∃ s45 : ByteArray, w.cell? (a21.add 1) = some (.string s45) ∧
 (((s42 ++ (⟨#[32]⟩ : ByteArray)).size + s45.size : Nat) : Int) ≤ 9223372036854775807 ∧
 fnE v9 fun f49 first49 cap49 =>
 hasBody Try.prog f49 = true ∧ Calls Try.prog f49 (first49.toList ++ (([.agg #[.string ((s42 ++ (⟨#[32]⟩ : ByteArray)) ++ s45), .string s39, .int .i64 0, .int .i64 0]] : List Value) ++ cap49.toList)).toArray w fun e w22 =>
 e = .returned (.tuple #[]) ∧
 J1 (IntKind.i64.wrap (n36 + 1)) w22) (
 F83_1 R (v1) p4 p8 (v9) ds w)
def F83_3 (R : Rt) (v1 : Value) (p4 : Option Addr) (p8 : Option Addr) (v9 : Value) (l34 : SV) (n35 : Int) (n36 : Int) (ds : Ds) (w : World) : Prop :=
 loopT (fun (J1 : (Int) → World → Prop) (s : Int) (w : World) => F83_2 R J1 v1 p4 p8 v9 l34 n35 s ds w) n36 w
@[reducible] def F83_4 (R : Rt) (v1 : Value) (p4 : Option Addr) (p8 : Option Addr) (v9 : Value) (l34 : SV) (n35 : Int) (n36 : Int) (ds : Ds) (w : World) : Prop := F83_3 R v1 p4 p8 v9 l34 n35 n36 ds w
def F83_k6 (R : Rt) : EP := (fun ρ ds w => dPtr (ρ 4) fun p4 => dPtr (ρ 8) fun p8 => dSl (ρ 34) fun l34 => dInt .i64 (ρ 35) fun n35 => dInt .i64 (ρ 36) fun n36 => F83_4 R (ρ 1) p4 p8 (ρ 9) l34 n35 n36 ds w)
def F83_5 (R : Rt) (s0_0 : ByteArray) (s0_1 : ByteArray) (n0_2 : Int) (n0_3 : Int) (v1 : Value) (v2 : Value) (v3 : Value) (ds : Ds) (w : World) : Prop :=
 alE (.cells #[.string s0_0, .string s0_1, .int .i64 n0_2, .int .i64 n0_3] 106) w fun r4 w23 =>
 addrE v1 fun a24 =>
 ∃ m14 : Option Nat, w23.cell? a24 = some (.map m14) ∧
 ∃ s15_0 : ByteArray, w23.cell? ((⟨r4, 0, none⟩ : Addr).add 0) = some (.string s15_0) ∧
 ∃ s15_1 : ByteArray, w23.cell? ((⟨r4, 0, none⟩ : Addr).add 1) = some (.string s15_1) ∧
 ∃ n15_2 : Int, w23.cell? ((⟨r4, 0, none⟩ : Addr).add 2) = some (.int .i64 n15_2) ∧
 ∃ n15_3 : Int, w23.cell? ((⟨r4, 0, none⟩ : Addr).add 3) = some (.int .i64 n15_3) ∧
 ∃ n16_0 : Int, ∃ b16_1 : Bool, ∃ w25 : World, (Instr.lookup 103 (.map m14) (.agg #[.string s15_0, .string s15_1, .int .i64 n15_2, .int .i64 n15_3]) true).run Try.prog w23 = .ok (.tuple #[.int .i64 n16_0, .bool b16_1]) w25 ∧
 Br b16_1 (
 runD Try.prog ds w25 fun w26 =>
 R (.returned (.int .i64 n16_0)) w26) (
 ∃ n22 : Int, w25.cell? ((⟨r4, 0, none⟩ : Addr).add 3) = some (.int .i64 n22) ∧
 Br (n22 == 0) (
 runD Try.prog ds w25 fun w27 =>
 R (.returned (.int .i64 n16_0)) w27) (
 alE (.cells #[.int .i64 0] 3) w25 fun r8 w28 =>
 st1 (⟨r8, 0, none⟩ : Addr) (.int .i64 0) w28 fun w29 =>
 addrE v2 fun a30 =>
 ∃ m27 : Option Nat, w29.cell? a30 = some (.map m27) ∧
 ∃ s29 : ByteArray, w29.cell? ((⟨r4, 0, none⟩ : Addr).add 1) = some (.string s29) ∧
 ∃ n30_0 : Int, ∃ l30_1 : SV, ∃ w31 : World, (Instr.lookup 57 (.map m27) (.string s29) false).run Try.prog w29 = .ok (.agg #[.int .i64 n30_0, .slice l30_1.a l30_1.len l30_1.cap]) w31 ∧
 Calls Try.prog 86 #[.slice l30_1.a l30_1.len l30_1.cap] w31 fun e w32 =>
 ∃ v32 : Value, e = .returned (v32) ∧
 Calls Try.prog 64 #[v32] w32 fun e w33 =>
 ∃ l33 : SV, e = .returned (.slice l33.a l33.len l33.cap) ∧
 Calls Try.prog 85 #[.slice l33.a l33.len l33.cap] w33 fun e w34 =>
 ∃ l34 : SV, e = .returned (.slice l34.a l34.len l34.cap) ∧
 F83_4 R (v1) (some (⟨r4, 0, none⟩ : Addr)) (some (⟨r8, 0, none⟩ : Addr)) (.func (.func 84) #[] #[.pointer (some (⟨r4, 0, none⟩ : Addr)), v2, .pointer (some (⟨r8, 0, none⟩ : Addr)), v3]) l34 ((l34.len : Nat) : Int) 0 ds w34))
theorem c83_l : flat (bodyOf Try.f83) = [c83_0, c83_1, c83_2, c83_3, c83_4, c83_5, c83_6, c83_7, c83_8, c83_9, c83_10, c83_11, c83_12, c83_13] := by kernel_rfl
theorem c83_7_l : flat (innerC c83_7) = [c83_7_0] := by kernel_rfl
theorem c83_7_0_l : flat (innerC c83_7_0) = [c83_7_0_0, c83_7_0_1, c83_7_0_2, c83_7_0_3] := by kernel_rfl
theorem F83_1_ok (R : Rt) (v1 : Value) (p4 : Option Addr) (p8 : Option Addr) (v9 : Value) (ds : Ds) (w : World) (ρ : Env) (e1 : ρ 1 = v1) (e4 : ρ 4 = .pointer p4) (e8 : ρ 8 = .pointer p8) (e9 : ρ 9 = v9) (h : F83_1 R v1 p4 p8 v9 ds w) :
    TrL Try.prog Try.f83.ntmps [c83_8, c83_9, c83_10, c83_11, c83_12, c83_13] (F83_q1 R) ρ ds w :=
  TrL_leaf (X := F83_1 R v1 p4 p8 v9 ds w) (setAll_cons e1 (setAll_cons e4 (setAll_cons e8 (setAll_cons e9 setAll_nil)))) (by kernel_rfl) (by kernel_rfl) h
theorem F83_2_ok (R : Rt) (J1 : (Int) → World → Prop) (v1 : Value) (p4 : Option Addr) (p8 : Option Addr) (v9 : Value) (l34 : SV) (n35 : Int) (n36 : Int) (ds : Ds) (w : World) (ρ : Env) (e1 : ρ 1 = v1) (e4 : ρ 4 = .pointer p4) (e8 : ρ 8 = .pointer p8) (e9 : ρ 9 = v9) (e34 : ρ 34 = .slice l34.a l34.len l34.cap) (e35 : ρ 35 = .int .i64 n35) (e36 : ρ 36 = .int .i64 n36) (h : F83_2 R J1 v1 p4 p8 v9 l34 n35 n36 ds w) :
    TrL Try.prog Try.f83.ntmps [c83_7_0_0, c83_7_0_1, c83_7_0_2, c83_7_0_3] (F83_q5 R J1) ρ ds w :=
  TrL_leaf (X := F83_2 R J1 v1 p4 p8 v9 l34 n35 n36 ds w) (setAll_cons e1 (setAll_cons e4 (setAll_cons e8 (setAll_cons e9 (setAll_cons e34 (setAll_cons e35 (setAll_cons e36 setAll_nil))))))) (by kernel_rfl) (by kernel_rfl) h
theorem F83_3_ok (R : Rt) (v1 : Value) (p4 : Option Addr) (p8 : Option Addr) (v9 : Value) (l34 : SV) (n35 : Int) (n36 : Int) (ds : Ds) (w : World) (ρ : Env) (e1 : ρ 1 = v1) (e4 : ρ 4 = .pointer p4) (e8 : ρ 8 = .pointer p8) (e9 : ρ 9 = v9) (e34 : ρ 34 = .slice l34.a l34.len l34.cap) (e35 : ρ 35 = .int .i64 n35) (e36 : ρ 36 = .int .i64 n36) (h : F83_3 R v1 p4 p8 v9 l34 n35 n36 ds w) :
    TrL Try.prog Try.f83.ntmps [c83_7_0] (F83_q4 R) ρ ds w :=
  TrL_one (Tr_loop' (c := innerC c83_7_0) (σ := Int) (enc := (fun (s : Int) (ρ : Env) => ρ 36 = .int .i64 s)) (D := (fun ρ K => dInt .i64 (ρ 36) fun n36 => K n36)) (F := (fun (J1 : (Int) → World → Prop) (s : Int) (w : World) => F83_2 R J1 v1 p4 p8 v9 l34 n35 s ds w)) (s0 := n36) (by kernel_rfl) c83_7_0_l e36 (by kernel_rfl) (fun ρ K hD => by obtain ⟨n36, e36, hD⟩ := dInt_elim hD; exact ⟨n36, e36, hD⟩)
      (fun J1 s ρ' w' he ha hF => by
      have e36' := he
      exact F83_2_ok R J1 v1 p4 p8 v9 l34 n35 s ds w' ρ' ((ha 1 (by kernel_rfl)).trans e1) ((ha 4 (by kernel_rfl)).trans e4) ((ha 8 (by kernel_rfl)).trans e8) ((ha 9 (by kernel_rfl)).trans e9) ((ha 34 (by kernel_rfl)).trans e34) ((ha 35 (by kernel_rfl)).trans e35) e36' hF) h)
theorem F83_4_ok (R : Rt) (v1 : Value) (p4 : Option Addr) (p8 : Option Addr) (v9 : Value) (l34 : SV) (n35 : Int) (n36 : Int) (ds : Ds) (w : World) (ρ : Env) (e1 : ρ 1 = v1) (e4 : ρ 4 = .pointer p4) (e8 : ρ 8 = .pointer p8) (e9 : ρ 9 = v9) (e34 : ρ 34 = .slice l34.a l34.len l34.cap) (e35 : ρ 35 = .int .i64 n35) (e36 : ρ 36 = .int .i64 n36) (h : F83_4 R v1 p4 p8 v9 l34 n35 n36 ds w) :
    TrL Try.prog Try.f83.ntmps [c83_7, c83_8, c83_9, c83_10, c83_11, c83_12, c83_13] (F83_q1 R) ρ ds w :=
  TrL_head (K := (F83_k2 R)) (Tr_block' (c := innerC c83_7) (by kernel_rfl) c83_7_l (F83_3_ok R v1 p4 p8 v9 l34 n35 n36 ds w ρ e1 e4 e8 e9 e34 e35 e36 h))
    (fun ρ' ds' w' hD => by
      obtain ⟨p4, e4, hD⟩ := dPtr_elim hD; obtain ⟨p8, e8, hD⟩ := dPtr_elim hD; exact F83_1_ok R (ρ' 1) p4 p8 (ρ' 9) ds' w' ρ' rfl e4 e8 rfl hD)
theorem F83_5_ok (R : Rt) (s0_0 : ByteArray) (s0_1 : ByteArray) (n0_2 : Int) (n0_3 : Int) (v1 : Value) (v2 : Value) (v3 : Value) (ds : Ds) (w : World) (ρ : Env) (e0 : ρ 0 = .agg #[.string s0_0, .string s0_1, .int .i64 n0_2, .int .i64 n0_3]) (e1 : ρ 1 = v1) (e2 : ρ 2 = v2) (e3 : ρ 3 = v3) (h : F83_5 R s0_0 s0_1 n0_2 n0_3 v1 v2 v3 ds w) :
    TrL Try.prog Try.f83.ntmps [c83_0, c83_1, c83_2, c83_3, c83_4, c83_5, c83_6, c83_7, c83_8, c83_9, c83_10, c83_11, c83_12, c83_13] (F83_q1 R) ρ ds w :=
  TrL_piece (pre := [c83_0, c83_1, c83_2, c83_3, c83_4, c83_5, c83_6]) (K := (F83_k6 R)) (X := F83_5 R s0_0 s0_1 n0_2 n0_3 v1 v2 v3 ds w) (setAll_cons e0 (setAll_cons e1 (setAll_cons e2 (setAll_cons e3 setAll_nil)))) (by kernel_rfl) (by kernel_rfl)
    (fun ρ' ds' w' hD => by
      obtain ⟨p4, e4, hD⟩ := dPtr_elim hD; obtain ⟨p8, e8, hD⟩ := dPtr_elim hD; obtain ⟨l34, e34, hD⟩ := dSl_elim hD; obtain ⟨n35, e35, hD⟩ := dInt_elim hD; obtain ⟨n36, e36, hD⟩ := dInt_elim hD; exact F83_4_ok R (ρ' 1) p4 p8 (ρ' 9) l34 n35 n36 ds' w' ρ' rfl e4 e8 rfl e34 e35 e36 hD) h
theorem F83_calls (s0_0 : ByteArray) (s0_1 : ByteArray) (n0_2 : Int) (n0_3 : Int) (v1 : Value) (v2 : Value) (v3 : Value) (w : World) (R : Rt) (h : F83_5 R s0_0 s0_1 n0_2 n0_3 v1 v2 v3 [] w) : Calls Try.prog 83 #[.agg #[.string s0_0, .string s0_1, .int .i64 n0_2, .int .i64 n0_3], v1, v2, v3] w R :=
  calls_of_L (l := [c83_0, c83_1, c83_2, c83_3, c83_4, c83_5, c83_6, c83_7, c83_8, c83_9, c83_10, c83_11, c83_12, c83_13]) Try.func83 (by kernel_rfl) (by rw [Try.ntmps83]; exact Nat.le_of_ble_eq_true (by kernel_rfl)) c83_l
    (F83_5_ok R s0_0 s0_1 n0_2 n0_3 v1 v2 v3 [] w _ rfl rfl rfl rfl h)
theorem F83_callsD (s0_0 : ByteArray) (s0_1 : ByteArray) (n0_2 : Int) (n0_3 : Int) (v1 : Value) (v2 : Value) (v3 : Value) (w : World) (R : Rt) (u : FrameMode) (h : F83_5 R s0_0 s0_1 n0_2 n0_3 v1 v2 v3 [] w) : CallsD Try.prog 83 #[.agg #[.string s0_0, .string s0_1, .int .i64 n0_2, .int .i64 n0_3], v1, v2, v3] u w fun e u' w' => u' = u ∧ R e w' :=
  callsD_of_L (l := [c83_0, c83_1, c83_2, c83_3, c83_4, c83_5, c83_6, c83_7, c83_8, c83_9, c83_10, c83_11, c83_12, c83_13]) Try.func83 (by kernel_rfl) (by rw [Try.ntmps83]; exact Nat.le_of_ble_eq_true (by kernel_rfl)) (by kernel_rfl) c83_l
    (F83_5_ok R s0_0 s0_1 n0_2 n0_3 v1 v2 v3 [] w _ rfl rfl rfl rfl h) u

/-! function 84: cabinetry/link.Worst$1$1 -/
noncomputable def c84_0 : Code := itemAt (flat (bodyOf Try.f84)) 0
noncomputable def c84_1 : Code := itemAt (flat (bodyOf Try.f84)) 1
noncomputable def c84_2 : Code := itemAt (flat (bodyOf Try.f84)) 2
noncomputable def c84_3 : Code := itemAt (flat (bodyOf Try.f84)) 3
def F84_q1 (R : Rt) : EQ := endQ Try.prog Try.f84.results.toList R
def F84_1 (R : Rt) (s0_0 : ByteArray) (s0_1 : ByteArray) (n0_2 : Int) (n0_3 : Int) (v1 : Value) (v2 : Value) (v3 : Value) (v4 : Value) (ds : Ds) (w : World) : Prop :=
 alE (.cells #[.string s0_0, .string s0_1, .int .i64 n0_2, .int .i64 n0_3] 106) w fun r5 w1 =>
 addrE v1 fun a2 =>
 ∃ n8 : Int, w1.cell? (a2.add 2) = some (.int .i64 n8) ∧
 addrE v2 fun a3 =>
 ∃ m10 : Option Nat, w1.cell? a3 = some (.map m10) ∧
 ∃ s12 : ByteArray, w1.cell? ((⟨r5, 0, none⟩ : Addr).add 1) = some (.string s12) ∧
 ∃ n13_0 : Int, ∃ l13_1 : SV, ∃ w4 : World, (Instr.lookup 57 (.map m10) (.string s12) false).run Try.prog w1 = .ok (.agg #[.int .i64 n13_0, .slice l13_1.a l13_1.len l13_1.cap]) w4 ∧
 Calls Try.prog 46 #[.agg #[.int .i64 n8, .int .i64 0], .int .i64 n13_0] w4 fun e w5 =>
 ∃ n15_0 : Int, ∃ n15_1 : Int, e = .returned (.agg #[.int .i64 n15_0, .int .i64 n15_1]) ∧
 alE (.cells #[.int .i64 0, .int .i64 0] 61) w5 fun r6 w6 =>
 stA Try.prog 61 (⟨r6, 0, none⟩ : Addr) #[.int .i64 n15_0, .int .i64 n15_1] w6 fun w7 =>
 dwE w7 fun w8 =>
 ∃ S1 : World → Prop, S1 w8 ∧
 ∃ n17 : Int, (∀ w', S1 w' → w'.cell? (⟨r6, 0, none⟩ : Addr) = some (.int .i64 n17)) ∧
 addrE v1 fun a9 =>
 ∃ n19 : Int, (∀ w', S1 w' → w'.cell? (a9.add 3) = some (.int .i64 n19)) ∧
 st1 ((⟨r5, 0, none⟩ : Addr).add 2) (.int .i64 n17) w8 fun w10 =>
 S1 w10 ∧
 st1 ((⟨r5, 0, none⟩ : Addr).add 3) (.int .i64 (IntKind.i64.wrap (n19 - 1))) w10 fun w11 =>
 dwE w11 fun w12 =>
 ∃ S2 : World → Prop, S2 w12 ∧
 addrE v3 fun a13 =>
 ∃ n23 : Int, (∀ w', S2 w' → w'.cell? a13 = some (.int .i64 n23)) ∧
 ∃ n25 : Int, (∀ w', S2 w' → w'.cell? ((⟨r6, 0, none⟩ : Addr).add 1) = some (.int .i64 n25)) ∧
 addrE v4 fun a14 =>
 ∃ v26 : Value, (∀ w', S2 w' → w'.cell? a14 = some (v26)) ∧
 ∃ s27_0 : ByteArray, (∀ w', S2 w' → w'.cell? ((⟨r5, 0, none⟩ : Addr).add 0) = some (.string s27_0)) ∧
 ∃ s27_1 : ByteArray, (∀ w', S2 w' → w'.cell? ((⟨r5, 0, none⟩ : Addr).add 1) = some (.string s27_1)) ∧
 ∃ n27_2 : Int, (∀ w', S2 w' → w'.cell? ((⟨r5, 0, none⟩ : Addr).add 2) = some (.int .i64 n27_2)) ∧
 ∃ n27_3 : Int, (∀ w', S2 w' → w'.cell? ((⟨r5, 0, none⟩ : Addr).add 3) = some (.int .i64 n27_3)) ∧
 fnE v26 fun f28 first28 cap28 =>
 hasBody Try.prog f28 = true ∧ Calls Try.prog f28 (first28.toList ++ (([.agg #[.string s27_0, .string s27_1, .int .i64 n27_2, .int .i64 n27_3]] : List Value) ++ cap28.toList)).toArray w12 fun e w15 =>
 ∃ n28 : Int, e = .returned (.int .i64 n28) ∧
 S2 w15 ∧
 ∃ n30 : Int, ∃ w16 : World, (Builtin.max_ #[3, 3] 3 #[.int .i64 n23, .int .i64 (IntKind.i64.wrap (n25 + n28))]).run Try.prog w15 = .ok (.int .i64 n30) w16 ∧
 addrE v3 fun a17 =>
 st1 a17 (.int .i64 n30) w16 fun w18 =>
 runD Try.prog ds w18 fun w19 =>
 R (.returned (.tuple #[])) w19
theorem c84_l : flat (bodyOf Try.f84) = [c84_0, c84_1, c84_2, c84_3] := by kernel_rfl
theorem F84_1_ok (R : Rt) (s0_0 : ByteArray) (s0_1 : ByteArray) (n0_2 : Int) (n0_3 : Int) (v1 : Value) (v2 : Value) (v3 : Value) (v4 : Value) (ds : Ds) (w : World) (ρ : Env) (e0 : ρ 0 = .agg #[.string s0_0, .string s0_1, .int .i64 n0_2, .int .i64 n0_3]) (e1 : ρ 1 = v1) (e2 : ρ 2 = v2) (e3 : ρ 3 = v3) (e4 : ρ 4 = v4) (h : F84_1 R s0_0 s0_1 n0_2 n0_3 v1 v2 v3 v4 ds w) :
    TrL Try.prog Try.f84.ntmps [c84_0, c84_1, c84_2, c84_3] (F84_q1 R) ρ ds w :=
  TrL_leaf (X := F84_1 R s0_0 s0_1 n0_2 n0_3 v1 v2 v3 v4 ds w) (setAll_cons e0 (setAll_cons e1 (setAll_cons e2 (setAll_cons e3 (setAll_cons e4 setAll_nil))))) (by kernel_rfl) (by kernel_rfl) h
theorem F84_calls (s0_0 : ByteArray) (s0_1 : ByteArray) (n0_2 : Int) (n0_3 : Int) (v1 : Value) (v2 : Value) (v3 : Value) (v4 : Value) (w : World) (R : Rt) (h : F84_1 R s0_0 s0_1 n0_2 n0_3 v1 v2 v3 v4 [] w) : Calls Try.prog 84 #[.agg #[.string s0_0, .string s0_1, .int .i64 n0_2, .int .i64 n0_3], v1, v2, v3, v4] w R :=
  calls_of_L (l := [c84_0, c84_1, c84_2, c84_3]) Try.func84 (by kernel_rfl) (by rw [Try.ntmps84]; exact Nat.le_of_ble_eq_true (by kernel_rfl)) c84_l
    (F84_1_ok R s0_0 s0_1 n0_2 n0_3 v1 v2 v3 v4 [] w _ rfl rfl rfl rfl rfl h)
theorem F84_callsD (s0_0 : ByteArray) (s0_1 : ByteArray) (n0_2 : Int) (n0_3 : Int) (v1 : Value) (v2 : Value) (v3 : Value) (v4 : Value) (w : World) (R : Rt) (u : FrameMode) (h : F84_1 R s0_0 s0_1 n0_2 n0_3 v1 v2 v3 v4 [] w) : CallsD Try.prog 84 #[.agg #[.string s0_0, .string s0_1, .int .i64 n0_2, .int .i64 n0_3], v1, v2, v3, v4] u w fun e u' w' => u' = u ∧ R e w' :=
  callsD_of_L (l := [c84_0, c84_1, c84_2, c84_3]) Try.func84 (by kernel_rfl) (by rw [Try.ntmps84]; exact Nat.le_of_ble_eq_true (by kernel_rfl)) (by kernel_rfl) c84_l
    (F84_1_ok R s0_0 s0_1 n0_2 n0_3 v1 v2 v3 v4 [] w _ rfl rfl rfl rfl rfl h) u

/-! function 85: slices.Compact[[]string,string] -/
noncomputable def c85_0 : Code := itemAt (flat (bodyOf Try.f85)) 0
noncomputable def c85_1 : Code := itemAt (flat (bodyOf Try.f85)) 1
noncomputable def c85_2 : Code := itemAt (flat (bodyOf Try.f85)) 2
noncomputable def c85_3 : Code := itemAt (flat (bodyOf Try.f85)) 3
noncomputable def c85_4 : Code := itemAt (flat (bodyOf Try.f85)) 4
noncomputable def c85_5 : Code := itemAt (flat (bodyOf Try.f85)) 5
noncomputable def c85_6 : Code := itemAt (flat (bodyOf Try.f85)) 6
noncomputable def c85_4_0 : Code := itemAt (flat (innerC c85_4)) 0
noncomputable def c85_4_0_0 : Code := itemAt (flat (innerC c85_4_0)) 0
noncomputable def c85_4_0_1 : Code := itemAt (flat (innerC c85_4_0)) 1
noncomputable def c85_4_0_2 : Code := itemAt (flat (innerC c85_4_0)) 2
noncomputable def c85_4_0_3 : Code := itemAt (flat (innerC c85_4_0)) 3
noncomputable def c85_4_0_2_0 : Code := itemAt (flat (innerC c85_4_0_2)) 0
noncomputable def c85_4_0_2_1 : Code := itemAt (flat (innerC c85_4_0_2)) 1
noncomputable def c85_4_0_2_1t_0 : Code := itemAt (flat (thnC c85_4_0_2_1)) 0
noncomputable def c85_4_0_2_1t_1 : Code := itemAt (flat (thnC c85_4_0_2_1)) 1
noncomputable def c85_4_0_2_1t_2 : Code := itemAt (flat (thnC c85_4_0_2_1)) 2
noncomputable def c85_4_0_2_1t_3 : Code := itemAt (flat (thnC c85_4_0_2_1)) 3
noncomputable def c85_4_0_2_1t_4 : Code := itemAt (flat (thnC c85_4_0_2_1)) 4
noncomputable def c85_4_0_2_1t_5 : Code := itemAt (flat (thnC c85_4_0_2_1)) 5
noncomputable def c85_4_0_2_1e_0 : Code := itemAt (flat (elsC c85_4_0_2_1)) 0
noncomputable def c85_4_0_2_1t_2_0 : Code := itemAt (flat (innerC c85_4_0_2_1t_2)) 0
noncomputable def c85_4_0_2_1t_2_0_0 : Code := itemAt (flat (innerC c85_4_0_2_1t_2_0)) 0
noncomputable def c85_4_0_2_1t_2_0_1 : Code := itemAt (flat (innerC c85_4_0_2_1t_2_0)) 1
noncomputable def c85_4_0_2_1t_2_0_2 : Code := itemAt (flat (innerC c85_4_0_2_1t_2_0)) 2
noncomputable def c85_4_0_2_1t_2_0_3 : Code := itemAt (flat (innerC c85_4_0_2_1t_2_0)) 3
def F85_q1 (R : Rt) : EQ := endQ Try.prog Try.f85.results.toList R
def F85_1 (R : Rt) (l0 : SV) (ds : Ds) (w : World) : Prop :=
 runD Try.prog ds w fun w1 =>
 R (.returned (.slice l0.a l0.len l0.cap)) w1
def F85_k2 (R : Rt) : EP := (fun ρ ds w => dSl (ρ 0) fun l0 => F85_1 R l0 ds w)
def F85_q3 (R : Rt) : EQ := (thenQ (F85_k2 R) (F85_q1 R))
def F85_q4 (R : Rt) : EQ := (blockQ 0 (F85_q3 R))
def F85_q5 (R : Rt) (J1 : (Int) → World → Prop) : EQ := (thenQ (fun ρ _ w => dInt .i64 (ρ 3) fun n3 => J1 n3 w) (F85_q4 R))
def F85_2 (R : Rt) (J1 : (Int) → World → Prop) (l0 : SV) (n3 : Int) (ds : Ds) (w : World) : Prop :=
 J1 (IntKind.i64.wrap (n3 + 1)) w
def F85_k6 (R : Rt) (J1 : (Int) → World → Prop) : EP := (fun ρ ds w => dSl (ρ 0) fun l0 => dInt .i64 (ρ 3) fun n3 => F85_2 R J1 l0 n3 ds w)
def F85_q7 (R : Rt) (J1 : (Int) → World → Prop) : EQ := (thenQ (F85_k6 R J1) (F85_q5 R J1))
def F85_q8 (R : Rt) (J1 : (Int) → World → Prop) : EQ := (blockQ 1 (F85_q7 R J1))
def F85_3 (R : Rt) (J1 : (Int) → World → Prop) (l0 : SV) (n3 : Int) (ds : Ds) (w : World) : Prop :=
 l0.len ≤ l0.cap ∧ 0 ≤ n3 ∧ n3.toNat ≤ l0.len ∧
 ∃ w2 : World, (Builtin.clear_ #[23] 0 #[.slice (if l0.cap = n3.toNat then l0.a else l0.a.map (fun x => x.add (n3.toNat * 1))) (l0.len - n3.toNat) (l0.cap - n3.toNat)]).run Try.prog w = .ok (.tuple #[]) w2 ∧
 0 ≤ n3 ∧ n3.toNat ≤ l0.cap ∧ 0 ≤ n3.toNat ∧
 runD Try.prog ds w2 fun w3 =>
 R (.returned (.slice (if l0.cap = 0 then l0.a else l0.a.map (fun x => x.add (0 * 1))) (n3.toNat - 0) (l0.cap - 0))) w3
def F85_k9 (R : Rt) (J1 : (Int) → World → Prop) : EP := (fun ρ ds w => dSl (ρ 0) fun l0 => dInt .i64 (ρ 3) fun n3 => F85_3 R J1 l0 n3 ds w)
def F85_q10 (R : Rt) (J1 : (Int) → World → Prop) : EQ := (thenQ (F85_k9 R J1) (F85_q8 R J1))
def F85_q11 (R : Rt) (J1 : (Int) → World → Prop) : EQ := (blockQ 2 (F85_q10 R J1))
def F85_q12 (R : Rt) (J1 : (Int) → World → Prop) (J2 : (Int × Int) → World → Prop) : EQ := (thenQ (fun ρ _ w => dInt .i64 (ρ 3) fun n3 => dInt .i64 (ρ 5) fun n5 => J2 (n3, n5) w) (F85_q11 R J1))
def F85_4 (R : Rt) (J1 : (Int) → World → Prop) (J2 : (Int × Int) → World → Prop) (l0 : SV) (n3 : Int) (l4 : SV) (n5 : Int) (ds : Ds) (w : World) : Prop :=
 Br (decide (n5 < ((l4.len : Nat) : Int))) (
 dwE w fun w4 =>
 ∃ a5 : Addr, l4.a = some a5 ∧ 0 ≤ n5 ∧ n5 < ((l4.len : Nat) : Int) ∧
 ∃ s38 : ByteArray, w4.cell? (a5.add (n5.toNat * 1)) = some (.string s38) ∧
 ∃ a6 : Addr, l4.a = some a6 ∧ 0 ≤ (IntKind.i64.wrap (n5 - 1)) ∧ (IntKind.i64.wrap (n5 - 1)) < ((l4.len : Nat) : Int) ∧
 ∃ s43 : ByteArray, w4.cell? (a6.add ((IntKind.i64.wrap (n5 - 1)).toNat * 1)) = some (.string s43) ∧
 Br (!(s38.toList == s43.toList)) (
 ∃ a7 : Addr, l4.a = some a7 ∧ 0 ≤ n5 ∧ n5 < ((l4.len : Nat) : Int) ∧
 ∃ s50 : ByteArray, w4.cell? (a7.add (n5.toNat * 1)) = some (.string s50) ∧
 ∃ a8 : Addr, l0.a = some a8 ∧ 0 ≤ n3 ∧ n3 < ((l0.len : Nat) : Int) ∧
 st1 (a8.add (n3.toNat * 1)) (.string s50) w4 fun w9 =>
 J2 ((IntKind.i64.wrap (n3 + 1)), (IntKind.i64.wrap (n5 + 1))) w9) (
 J2 (n3, (IntKind.i64.wrap (n5 + 1))) w4)) (
 F85_3 R J1 l0 n3 ds w)
def F85_5 (R : Rt) (J1 : (Int) → World → Prop) (l0 : SV) (n3 : Int) (l4 : SV) (n5 : Int) (ds : Ds) (w : World) : Prop :=
 loopT (fun (J2 : (Int × Int) → World → Prop) (s : Int × Int) (w : World) => F85_4 R J1 J2 l0 s.1 l4 s.2 ds w) (n3, n5) w
@[reducible] def F85_6 (R : Rt) (J1 : (Int) → World → Prop) (l0 : SV) (n3 : Int) (l4 : SV) (n5 : Int) (ds : Ds) (w : World) : Prop := F85_5 R J1 l0 n3 l4 n5 ds w
def F85_k13 (R : Rt) (J1 : (Int) → World → Prop) : EP := (fun ρ ds w => dSl (ρ 0) fun l0 => dInt .i64 (ρ 3) fun n3 => dSl (ρ 4) fun l4 => dInt .i64 (ρ 5) fun n5 => F85_6 R J1 l0 n3 l4 n5 ds w)
def F85_7 (R : Rt) (J1 : (Int) → World → Prop) (l0 : SV) (n3 : Int) (ds : Ds) (w : World) : Prop :=
 l0.len ≤ l0.cap ∧ 0 ≤ n3 ∧ n3.toNat ≤ l0.len ∧
 F85_6 R J1 l0 n3 ⟨(if l0.cap = n3.toNat then l0.a else l0.a.map (fun x => x.add (n3.toNat * 1))), (l0.len - n3.toNat), (l0.cap - n3.toNat)⟩ 1 ds w
def F85_8 (R : Rt) (J1 : (Int) → World → Prop) (l0 : SV) (n3 : Int) (ds : Ds) (w : World) : Prop :=
 F85_2 R J1 l0 n3 ds w
def F85_9 (R : Rt) (J1 : (Int) → World → Prop) (l0 : SV) (n3 : Int) (b25 : Bool) (ds : Ds) (w : World) : Prop :=
 Br b25 (
 F85_7 R J1 l0 n3 ds w) (
 F85_8 R J1 l0 n3 ds w)
def F85_k14 (R : Rt) (J1 : (Int) → World → Prop) : EP := (fun ρ ds w => dSl (ρ 0) fun l0 => dInt .i64 (ρ 3) fun n3 => dBl (ρ 25) fun b25 => F85_9 R J1 l0 n3 b25 ds w)
def F85_10 (R : Rt) (J1 : (Int) → World → Prop) (l0 : SV) (n3 : Int) (ds : Ds) (w : World) : Prop :=
 dwE w fun w10 =>
 ∃ a11 : Addr, l0.a = some a11 ∧ 0 ≤ n3 ∧ n3 < ((l0.len : Nat) : Int) ∧
 ∃ s19 : ByteArray, w10.cell? (a11.add (n3.toNat * 1)) = some (.string s19) ∧
 ∃ a12 : Addr, l0.a = some a12 ∧ 0 ≤ (IntKind.i64.wrap (n3 - 1)) ∧ (IntKind.i64.wrap (n3 - 1)) < ((l0.len : Nat) : Int) ∧
 ∃ s24 : ByteArray, w10.cell? (a12.add ((IntKind.i64.wrap (n3 - 1)).toNat * 1)) = some (.string s24) ∧
 F85_9 R J1 l0 n3 (s19.toList == s24.toList) ds w10
@[reducible] def F85_11 (R : Rt) (J1 : (Int) → World → Prop) (l0 : SV) (n3 : Int) (ds : Ds) (w : World) : Prop := F85_10 R J1 l0 n3 ds w
def F85_k15 (R : Rt) (J1 : (Int) → World → Prop) : EP := (fun ρ ds w => dSl (ρ 0) fun l0 => dInt .i64 (ρ 3) fun n3 => F85_11 R J1 l0 n3 ds w)
def F85_12 (R : Rt) (J1 : (Int) → World → Prop) (l0 : SV) (n3 : Int) (ds : Ds) (w : World) : Prop :=
 Br (decide (n3 < ((l0.len : Nat) : Int))) (
 F85_11 R J1 l0 n3 ds w) (
 F85_1 R l0 ds w)
def F85_13 (R : Rt) (l0 : SV) (n3 : Int) (ds : Ds) (w : World) : Prop :=
 loopT (fun (J1 : (Int) → World → Prop) (s : Int) (w : World) => F85_12 R J1 l0 s ds w) n3 w
@[reducible] def F85_14 (R : Rt) (l0 : SV) (n3 : Int) (ds : Ds) (w : World) : Prop := F85_13 R l0 n3 ds w
def F85_k16 (R : Rt) : EP := (fun ρ ds w => dSl (ρ 0) fun l0 => dInt .i64 (ρ 3) fun n3 => F85_14 R l0 n3 ds w)
def F85_15 (R : Rt) (l0 : SV) (ds : Ds) (w : World) : Prop :=
 Br (decide (((l0.len : Nat) : Int) < 2)) (
 runD Try.prog ds w fun w13 =>
 R (.returned (.slice l0.a l0.len l0.cap)) w13) (
 F85_14 R l0 1 ds w)
theorem c85_l : flat (bodyOf Try.f85) = [c85_0, c85_1, c85_2, c85_3, c85_4, c85_5, c85_6] := by kernel_rfl
theorem c85_4_l : flat (innerC c85_4) = [c85_4_0] := by kernel_rfl
theorem c85_4_0_l : flat (innerC c85_4_0) = [c85_4_0_0, c85_4_0_1, c85_4_0_2, c85_4_0_3] := by kernel_rfl
theorem c85_4_0_2_l : flat (innerC c85_4_0_2) = [c85_4_0_2_0, c85_4_0_2_1] := by kernel_rfl
theorem c85_4_0_2_1t_l : flat (thnC c85_4_0_2_1) = [c85_4_0_2_1t_0, c85_4_0_2_1t_1, c85_4_0_2_1t_2, c85_4_0_2_1t_3, c85_4_0_2_1t_4, c85_4_0_2_1t_5] := by kernel_rfl
theorem c85_4_0_2_1e_l : flat (elsC c85_4_0_2_1) = [c85_4_0_2_1e_0] := by kernel_rfl
theorem c85_4_0_2_1t_2_l : flat (innerC c85_4_0_2_1t_2) = [c85_4_0_2_1t_2_0] := by kernel_rfl
theorem c85_4_0_2_1t_2_0_l : flat (innerC c85_4_0_2_1t_2_0) = [c85_4_0_2_1t_2_0_0, c85_4_0_2_1t_2_0_1, c85_4_0_2_1t_2_0_2, c85_4_0_2_1t_2_0_3] := by kernel_rfl
theorem F85_1_ok (R : Rt) (l0 : SV) (ds : Ds) (w : World) (ρ : Env) (e0 : ρ 0 = .slice l0.a l0.len l0.cap) (h : F85_1 R l0 ds w) :
    TrL Try.prog Try.f85.ntmps [c85_5, c85_6] (F85_q1 R) ρ ds w :=
  TrL_leaf (X := F85_1 R l0 ds w) (setAll_cons e0 setAll_nil) (by kernel_rfl) (by kernel_rfl) h
theorem F85_2_ok (R : Rt) (J1 : (Int) → World → Prop) (l0 : SV) (n3 : Int) (ds : Ds) (w : World) (ρ : Env) (e0 : ρ 0 = .slice l0.a l0.len l0.cap) (e3 : ρ 3 = .int .i64 n3) (h : F85_2 R J1 l0 n3 ds w) :
    TrL Try.prog Try.f85.ntmps [c85_4_0_3] (F85_q5 R J1) ρ ds w :=
  TrL_leaf (X := F85_2 R J1 l0 n3 ds w) (setAll_cons e0 (setAll_cons e3 setAll_nil)) (by kernel_rfl) (by kernel_rfl) h
theorem F85_3_ok (R : Rt) (J1 : (Int) → World → Prop) (l0 : SV) (n3 : Int) (ds : Ds) (w : World) (ρ : Env) (e0 : ρ 0 = .slice l0.a l0.len l0.cap) (e3 : ρ 3 = .int .i64 n3) (h : F85_3 R J1 l0 n3 ds w) :
    TrL Try.prog Try.f85.ntmps [c85_4_0_2_1t_3, c85_4_0_2_1t_4, c85_4_0_2_1t_5] (F85_q8 R J1) ρ ds w :=
  TrL_leaf (X := F85_3 R J1 l0 n3 ds w) (setAll_cons e0 (setAll_cons e3 setAll_nil)) (by kernel_rfl) (by kernel_rfl) h
theorem F85_4_ok (R : Rt) (J1 : (Int) → World → Prop) (J2 : (Int × Int) → World → Prop) (l0 : SV) (n3 : Int) (l4 : SV) (n5 : Int) (ds : Ds) (w : World) (ρ : Env) (e0 : ρ 0 = .slice l0.a l0.len l0.cap) (e3 : ρ 3 = .int .i64 n3) (e4 : ρ 4 = .slice l4.a l4.len l4.cap) (e5 : ρ 5 = .int .i64 n5) (h : F85_4 R J1 J2 l0 n3 l4 n5 ds w) :
    TrL Try.prog Try.f85.ntmps [c85_4_0_2_1t_2_0_0, c85_4_0_2_1t_2_0_1, c85_4_0_2_1t_2_0_2, c85_4_0_2_1t_2_0_3] (F85_q12 R J1 J2) ρ ds w :=
  TrL_leaf (X := F85_4 R J1 J2 l0 n3 l4 n5 ds w) (setAll_cons e0 (setAll_cons e3 (setAll_cons e4 (setAll_cons e5 setAll_nil)))) (by kernel_rfl) (by kernel_rfl) h
theorem F85_5_ok (R : Rt) (J1 : (Int) → World → Prop) (l0 : SV) (n3 : Int) (l4 : SV) (n5 : Int) (ds : Ds) (w : World) (ρ : Env) (e0 : ρ 0 = .slice l0.a l0.len l0.cap) (e3 : ρ 3 = .int .i64 n3) (e4 : ρ 4 = .slice l4.a l4.len l4.cap) (e5 : ρ 5 = .int .i64 n5) (h : F85_5 R J1 l0 n3 l4 n5 ds w) :
    TrL Try.prog Try.f85.ntmps [c85_4_0_2_1t_2_0] (F85_q11 R J1) ρ ds w :=
  TrL_one (Tr_loop' (c := innerC c85_4_0_2_1t_2_0) (σ := Int × Int) (enc := (fun (s : Int × Int) (ρ : Env) => ρ 3 = .int .i64 s.1 ∧ ρ 5 = .int .i64 s.2)) (D := (fun ρ K => dInt .i64 (ρ 3) fun n3 => dInt .i64 (ρ 5) fun n5 => K (n3, n5))) (F := (fun (J2 : (Int × Int) → World → Prop) (s : Int × Int) (w : World) => F85_4 R J1 J2 l0 s.1 l4 s.2 ds w)) (s0 := (n3, n5)) (by kernel_rfl) c85_4_0_2_1t_2_0_l ⟨e3, e5⟩ (by kernel_rfl) (fun ρ K hD => by obtain ⟨n3, e3, hD⟩ := dInt_elim hD; obtain ⟨n5, e5, hD⟩ := dInt_elim hD; exact ⟨(n3, n5), ⟨e3, e5⟩, hD⟩)
      (fun J2 s ρ' w' he ha hF => by
      obtain ⟨e3', e5'⟩ := he
      exact F85_4_ok R J1 J2 l0 s.1 l4 s.2 ds w' ρ' ((ha 0 (by kernel_rfl)).trans e0) e3' ((ha 4 (by kernel_rfl)).trans e4) e5' hF) h)
theorem F85_6_ok (R : Rt) (J1 : (Int) → World → Prop) (l0 : SV) (n3 : Int) (l4 : SV) (n5 : Int) (ds : Ds) (w : World) (ρ : Env) (e0 : ρ 0 = .slice l0.a l0.len l0.cap) (e3 : ρ 3 = .int .i64 n3) (e4 : ρ 4 = .slice l4.a l4.len l4.cap) (e5 : ρ 5 = .int .i64 n5) (h : F85_6 R J1 l0 n3 l4 n5 ds w) :
    TrL Try.prog Try.f85.ntmps [c85_4_0_2_1t_2, c85_4_0_2_1t_3, c85_4_0_2_1t_4, c85_4_0_2_1t_5] (F85_q8 R J1) ρ ds w :=
  TrL_head (K := (F85_k9 R J1)) (Tr_block' (c := innerC c85_4_0_2_1t_2) (by kernel_rfl) c85_4_0_2_1t_2_l (F85_5_ok R J1 l0 n3 l4 n5 ds w ρ e0 e3 e4 e5 h))
    (fun ρ' ds' w' hD => by
      obtain ⟨l0, e0, hD⟩ := dSl_elim hD; obtain ⟨n3, e3, hD⟩ := dInt_elim hD; exact F85_3_ok R J1 l0 n3 ds' w' ρ' e0 e3 hD)
theorem F85_7_ok (R : Rt) (J1 : (Int) → World → Prop) (l0 : SV) (n3 : Int) (ds : Ds) (w : World) (ρ : Env) (e0 : ρ 0 = .slice l0.a l0.len l0.cap) (e3 : ρ 3 = .int .i64 n3) (h : F85_7 R J1 l0 n3 ds w) :
    TrL Try.prog Try.f85.ntmps [c85_4_0_2_1t_0, c85_4_0_2_1t_1, c85_4_0_2_1t_2, c85_4_0_2_1t_3, c85_4_0_2_1t_4, c85_4_0_2_1t_5] (F85_q8 R J1) ρ ds w :=
  TrL_piece (pre := [c85_4_0_2_1t_0, c85_4_0_2_1t_1]) (K := (F85_k13 R J1)) (X := F85_7 R J1 l0 n3 ds w) (setAll_cons e0 (setAll_cons e3 setAll_nil)) (by kernel_rfl) (by kernel_rfl)
    (fun ρ' ds' w' hD => by
      obtain ⟨l0, e0, hD⟩ := dSl_elim hD; obtain ⟨n3, e3, hD⟩ := dInt_elim hD; obtain ⟨l4, e4, hD⟩ := dSl_elim hD; obtain ⟨n5, e5, hD⟩ := dInt_elim hD; exact F85_6_ok R J1 l0 n3 l4 n5 ds' w' ρ' e0 e3 e4 e5 hD) h
theorem F85_8_ok (R : Rt) (J1 : (Int) → World → Prop) (l0 : SV) (n3 : Int) (ds : Ds) (w : World) (ρ : Env) (e0 : ρ 0 = .slice l0.a l0.len l0.cap) (e3 : ρ 3 = .int .i64 n3) (h : F85_8 R J1 l0 n3 ds w) :
    TrL Try.prog Try.f85.ntmps [c85_4_0_2_1e_0] (F85_q8 R J1) ρ ds w :=
  TrL_leaf (X := F85_8 R J1 l0 n3 ds w) (setAll_cons e0 (setAll_cons e3 setAll_nil)) (by kernel_rfl) (by kernel_rfl) h
theorem F85_9_ok (R : Rt) (J1 : (Int) → World → Prop) (l0 : SV) (n3 : Int) (b25 : Bool) (ds : Ds) (w : World) (ρ : Env) (e0 : ρ 0 = .slice l0.a l0.len l0.cap) (e3 : ρ 3 = .int .i64 n3) (e25 : ρ 25 = .bool b25) (h : F85_9 R J1 l0 n3 b25 ds w) :
    TrL Try.prog Try.f85.ntmps [c85_4_0_2_1] (F85_q8 R J1) ρ ds w :=
  TrL_one (Tr_cond' (c := .tmp 25) (x := thnC c85_4_0_2_1) (y := elsC c85_4_0_2_1) (by kernel_rfl) c85_4_0_2_1t_l c85_4_0_2_1e_l e25 (fun h => F85_7_ok R J1 l0 n3 ds w ρ e0 e3 h) (fun h => F85_8_ok R J1 l0 n3 ds w ρ e0 e3 h) h)
theorem F85_10_ok (R : Rt) (J1 : (Int) → World → Prop) (l0 : SV) (n3 : Int) (ds : Ds) (w : World) (ρ : Env) (e0 : ρ 0 = .slice l0.a l0.len l0.cap) (e3 : ρ 3 = .int .i64 n3) (h : F85_10 R J1 l0 n3 ds w) :
    TrL Try.prog Try.f85.ntmps [c85_4_0_2_0, c85_4_0_2_1] (F85_q8 R J1) ρ ds w :=
  TrL_piece (pre := [c85_4_0_2_0]) (K := (F85_k14 R J1)) (X := F85_10 R J1 l0 n3 ds w) (setAll_cons e0 (setAll_cons e3 setAll_nil)) (by kernel_rfl) (by kernel_rfl)
    (fun ρ' ds' w' hD => by
      obtain ⟨l0, e0, hD⟩ := dSl_elim hD; obtain ⟨n3, e3, hD⟩ := dInt_elim hD; obtain ⟨b25, e25, hD⟩ := dBl_elim hD; exact F85_9_ok R J1 l0 n3 b25 ds' w' ρ' e0 e3 e25 hD) h
theorem F85_11_ok (R : Rt) (J1 : (Int) → World → Prop) (l0 : SV) (n3 : Int) (ds : Ds) (w : World) (ρ : Env) (e0 : ρ 0 = .slice l0.a l0.len l0.cap) (e3 : ρ 3 = .int .i64 n3) (h : F85_11 R J1 l0 n3 ds w) :
    TrL Try.prog Try.f85.ntmps [c85_4_0_2, c85_4_0_3] (F85_q5 R J1) ρ ds w :=
  TrL_head (K := (F85_k6 R J1)) (Tr_block' (c := innerC c85_4_0_2) (by kernel_rfl) c85_4_0_2_l (F85_10_ok R J1 l0 n3 ds w ρ e0 e3 h))
    (fun ρ' ds' w' hD => by
      obtain ⟨l0, e0, hD⟩ := dSl_elim hD; obtain ⟨n3, e3, hD⟩ := dInt_elim hD; exact F85_2_ok R J1 l0 n3 ds' w' ρ' e0 e3 hD)
theorem F85_12_ok (R : Rt) (J1 : (Int) → World → Prop) (l0 : SV) (n3 : Int) (ds : Ds) (w : World) (ρ : Env) (e0 : ρ 0 = .slice l0.a l0.len l0.cap) (e3 : ρ 3 = .int .i64 n3) (h : F85_12 R J1 l0 n3 ds w) :
    TrL Try.prog Try.f85.ntmps [c85_4_0_0, c85_4_0_1, c85_4_0_2, c85_4_0_3] (F85_q5 R J1) ρ ds w :=
  TrL_piece (pre := [c85_4_0_0, c85_4_0_1]) (K := (F85_k15 R J1)) (X := F85_12 R J1 l0 n3 ds w) (setAll_cons e0 (setAll_cons e3 setAll_nil)) (by kernel_rfl) (by kernel_rfl)
    (fun ρ' ds' w' hD => by
      obtain ⟨l0, e0, hD⟩ := dSl_elim hD; obtain ⟨n3, e3, hD⟩ := dInt_elim hD; exact F85_11_ok R J1 l0 n3 ds' w' ρ' e0 e3 hD) h
theorem F85_13_ok (R : Rt) (l0 : SV) (n3 : Int) (ds : Ds) (w : World) (ρ : Env) (e0 : ρ 0 = .slice l0.a l0.len l0.cap) (e3 : ρ 3 = .int .i64 n3) (h : F85_13 R l0 n3 ds w) :
    TrL Try.prog Try.f85.ntmps [c85_4_0] (F85_q4 R) ρ ds w :=
  TrL_one (Tr_loop' (c := innerC c85_4_0) (σ := Int) (enc := (fun (s : Int) (ρ : Env) => ρ 3 = .int .i64 s)) (D := (fun ρ K => dInt .i64 (ρ 3) fun n3 => K n3)) (F := (fun (J1 : (Int) → World → Prop) (s : Int) (w : World) => F85_12 R J1 l0 s ds w)) (s0 := n3) (by kernel_rfl) c85_4_0_l e3 (by kernel_rfl) (fun ρ K hD => by obtain ⟨n3, e3, hD⟩ := dInt_elim hD; exact ⟨n3, e3, hD⟩)
      (fun J1 s ρ' w' he ha hF => by
      have e3' := he
      exact F85_12_ok R J1 l0 s ds w' ρ' ((ha 0 (by kernel_rfl)).trans e0) e3' hF) h)
theorem F85_14_ok (R : Rt) (l0 : SV) (n3 : Int) (ds : Ds) (w : World) (ρ : Env) (e0 : ρ 0 = .slice l0.a l0.len l0.cap) (e3 : ρ 3 = .int .i64 n3) (h : F85_14 R l0 n3 ds w) :
    TrL Try.prog Try.f85.ntmps [c85_4, c85_5, c85_6] (F85_q1 R) ρ ds w :=
  TrL_head (K := (F85_k2 R)) (Tr_block' (c := innerC c85_4) (by kernel_rfl) c85_4_l (F85_13_ok R l0 n3 ds w ρ e0 e3 h))
    (fun ρ' ds' w' hD => by
      obtain ⟨l0, e0, hD⟩ := dSl_elim hD; exact F85_1_ok R l0 ds' w' ρ' e0 hD)
theorem F85_15_ok (R : Rt) (l0 : SV) (ds : Ds) (w : World) (ρ : Env) (e0 : ρ 0 = .slice l0.a l0.len l0.cap) (h : F85_15 R l0 ds w) :
    TrL Try.prog Try.f85.ntmps [c85_0, c85_1, c85_2, c85_3, c85_4, c85_5, c85_6] (F85_q1 R) ρ ds w :=
  TrL_piece (pre := [c85_0, c85_1, c85_2, c85_3]) (K := (F85_k16 R)) (X := F85_15 R l0 ds w) (setAll_cons e0 setAll_nil) (by kernel_rfl) (by kernel_rfl)
    (fun ρ' ds' w' hD => by
      obtain ⟨l0, e0, hD⟩ := dSl_elim hD; obtain ⟨n3, e3, hD⟩ := dInt_elim hD; exact F85_14_ok R l0 n3 ds' w' ρ' e0 e3 hD) h
theorem F85_calls (l0 : SV) (w : World) (R : Rt) (h : F85_15 R l0 [] w) : Calls Try.prog 85 #[.slice l0.a l0.len l0.cap] w R :=
  calls_of_L (l := [c85_0, c85_1, c85_2, c85_3, c85_4, c85_5, c85_6]) Try.func85 (by kernel_rfl) (by rw [Try.ntmps85]; exact Nat.le_of_ble_eq_true (by kernel_rfl)) c85_l
    (F85_15_ok R l0 [] w _ rfl h)
theorem F85_callsD (l0 : SV) (w : World) (R : Rt) (u : FrameMode) (h : F85_15 R l0 [] w) : CallsD Try.prog 85 #[.slice l0.a l0.len l0.cap] u w fun e u' w' => u' = u ∧ R e w' :=
  callsD_of_L (l := [c85_0, c85_1, c85_2, c85_3, c85_4, c85_5, c85_6]) Try.func85 (by kernel_rfl) (by rw [Try.ntmps85]; exact Nat.le_of_ble_eq_true (by kernel_rfl)) (by kernel_rfl) c85_l
    (F85_15_ok R l0 [] w _ rfl h) u

/-! function 87: strings.LastIndex -/
noncomputable def c87_0 : Code := itemAt (flat (bodyOf Try.f87)) 0
noncomputable def c87_1 : Code := itemAt (flat (bodyOf Try.f87)) 1
noncomputable def c87_2 : Code := itemAt (flat (bodyOf Try.f87)) 2
noncomputable def c87_3 : Code := itemAt (flat (bodyOf Try.f87)) 3
noncomputable def c87_4 : Code := itemAt (flat (bodyOf Try.f87)) 4
def F87_q1 (R : Rt) : EQ := endQ Try.prog Try.f87.results.toList R
def F87_1 (R : Rt) (s0 : ByteArray) (s1 : ByteArray) (ds : Ds) (w : World) : Prop :=
 Br (((s1.size : Nat) : Int) == 0) (
 runD Try.prog ds w fun w1 =>
 R (.returned (.int .i64 ((s0.size : Nat) : Int))) w1) (
 Br (((s1.size : Nat) : Int) == 1) (
 ∃ b18 : UInt8, 0 ≤ (0 : Int) ∧ s1[(0 : Int).toNat]? = some b18 ∧
 Calls Try.prog 108 #[.string s0, .int .u8 ((b18.toNat : Nat) : Int)] w fun e w2 =>
 ∃ n19 : Int, e = .returned (.int .i64 n19) ∧
 runD Try.prog ds w2 fun w3 =>
 R (.returned (.int .i64 n19)) w3) (
 Br (((s1.size : Nat) : Int) == ((s0.size : Nat) : Int)) (
 Br (s1.toList == s0.toList) (
 runD Try.prog ds w fun w4 =>
 R (.returned (.int .i64 0)) w4) (
 runD Try.prog ds w fun w5 =>
 R (.returned (.int .i64 (-1))) w5)) (
 Br (decide (((s1.size : Nat) : Int) > ((s0.size : Nat) : Int))) (
 runD Try.prog ds w fun w6 =>
 R (.returned (.int .i64 (-1))) w6) (
 Calls Try.prog 109 #[.string s0, .string s1] w fun e w7 =>
 ∃ n35 : Int, e = .returned (.int .i64 n35) ∧
 runD Try.prog ds w7 fun w8 =>
 R (.returned (.int .i64 n35)) w8))))
theorem c87_l : flat (bodyOf Try.f87) = [c87_0, c87_1, c87_2, c87_3, c87_4] := by kernel_rfl
theorem F87_1_ok (R : Rt) (s0 : ByteArray) (s1 : ByteArray) (ds : Ds) (w : World) (ρ : Env) (e0 : ρ 0 = .string s0) (e1 : ρ 1 = .string s1) (h : F87_1 R s0 s1 ds w) :
    TrL Try.prog Try.f87.ntmps [c87_0, c87_1, c87_2, c87_3, c87_4] (F87_q1 R) ρ ds w :=
  TrL_leaf (X := F87_1 R s0 s1 ds w) (setAll_cons e0 (setAll_cons e1 setAll_nil)) (by kernel_rfl) (by kernel_rfl) h
theorem F87_calls (s0 : ByteArray) (s1 : ByteArray) (w : World) (R : Rt) (h : F87_1 R s0 s1 [] w) : Calls Try.prog 87 #[.string s0, .string s1] w R :=
  calls_of_L (l := [c87_0, c87_1, c87_2, c87_3, c87_4]) Try.func87 (by kernel_rfl) (by rw [Try.ntmps87]; exact Nat.le_of_ble_eq_true (by kernel_rfl)) c87_l
    (F87_1_ok R s0 s1 [] w _ rfl rfl h)
theorem F87_callsD (s0 : ByteArray) (s1 : ByteArray) (w : World) (R : Rt) (u : FrameMode) (h : F87_1 R s0 s1 [] w) : CallsD Try.prog 87 #[.string s0, .string s1] u w fun e u' w' => u' = u ∧ R e w' :=
  callsD_of_L (l := [c87_0, c87_1, c87_2, c87_3, c87_4]) Try.func87 (by kernel_rfl) (by rw [Try.ntmps87]; exact Nat.le_of_ble_eq_true (by kernel_rfl)) (by kernel_rfl) c87_l
    (F87_1_ok R s0 s1 [] w _ rfl rfl h) u

/-! function 88: (*cabinetry/cabinetryref24.worst).enter -/
noncomputable def c88_0 : Code := itemAt (flat (bodyOf Try.f88)) 0
noncomputable def c88_1 : Code := itemAt (flat (bodyOf Try.f88)) 1
noncomputable def c88_2 : Code := itemAt (flat (bodyOf Try.f88)) 2
noncomputable def c88_3 : Code := itemAt (flat (bodyOf Try.f88)) 3
noncomputable def c88_4 : Code := itemAt (flat (bodyOf Try.f88)) 4
noncomputable def c88_5 : Code := itemAt (flat (bodyOf Try.f88)) 5
def F88_q1 (R : Rt) : EQ := endQ Try.prog Try.f88.results.toList R
def F88_1 (R : Rt) (p0 : Option Addr) (n1 : Int) (n2 : Int) (ds : Ds) (w : World) : Prop :=
 ptrE p0 fun a1 =>
 ∃ l12 : SV, w.cell? a1 = some (.slice l12.a l12.len l12.cap) ∧
 ∃ a2 : Addr, l12.a = some a2 ∧ 0 ≤ n1 ∧ n1 < ((l12.len : Nat) : Int) ∧
 ∃ n16 : Int, w.cell? ((a2.add (n1.toNat * 4)).add 1) = some (.int .i64 n16) ∧
 Br (decide (n16 > 0)) (
 Br (n16 != n2) (
 runD Try.prog ds w fun w3 =>
 R (.returned (.tuple #[.int .i64 n16, .int .i64 1])) w3) (
 runD Try.prog ds w fun w4 =>
 R (.returned (.tuple #[.int .i64 n2, .int .i64 0])) w4)) (
 runD Try.prog ds w fun w5 =>
 R (.returned (.tuple #[.int .i64 n2, .int .i64 0])) w5)
theorem c88_l : flat (bodyOf Try.f88) = [c88_0, c88_1, c88_2, c88_3, c88_4, c88_5] := by kernel_rfl
theorem F88_1_ok (R : Rt) (p0 : Option Addr) (n1 : Int) (n2 : Int) (ds : Ds) (w : World) (ρ : Env) (e0 : ρ 0 = .pointer p0) (e1 : ρ 1 = .int .i64 n1) (e2 : ρ 2 = .int .i64 n2) (h : F88_1 R p0 n1 n2 ds w) :
    TrL Try.prog Try.f88.ntmps [c88_0, c88_1, c88_2, c88_3, c88_4, c88_5] (F88_q1 R) ρ ds w :=
  TrL_leaf (X := F88_1 R p0 n1 n2 ds w) (setAll_cons e0 (setAll_cons e1 (setAll_cons e2 setAll_nil))) (by kernel_rfl) (by kernel_rfl) h
theorem F88_calls (p0 : Option Addr) (n1 : Int) (n2 : Int) (w : World) (R : Rt) (h : F88_1 R p0 n1 n2 [] w) : Calls Try.prog 88 #[.pointer p0, .int .i64 n1, .int .i64 n2] w R :=
  calls_of_L (l := [c88_0, c88_1, c88_2, c88_3, c88_4, c88_5]) Try.func88 (by kernel_rfl) (by rw [Try.ntmps88]; exact Nat.le_of_ble_eq_true (by kernel_rfl)) c88_l
    (F88_1_ok R p0 n1 n2 [] w _ rfl rfl rfl h)
theorem F88_callsD (p0 : Option Addr) (n1 : Int) (n2 : Int) (w : World) (R : Rt) (u : FrameMode) (h : F88_1 R p0 n1 n2 [] w) : CallsD Try.prog 88 #[.pointer p0, .int .i64 n1, .int .i64 n2] u w fun e u' w' => u' = u ∧ R e w' :=
  callsD_of_L (l := [c88_0, c88_1, c88_2, c88_3, c88_4, c88_5]) Try.func88 (by kernel_rfl) (by rw [Try.ntmps88]; exact Nat.le_of_ble_eq_true (by kernel_rfl)) (by kernel_rfl) c88_l
    (F88_1_ok R p0 n1 n2 [] w _ rfl rfl rfl h) u

/-! function 89: (*cabinetry/cabinetryref24.worst).open -/
noncomputable def c89_0 : Code := itemAt (flat (bodyOf Try.f89)) 0
noncomputable def c89_1 : Code := itemAt (flat (bodyOf Try.f89)) 1
noncomputable def c89_2 : Code := itemAt (flat (bodyOf Try.f89)) 2
noncomputable def c89_3 : Code := itemAt (flat (bodyOf Try.f89)) 3
noncomputable def c89_4 : Code := itemAt (flat (bodyOf Try.f89)) 4
noncomputable def c89_5 : Code := itemAt (flat (bodyOf Try.f89)) 5
noncomputable def c89_6 : Code := itemAt (flat (bodyOf Try.f89)) 6
noncomputable def c89_7 : Code := itemAt (flat (bodyOf Try.f89)) 7
noncomputable def c89_8 : Code := itemAt (flat (bodyOf Try.f89)) 8
noncomputable def c89_9 : Code := itemAt (flat (bodyOf Try.f89)) 9
noncomputable def c89_10 : Code := itemAt (flat (bodyOf Try.f89)) 10
noncomputable def c89_7_0 : Code := itemAt (flat (innerC c89_7)) 0
noncomputable def c89_7_0_0 : Code := itemAt (flat (innerC c89_7_0)) 0
noncomputable def c89_7_0_1 : Code := itemAt (flat (innerC c89_7_0)) 1
noncomputable def c89_7_0_2 : Code := itemAt (flat (innerC c89_7_0)) 2
noncomputable def c89_7_0_3 : Code := itemAt (flat (innerC c89_7_0)) 3
noncomputable def c89_7_0_2_0 : Code := itemAt (flat (innerC c89_7_0_2)) 0
noncomputable def c89_7_0_2_1 : Code := itemAt (flat (innerC c89_7_0_2)) 1
noncomputable def c89_7_0_2_2 : Code := itemAt (flat (innerC c89_7_0_2)) 2
noncomputable def c89_7_0_2_2_0 : Code := itemAt (flat (innerC c89_7_0_2_2)) 0
noncomputable def c89_7_0_2_2_0_0 : Code := itemAt (flat (innerC c89_7_0_2_2_0)) 0
noncomputable def c89_7_0_2_2_0_1 : Code := itemAt (flat (innerC c89_7_0_2_2_0)) 1
noncomputable def c89_7_0_2_2_0_2 : Code := itemAt (flat (innerC c89_7_0_2_2_0)) 2
noncomputable def c89_7_0_2_2_0_3 : Code := itemAt (flat (innerC c89_7_0_2_2_0)) 3
noncomputable def c89_7_0_2_2_0_2_0 : Code := itemAt (flat (innerC c89_7_0_2_2_0_2)) 0
noncomputable def c89_7_0_2_2_0_2_1 : Code := itemAt (flat (innerC c89_7_0_2_2_0_2)) 1
noncomputable def c89_7_0_2_2_0_2_2 : Code := itemAt (flat (innerC c89_7_0_2_2_0_2)) 2
noncomputable def c89_7_0_2_2_0_2_3 : Code := itemAt (flat (innerC c89_7_0_2_2_0_2)) 3
noncomputable def c89_7_0_2_2_0_2_4 : Code := itemAt (flat (innerC c89_7_0_2_2_0_2)) 4
noncomputable def c89_7_0_2_2_0_2_4_0 : Code := itemAt (flat (innerC c89_7_0_2_2_0_2_4)) 0
noncomputable def c89_7_0_2_2_0_2_4_0_0 : Code := itemAt (flat (innerC c89_7_0_2_2_0_2_4_0)) 0
noncomputable def c89_7_0_2_2_0_2_4_0_1 : Code := itemAt (flat (innerC c89_7_0_2_2_0_2_4_0)) 1
noncomputable def c89_7_0_2_2_0_2_4_0_2 : Code := itemAt (flat (innerC c89_7_0_2_2_0_2_4_0)) 2
noncomputable def c89_7_0_2_2_0_2_4_0_3 : Code := itemAt (flat (innerC c89_7_0_2_2_0_2_4_0)) 3
def F89_q1 (R : Rt) : EQ := endQ Try.prog Try.f89.results.toList R
def F89_1 (R : Rt) (p0 : Option Addr) (p9 : Option Addr) (n12 : Int) (ds : Ds) (w : World) : Prop :=
 dwE w fun w1 =>
 ptrE p0 fun a2 =>
 ∃ m118 : Option Nat, w1.cell? (a2.add 3) = some (.map m118) ∧
 ptrE p9 fun a3 =>
 ∃ n119_0 : Int, w1.cell? (a3.add 0) = some (.int .i64 n119_0) ∧
 ∃ n119_1 : Int, w1.cell? (a3.add 1) = some (.int .i64 n119_1) ∧
 ∃ n119_2 : Int, w1.cell? (a3.add 2) = some (.int .i64 n119_2) ∧
 doE Try.prog (Instr.mapUpdate 113 (.map m118) (.agg #[.int .i64 n119_0, .int .i64 n119_1, .int .i64 n119_2]) (.int .i64 n12)) w1 fun w4 =>
 runD Try.prog ds w4 fun w5 =>
 R (.returned (.int .i64 n12)) w5
def F89_k2 (R : Rt) : EP := (fun ρ ds w => dPtr (ρ 0) fun p0 => dPtr (ρ 9) fun p9 => dInt .i64 (ρ 12) fun n12 => F89_1 R p0 p9 n12 ds w)
def F89_q3 (R : Rt) : EQ := (thenQ (F89_k2 R) (F89_q1 R))
def F89_q4 (R : Rt) : EQ := (blockQ 0 (F89_q3 R))
def F89_q5 (R : Rt) (J1 : (Int × Int) → World → Prop) : EQ := (thenQ (fun ρ _ w => dInt .i64 (ρ 12) fun n12 => dInt .i64 (ρ 13) fun n13 => J1 (n12, n13) w) (F89_q4 R))
def F89_2 (R : Rt) (J1 : (Int × Int) → World → Prop) (p0 : Option Addr) (n1 : Int) (n2 : Int) (n3 : Int) (p9 : Option Addr) (n12 : Int) (n13 : Int) (ds : Ds) (w : World) : Prop :=
 J1 (n12, (IntKind.i64.wrap (n13 + 1))) w
def F89_k6 (R : Rt) (J1 : (Int × Int) → World → Prop) : EP := (fun ρ ds w => dPtr (ρ 0) fun p0 => dInt .i64 (ρ 1) fun n1 => dInt .i64 (ρ 2) fun n2 => dInt .i64 (ρ 3) fun n3 => dPtr (ρ 9) fun p9 => dInt .i64 (ρ 12) fun n12 => dInt .i64 (ρ 13) fun n13 => F89_2 R J1 p0 n1 n2 n3 p9 n12 n13 ds w)
def F89_q7 (R : Rt) (J1 : (Int × Int) → World → Prop) : EQ := (thenQ (F89_k6 R J1) (F89_q5 R J1))
def F89_q8 (R : Rt) (J1 : (Int × Int) → World → Prop) : EQ := (blockQ 1 (F89_q7 R J1))
def F89_q9 (R : Rt) (J1 : (Int × Int) → World → Prop) : EQ := (blockQ 2 (F89_q8 R J1))
def F89_q10 (R : Rt) (J1 : (Int × Int) → World → Prop) (J2 : (Int × Int) → World → Prop) : EQ := (thenQ (fun ρ _ w => dInt .i64 (ρ 12) fun n12 => dInt .i64 (ρ 15) fun n15 => J2 (n12, n15) w) (F89_q9 R J1))
def F89_3 (R : Rt) (J1 : (Int × Int) → World → Prop) (J2 : (Int × Int) → World → Prop) (p0 : Option Addr) (n1 : Int) (n2 : Int) (n3 : Int) (p9 : Option Addr) (n12 : Int) (n13 : Int) (p14 : Option Addr) (n15 : Int) (ds : Ds) (w : World) : Prop :=
 J2 (n12, (IntKind.i64.wrap (n15 + 1))) w
def F89_k11 (R : Rt) (J1 : (Int × Int) → World → Prop) (J2 : (Int × Int) → World → Prop) : EP := (fun ρ ds w => dPtr (ρ 0) fun p0 => dInt .i64 (ρ 1) fun n1 => dInt .i64 (ρ 2) fun n2 => dInt .i64 (ρ 3) fun n3 => dPtr (ρ 9) fun p9 => dInt .i64 (ρ 12) fun n12 => dInt .i64 (ρ 13) fun n13 => dPtr (ρ 14) fun p14 => dInt .i64 (ρ 15) fun n15 => F89_3 R J1 J2 p0 n1 n2 n3 p9 n12 n13 p14 n15 ds w)
def F89_q12 (R : Rt) (J1 : (Int × Int) → World → Prop) (J2 : (Int × Int) → World → Prop) : EQ := (thenQ (F89_k11 R J1 J2) (F89_q10 R J1 J2))
def F89_q13 (R : Rt) (J1 : (Int × Int) → World → Prop) (J2 : (Int × Int) → World → Prop) : EQ := (blockQ 3 (F89_q12 R J1 J2))
def F89_q14 (R : Rt) (J1 : (Int × Int) → World → Prop) (J2 : (Int × Int) → World → Prop) : EQ := (blockQ 4 (F89_q13 R J1 J2))
def F89_q15 (R : Rt) (J1 : (Int × Int) → World → Prop) (J2 : (Int × Int) → World → Prop) (J3 : (Int × Int) → World → Prop) : EQ := (thenQ (fun ρ _ w => dInt .i64 (ρ 12) fun n12 => dInt .i64 (ρ 16) fun n16 => J3 (n12, n16) w) (F89_q14 R J1 J2))
def F89_4 (R : Rt) (J1 : (Int × Int) → World → Prop) (J2 : (Int × Int) → World → Prop) (J3 : (Int × Int) → World → Prop) (p0 : Option Addr) (n1 : Int) (n2 : Int) (n3 : Int) (p9 : Option Addr) (n12 : Int) (n13 : Int) (p14 : Option Addr) (n15 : Int) (n16 : Int) (ds : Ds) (w : World) : Prop :=
 ptrE p0 fun a6 =>
 ∃ l61 : SV, w.cell? (a6.add 1) = some (.slice l61.a l61.len l61.cap) ∧
 ∃ a7 : Addr, l61.a = some a7 ∧ 0 ≤ n1 ∧ n1 < ((l61.len : Nat) : Int) ∧
 ∃ l64 : SV, w.cell? (a7.add (n1.toNat * 1)) = some (.slice l64.a l64.len l64.cap) ∧
 Br (decide (n16 < ((l64.len : Nat) : Int))) (
 Br (decide (n13 < n3)) (
 ptrE p0 fun a8 =>
 ∃ l79 : SV, w.cell? (a8.add 1) = some (.slice l79.a l79.len l79.cap) ∧
 ∃ a9 : Addr, l79.a = some a9 ∧ 0 ≤ n1 ∧ n1 < ((l79.len : Nat) : Int) ∧
 ∃ l82 : SV, w.cell? (a9.add (n1.toNat * 1)) = some (.slice l82.a l82.len l82.cap) ∧
 ∃ a10 : Addr, l82.a = some a10 ∧ 0 ≤ n16 ∧ n16 < ((l82.len : Nat) : Int) ∧
 ∃ n85 : Int, w.cell? (a10.add (n16.toNat * 1)) = some (.int .i64 n85) ∧
 Calls Try.prog 88 #[.pointer p0, .int .i64 n85, .int .i64 n15] w fun e w11 =>
 ∃ n87_0 : Int, ∃ n87_1 : Int, e = .returned (.tuple #[.int .i64 n87_0, .int .i64 n87_1]) ∧
 dwE w11 fun w12 =>
 ∃ S2 : World → Prop, S2 w12 ∧
 ptrE p14 fun a13 =>
 0 ≤ n15 ∧ n15 < ((16 : Nat) : Int) ∧
 ∃ n93 : Int, (∀ w', S2 w' → w'.cell? (a13.add (n15.toNat * 1)) = some (.int .i64 n93)) ∧
 ptrE p0 fun a14 =>
 ∃ l100 : SV, (∀ w', S2 w' → w'.cell? (a14.add 1) = some (.slice l100.a l100.len l100.cap)) ∧
 ∃ a15 : Addr, l100.a = some a15 ∧ 0 ≤ n1 ∧ n1 < ((l100.len : Nat) : Int) ∧
 ∃ l103 : SV, (∀ w', S2 w' → w'.cell? (a15.add (n1.toNat * 1)) = some (.slice l103.a l103.len l103.cap)) ∧
 ∃ a16 : Addr, l103.a = some a16 ∧ 0 ≤ n16 ∧ n16 < ((l103.len : Nat) : Int) ∧
 ∃ n106 : Int, (∀ w', S2 w' → w'.cell? (a16.add (n16.toNat * 1)) = some (.int .i64 n106)) ∧
 Calls Try.prog 89 #[.pointer p0, .int .i64 n106, .int .i64 n87_0, .int .i64 (IntKind.i64.wrap ((IntKind.i64.wrap (n3 - n13)) - 1))] w12 fun e w17 =>
 ∃ n112 : Int, e = .returned (.int .i64 n112) ∧
 S2 w17 ∧
 ∃ n114 : Int, ∃ w18 : World, (Builtin.max_ #[3, 3] 3 #[.int .i64 n12, .int .i64 (IntKind.i64.wrap ((IntKind.i64.wrap (n93 + n87_1)) + n112))]).run Try.prog w17 = .ok (.int .i64 n114) w18 ∧
 J3 (n114, (IntKind.i64.wrap (n16 + 1))) w18) (
 F89_3 R J1 J2 p0 n1 n2 n3 p9 n12 n13 p14 n15 ds w)) (
 F89_3 R J1 J2 p0 n1 n2 n3 p9 n12 n13 p14 n15 ds w)
def F89_5 (R : Rt) (J1 : (Int × Int) → World → Prop) (J2 : (Int × Int) → World → Prop) (p0 : Option Addr) (n1 : Int) (n2 : Int) (n3 : Int) (p9 : Option Addr) (n12 : Int) (n13 : Int) (p14 : Option Addr) (n15 : Int) (n16 : Int) (ds : Ds) (w : World) : Prop :=
 loopT (fun (J3 : (Int × Int) → World → Prop) (s : Int × Int) (w : World) => F89_4 R J1 J2 J3 p0 n1 n2 n3 p9 s.1 n13 p14 n15 s.2 ds w) (n12, n16) w
@[reducible] def F89_6 (R : Rt) (J1 : (Int × Int) → World → Prop) (J2 : (Int × Int) → World → Prop) (p0 : Option Addr) (n1 : Int) (n2 : Int) (n3 : Int) (p9 : Option Addr) (n12 : Int) (n13 : Int) (p14 : Option Addr) (n15 : Int) (n16 : Int) (ds : Ds) (w : World) : Prop := F89_5 R J1 J2 p0 n1 n2 n3 p9 n12 n13 p14 n15 n16 ds w
def F89_k16 (R : Rt) (J1 : (Int × Int) → World → Prop) (J2 : (Int × Int) → World → Prop) : EP := (fun ρ ds w => dPtr (ρ 0) fun p0 => dInt .i64 (ρ 1) fun n1 => dInt .i64 (ρ 2) fun n2 => dInt .i64 (ρ 3) fun n3 => dPtr (ρ 9) fun p9 => dInt .i64 (ρ 12) fun n12 => dInt .i64 (ρ 13) fun n13 => dPtr (ρ 14) fun p14 => dInt .i64 (ρ 15) fun n15 => dInt .i64 (ρ 16) fun n16 => F89_6 R J1 J2 p0 n1 n2 n3 p9 n12 n13 p14 n15 n16 ds w)
def F89_7 (R : Rt) (J1 : (Int × Int) → World → Prop) (J2 : (Int × Int) → World → Prop) (p0 : Option Addr) (n1 : Int) (n2 : Int) (n3 : Int) (p9 : Option Addr) (n12 : Int) (n13 : Int) (p14 : Option Addr) (n15 : Int) (ds : Ds) (w : World) : Prop :=
 ptrE p14 fun a19 =>
 0 ≤ n15 ∧ n15 < ((16 : Nat) : Int) ∧
 ∃ n50 : Int, w.cell? (a19.add (n15.toNat * 1)) = some (.int .i64 n50) ∧
 Br (n50 == (-1073741824)) (
 F89_3 R J1 J2 p0 n1 n2 n3 p9 n12 n13 p14 n15 ds w) (
 ptrE p14 fun a20 =>
 0 ≤ n15 ∧ n15 < ((16 : Nat) : Int) ∧
 ∃ n55 : Int, w.cell? (a20.add (n15.toNat * 1)) = some (.int .i64 n55) ∧
 ∃ n56 : Int, ∃ w21 : World, (Builtin.max_ #[3, 3] 3 #[.int .i64 n12, .int .i64 n55]).run Try.prog w = .ok (.int .i64 n56) w21 ∧
 F89_6 R J1 J2 p0 n1 n2 n3 p9 n56 n13 p14 n15 0 ds w21)
@[reducible] def F89_8 (R : Rt) (J1 : (Int × Int) → World → Prop) (J2 : (Int × Int) → World → Prop) (p0 : Option Addr) (n1 : Int) (n2 : Int) (n3 : Int) (p9 : Option Addr) (n12 : Int) (n13 : Int) (p14 : Option Addr) (n15 : Int) (ds : Ds) (w : World) : Prop := F89_7 R J1 J2 p0 n1 n2 n3 p9 n12 n13 p14 n15 ds w
def F89_k17 (R : Rt) (J1 : (Int × Int) → World → Prop) (J2 : (Int × Int) → World → Prop) : EP := (fun ρ ds w => dPtr (ρ 0) fun p0 => dInt .i64 (ρ 1) fun n1 => dInt .i64 (ρ 2) fun n2 => dInt .i64 (ρ 3) fun n3 => dPtr (ρ 9) fun p9 => dInt .i64 (ρ 12) fun n12 => dInt .i64 (ρ 13) fun n13 => dPtr (ρ 14) fun p14 => dInt .i64 (ρ 15) fun n15 => F89_8 R J1 J2 p0 n1 n2 n3 p9 n12 n13 p14 n15 ds w)
def F89_9 (R : Rt) (J1 : (Int × Int) → World → Prop) (J2 : (Int × Int) → World → Prop) (p0 : Option Addr) (n1 : Int) (n2 : Int) (n3 : Int) (p9 : Option Addr) (n12 : Int) (n13 : Int) (p14 : Option Addr) (n15 : Int) (ds : Ds) (w : World) : Prop :=
 Br (decide (n15 < 16)) (
 F89_8 R J1 J2 p0 n1 n2 n3 p9 n12 n13 p14 n15 ds w) (
 F89_2 R J1 p0 n1 n2 n3 p9 n12 n13 ds w)
def F89_10 (R : Rt) (J1 : (Int × Int) → World → Prop) (p0 : Option Addr) (n1 : Int) (n2 : Int) (n3 : Int) (p9 : Option Addr) (n12 : Int) (n13 : Int) (p14 : Option Addr) (n15 : Int) (ds : Ds) (w : World) : Prop :=
 loopT (fun (J2 : (Int × Int) → World → Prop) (s : Int × Int) (w : World) => F89_9 R J1 J2 p0 n1 n2 n3 p9 s.1 n13 p14 s.2 ds w) (n12, n15) w
@[reducible] def F89_11 (R : Rt) (J1 : (Int × Int) → World → Prop) (p0 : Option Addr) (n1 : Int) (n2 : Int) (n3 : Int) (p9 : Option Addr) (n12 : Int) (n13 : Int) (p14 : Option Addr) (n15 : Int) (ds : Ds) (w : World) : Prop := F89_10 R J1 p0 n1 n2 n3 p9 n12 n13 p14 n15 ds w
def F89_k18 (R : Rt) (J1 : (Int × Int) → World → Prop) : EP := (fun ρ ds w => dPtr (ρ 0) fun p0 => dInt .i64 (ρ 1) fun n1 => dInt .i64 (ρ 2) fun n2 => dInt .i64 (ρ 3) fun n3 => dPtr (ρ 9) fun p9 => dInt .i64 (ρ 12) fun n12 => dInt .i64 (ρ 13) fun n13 => dPtr (ρ 14) fun p14 => dInt .i64 (ρ 15) fun n15 => F89_11 R J1 p0 n1 n2 n3 p9 n12 n13 p14 n15 ds w)
def F89_12 (R : Rt) (J1 : (Int × Int) → World → Prop) (p0 : Option Addr) (n1 : Int) (n2 : Int) (n3 : Int) (p9 : Option Addr) (n12 : Int) (n13 : Int) (ds : Ds) (w : World) : Prop :=
 Calls Try.prog 110 #[.pointer p0, .int .i64 n1, .int .i64 n2, .int .i64 n13] w fun e w22 =>
 ∃ n43_0 : Int, ∃ n43_1 : Int, ∃ n43_2 : Int, ∃ n43_3 : Int, ∃ n43_4 : Int, ∃ n43_5 : Int, ∃ n43_6 : Int, ∃ n43_7 : Int, ∃ n43_8 : Int, ∃ n43_9 : Int, ∃ n43_10 : Int, ∃ n43_11 : Int, ∃ n43_12 : Int, ∃ n43_13 : Int, ∃ n43_14 : Int, ∃ n43_15 : Int, e = .returned (.agg #[.int .i64 n43_0, .int .i64 n43_1, .int .i64 n43_2, .int .i64 n43_3, .int .i64 n43_4, .int .i64 n43_5, .int .i64 n43_6, .int .i64 n43_7, .int .i64 n43_8, .int .i64 n43_9, .int .i64 n43_10, .int .i64 n43_11, .int .i64 n43_12, .int .i64 n43_13, .int .i64 n43_14, .int .i64 n43_15]) ∧
 alE (.cells #[.int .i64 0, .int .i64 0, .int .i64 0, .int .i64 0, .int .i64 0, .int .i64 0, .int .i64 0, .int .i64 0, .int .i64 0, .int .i64 0, .int .i64 0, .int .i64 0, .int .i64 0, .int .i64 0, .int .i64 0, .int .i64 0] 77) w22 fun r14 w23 =>
 stA Try.prog 77 (⟨r14, 0, none⟩ : Addr) #[.int .i64 n43_0, .int .i64 n43_1, .int .i64 n43_2, .int .i64 n43_3, .int .i64 n43_4, .int .i64 n43_5, .int .i64 n43_6, .int .i64 n43_7, .int .i64 n43_8, .int .i64 n43_9, .int .i64 n43_10, .int .i64 n43_11, .int .i64 n43_12, .int .i64 n43_13, .int .i64 n43_14, .int .i64 n43_15] w23 fun w24 =>
 F89_11 R J1 p0 n1 n2 n3 p9 n12 n13 (some (⟨r14, 0, none⟩ : Addr)) 0 ds w24
@[reducible] def F89_13 (R : Rt) (J1 : (Int × Int) → World → Prop) (p0 : Option Addr) (n1 : Int) (n2 : Int) (n3 : Int) (p9 : Option Addr) (n12 : Int) (n13 : Int) (ds : Ds) (w : World) : Prop := F89_12 R J1 p0 n1 n2 n3 p9 n12 n13 ds w
def F89_k19 (R : Rt) (J1 : (Int × Int) → World → Prop) : EP := (fun ρ ds w => dPtr (ρ 0) fun p0 => dInt .i64 (ρ 1) fun n1 => dInt .i64 (ρ 2) fun n2 => dInt .i64 (ρ 3) fun n3 => dPtr (ρ 9) fun p9 => dInt .i64 (ρ 12) fun n12 => dInt .i64 (ρ 13) fun n13 => F89_13 R J1 p0 n1 n2 n3 p9 n12 n13 ds w)
def F89_14 (R : Rt) (J1 : (Int × Int) → World → Prop) (p0 : Option Addr) (n1 : Int) (n2 : Int) (n3 : Int) (p9 : Option Addr) (n12 : Int) (n13 : Int) (ds : Ds) (w : World) : Prop :=
 Br (decide (n13 ≤ n3)) (
 F89_13 R J1 p0 n1 n2 n3 p9 n12 n13 ds w) (
 F89_1 R p0 p9 n12 ds w)
def F89_15 (R : Rt) (p0 : Option Addr) (n1 : Int) (n2 : Int) (n3 : Int) (p9 : Option Addr) (n12 : Int) (n13 : Int) (ds : Ds) (w : World) : Prop :=
 loopT (fun (J1 : (Int × Int) → World → Prop) (s : Int × Int) (w : World) => F89_14 R J1 p0 n1 n2 n3 p9 s.1 s.2 ds w) (n12, n13) w
@[reducible] def F89_16 (R : Rt) (p0 : Option Addr) (n1 : Int) (n2 : Int) (n3 : Int) (p9 : Option Addr) (n12 : Int) (n13 : Int) (ds : Ds) (w : World) : Prop := F89_15 R p0 n1 n2 n3 p9 n12 n13 ds w
def F89_k20 (R : Rt) : EP := (fun ρ ds w => dPtr (ρ 0) fun p0 => dInt .i64 (ρ 1) fun n1 => dInt .i64 (ρ 2) fun n2 => dInt .i64 (ρ 3) fun n3 => dPtr (ρ 9) fun p9 => dInt .i64 (ρ 12) fun n12 => dInt .i64 (ρ 13) fun n13 => F89_16 R p0 n1 n2 n3 p9 n12 n13 ds w)
def F89_17 (R : Rt) (p0 : Option Addr) (n1 : Int) (n2 : Int) (n3 : Int) (ds : Ds) (w : World) : Prop :=
 alE (.cells #[.int .i64 0, .int .i64 0, .int .i64 0] 130) w fun r9 w25 =>
 stA Try.prog 130 (⟨r9, 0, none⟩ : Addr) #[.int .i64 n1, .int .i64 n2, .int .i64 n3] w25 fun w26 =>
 dwE w26 fun w27 =>
 ptrE p0 fun a28 =>
 ∃ m27 : Option Nat, w27.cell? (a28.add 3) = some (.map m27) ∧
 ∃ n28_0 : Int, w27.cell? ((⟨r9, 0, none⟩ : Addr).add 0) = some (.int .i64 n28_0) ∧
 ∃ n28_1 : Int, w27.cell? ((⟨r9, 0, none⟩ : Addr).add 1) = some (.int .i64 n28_1) ∧
 ∃ n28_2 : Int, w27.cell? ((⟨r9, 0, none⟩ : Addr).add 2) = some (.int .i64 n28_2) ∧
 ∃ n29_0 : Int, ∃ b29_1 : Bool, (Instr.lookup 113 (.map m27) (.agg #[.int .i64 n28_0, .int .i64 n28_1, .int .i64 n28_2]) true).run Try.prog w27 = .ok (.tuple #[.int .i64 n29_0, .bool b29_1]) w27 ∧
 Br b29_1 (
 runD Try.prog ds w27 fun w29 =>
 R (.returned (.int .i64 n29_0)) w29) (
 F89_16 R p0 n1 n2 n3 (some (⟨r9, 0, none⟩ : Addr)) 0 0 ds w27)
theorem c89_l : flat (bodyOf Try.f89) = [c89_0, c89_1, c89_2, c89_3, c89_4, c89_5, c89_6, c89_7, c89_8, c89_9, c89_10] := by kernel_rfl
theorem c89_7_l : flat (innerC c89_7) = [c89_7_0] := by kernel_rfl
theorem c89_7_0_l : flat (innerC c89_7_0) = [c89_7_0_0, c89_7_0_1, c89_7_0_2, c89_7_0_3] := by kernel_rfl
theorem c89_7_0_2_l : flat (innerC c89_7_0_2) = [c89_7_0_2_0, c89_7_0_2_1, c89_7_0_2_2] := by kernel_rfl
theorem c89_7_0_2_2_l : flat (innerC c89_7_0_2_2) = [c89_7_0_2_2_0] := by kernel_rfl
theorem c89_7_0_2_2_0_l : flat (innerC c89_7_0_2_2_0) = [c89_7_0_2_2_0_0, c89_7_0_2_2_0_1, c89_7_0_2_2_0_2, c89_7_0_2_2_0_3] := by kernel_rfl
theorem c89_7_0_2_2_0_2_l : flat (innerC c89_7_0_2_2_0_2) = [c89_7_0_2_2_0_2_0, c89_7_0_2_2_0_2_1, c89_7_0_2_2_0_2_2, c89_7_0_2_2_0_2_3, c89_7_0_2_2_0_2_4] := by kernel_rfl
theorem c89_7_0_2_2_0_2_4_l : flat (innerC c89_7_0_2_2_0_2_4) = [c89_7_0_2_2_0_2_4_0] := by kernel_rfl
theorem c89_7_0_2_2_0_2_4_0_l : flat (innerC c89_7_0_2_2_0_2_4_0) = [c89_7_0_2_2_0_2_4_0_0, c89_7_0_2_2_0_2_4_0_1, c89_7_0_2_2_0_2_4_0_2, c89_7_0_2_2_0_2_4_0_3] := by kernel_rfl
theorem F89_1_ok (R : Rt) (p0 : Option Addr) (p9 : Option Addr) (n12 : Int) (ds : Ds) (w : World) (ρ : Env) (e0 : ρ 0 = .pointer p0) (e9 : ρ 9 = .pointer p9) (e12 : ρ 12 = .int .i64 n12) (h : F89_1 R p0 p9 n12 ds w) :
    TrL Try.prog Try.f89.ntmps [c89_8, c89_9, c89_10] (F89_q1 R) ρ ds w :=
  TrL_leaf (X := F89_1 R p0 p9 n12 ds w) (setAll_cons e0 (setAll_cons e9 (setAll_cons e12 setAll_nil))) (by kernel_rfl) (by kernel_rfl) h
theorem F89_2_ok (R : Rt) (J1 : (Int × Int) → World → Prop) (p0 : Option Addr) (n1 : Int) (n2 : Int) (n3 : Int) (p9 : Option Addr) (n12 : Int) (n13 : Int) (ds : Ds) (w : World) (ρ : Env) (e0 : ρ 0 = .pointer p0) (e1 : ρ 1 = .int .i64 n1) (e2 : ρ 2 = .int .i64 n2) (e3 : ρ 3 = .int .i64 n3) (e9 : ρ 9 = .pointer p9) (e12 : ρ 12 = .int .i64 n12) (e13 : ρ 13 = .int .i64 n13) (h : F89_2 R J1 p0 n1 n2 n3 p9 n12 n13 ds w) :
    TrL Try.prog Try.f89.ntmps [c89_7_0_3] (F89_q5 R J1) ρ ds w :=
  TrL_leaf (X := F89_2 R J1 p0 n1 n2 n3 p9 n12 n13 ds w) (setAll_cons e0 (setAll_cons e1 (setAll_cons e2 (setAll_cons e3 (setAll_cons e9 (setAll_cons e12 (setAll_cons e13 setAll_nil))))))) (by kernel_rfl) (by kernel_rfl) h
theorem F89_3_ok (R : Rt) (J1 : (Int × Int) → World → Prop) (J2 : (Int × Int) → World → Prop) (p0 : Option Addr) (n1 : Int) (n2 : Int) (n3 : Int) (p9 : Option Addr) (n12 : Int) (n13 : Int) (p14 : Option Addr) (n15 : Int) (ds : Ds) (w : World) (ρ : Env) (e0 : ρ 0 = .pointer p0) (e1 : ρ 1 = .int .i64 n1) (e2 : ρ 2 = .int .i64 n2) (e3 : ρ 3 = .int .i64 n3) (e9 : ρ 9 = .pointer p9) (e12 : ρ 12 = .int .i64 n12) (e13 : ρ 13 = .int .i64 n13) (e14 : ρ 14 = .pointer p14) (e15 : ρ 15 = .int .i64 n15) (h : F89_3 R J1 J2 p0 n1 n2 n3 p9 n12 n13 p14 n15 ds w) :
    TrL Try.prog Try.f89.ntmps [c89_7_0_2_2_0_3] (F89_q10 R J1 J2) ρ ds w :=
  TrL_leaf (X := F89_3 R J1 J2 p0 n1 n2 n3 p9 n12 n13 p14 n15 ds w) (setAll_cons e0 (setAll_cons e1 (setAll_cons e2 (setAll_cons e3 (setAll_cons e9 (setAll_cons e12 (setAll_cons e13 (setAll_cons e14 (setAll_cons e15 setAll_nil))))))))) (by kernel_rfl) (by kernel_rfl) h
theorem F89_4_ok (R : Rt) (J1 : (Int × Int) → World → Prop) (J2 : (Int × Int) → World → Prop) (J3 : (Int × Int) → World → Prop) (p0 : Option Addr) (n1 : Int) (n2 : Int) (n3 : Int) (p9 : Option Addr) (n12 : Int) (n13 : Int) (p14 : Option Addr) (n15 : Int) (n16 : Int) (ds : Ds) (w : World) (ρ : Env) (e0 : ρ 0 = .pointer p0) (e1 : ρ 1 = .int .i64 n1) (e2 : ρ 2 = .int .i64 n2) (e3 : ρ 3 = .int .i64 n3) (e9 : ρ 9 = .pointer p9) (e12 : ρ 12 = .int .i64 n12) (e13 : ρ 13 = .int .i64 n13) (e14 : ρ 14 = .pointer p14) (e15 : ρ 15 = .int .i64 n15) (e16 : ρ 16 = .int .i64 n16) (h : F89_4 R J1 J2 J3 p0 n1 n2 n3 p9 n12 n13 p14 n15 n16 ds w) :
    TrL Try.prog Try.f89.ntmps [c89_7_0_2_2_0_2_4_0_0, c89_7_0_2_2_0_2_4_0_1, c89_7_0_2_2_0_2_4_0_2, c89_7_0_2_2_0_2_4_0_3] (F89_q15 R J1 J2 J3) ρ ds w :=
  TrL_leaf (X := F89_4 R J1 J2 J3 p0 n1 n2 n3 p9 n12 n13 p14 n15 n16 ds w) (setAll_cons e0 (setAll_cons e1 (setAll_cons e2 (setAll_cons e3 (setAll_cons e9 (setAll_cons e12 (setAll_cons e13 (setAll_cons e14 (setAll_cons e15 (setAll_cons e16 setAll_nil)))))))))) (by kernel_rfl) (by kernel_rfl) h
theorem F89_5_ok (R : Rt) (J1 : (Int × Int) → World → Prop) (J2 : (Int × Int) → World → Prop) (p0 : Option Addr) (n1 : Int) (n2 : Int) (n3 : Int) (p9 : Option Addr) (n12 : Int) (n13 : Int) (p14 : Option Addr) (n15 : Int) (n16 : Int) (ds : Ds) (w : World) (ρ : Env) (e0 : ρ 0 = .pointer p0) (e1 : ρ 1 = .int .i64 n1) (e2 : ρ 2 = .int .i64 n2) (e3 : ρ 3 = .int .i64 n3) (e9 : ρ 9 = .pointer p9) (e12 : ρ 12 = .int .i64 n12) (e13 : ρ 13 = .int .i64 n13) (e14 : ρ 14 = .pointer p14) (e15 : ρ 15 = .int .i64 n15) (e16 : ρ 16 = .int .i64 n16) (h : F89_5 R J1 J2 p0 n1 n2 n3 p9 n12 n13 p14 n15 n16 ds w) :
    TrL Try.prog Try.f89.ntmps [c89_7_0_2_2_0_2_4_0] (F89_q14 R J1 J2) ρ ds w :=
  TrL_one (Tr_loop' (c := innerC c89_7_0_2_2_0_2_4_0) (σ := Int × Int) (enc := (fun (s : Int × Int) (ρ : Env) => ρ 12 = .int .i64 s.1 ∧ ρ 16 = .int .i64 s.2)) (D := (fun ρ K => dInt .i64 (ρ 12) fun n12 => dInt .i64 (ρ 16) fun n16 => K (n12, n16))) (F := (fun (J3 : (Int × Int) → World → Prop) (s : Int × Int) (w : World) => F89_4 R J1 J2 J3 p0 n1 n2 n3 p9 s.1 n13 p14 n15 s.2 ds w)) (s0 := (n12, n16)) (by kernel_rfl) c89_7_0_2_2_0_2_4_0_l ⟨e12, e16⟩ (by kernel_rfl) (fun ρ K hD => by obtain ⟨n12, e12, hD⟩ := dInt_elim hD; obtain ⟨n16, e16, hD⟩ := dInt_elim hD; exact ⟨(n12, n16), ⟨e12, e16⟩, hD⟩)
      (fun J3 s ρ' w' he ha hF => by
      obtain ⟨e12', e16'⟩ := he
      exact F89_4_ok R J1 J2 J3 p0 n1 n2 n3 p9 s.1 n13 p14 n15 s.2 ds w' ρ' ((ha 0 (by kernel_rfl)).trans e0) ((ha 1 (by kernel_rfl)).trans e1) ((ha 2 (by kernel_rfl)).trans e2) ((ha 3 (by kernel_rfl)).trans e3) ((ha 9 (by kernel_rfl)).trans e9) e12' ((ha 13 (by kernel_rfl)).trans e13) ((ha 14 (by kernel_rfl)).trans e14) ((ha 15 (by kernel_rfl)).trans e15) e16' hF) h)
theorem F89_6_ok (R : Rt) (J1 : (Int × Int) → World → Prop) (J2 : (Int × Int) → World → Prop) (p0 : Option Addr) (n1 : Int) (n2 : Int) (n3 : Int) (p9 : Option Addr) (n12 : Int) (n13 : Int) (p14 : Option Addr) (n15 : Int) (n16 : Int) (ds : Ds) (w : World) (ρ : Env) (e0 : ρ 0 = .pointer p0) (e1 : ρ 1 = .int .i64 n1) (e2 : ρ 2 = .int .i64 n2) (e3 : ρ 3 = .int .i64 n3) (e9 : ρ 9 = .pointer p9) (e12 : ρ 12 = .int .i64 n12) (e13 : ρ 13 = .int .i64 n13) (e14 : ρ 14 = .pointer p14) (e15 : ρ 15 = .int .i64 n15) (e16 : ρ 16 = .int .i64 n16) (h : F89_6 R J1 J2 p0 n1 n2 n3 p9 n12 n13 p14 n15 n16 ds w) :
    TrL Try.prog Try.f89.ntmps [c89_7_0_2_2_0_2_4] (F89_q13 R J1 J2) ρ ds w :=
  TrL_one (Tr_block' (c := innerC c89_7_0_2_2_0_2_4) (by kernel_rfl) c89_7_0_2_2_0_2_4_l (F89_5_ok R J1 J2 p0 n1 n2 n3 p9 n12 n13 p14 n15 n16 ds w ρ e0 e1 e2 e3 e9 e12 e13 e14 e15 e16 h))
theorem F89_7_ok (R : Rt) (J1 : (Int × Int) → World → Prop) (J2 : (Int × Int) → World → Prop) (p0 : Option Addr) (n1 : Int) (n2 : Int) (n3 : Int) (p9 : Option Addr) (n12 : Int) (n13 : Int) (p14 : Option Addr) (n15 : Int) (ds : Ds) (w : World) (ρ : Env) (e0 : ρ 0 = .pointer p0) (e1 : ρ 1 = .int .i64 n1) (e2 : ρ 2 = .int .i64 n2) (e3 : ρ 3 = .int .i64 n3) (e9 : ρ 9 = .pointer p9) (e12 : ρ 12 = .int .i64 n12) (e13 : ρ 13 = .int .i64 n13) (e14 : ρ 14 = .pointer p14) (e15 : ρ 15 = .int .i64 n15) (h : F89_7 R J1 J2 p0 n1 n2 n3 p9 n12 n13 p14 n15 ds w) :
    TrL Try.prog Try.f89.ntmps [c89_7_0_2_2_0_2_0, c89_7_0_2_2_0_2_1, c89_7_0_2_2_0_2_2, c89_7_0_2_2_0_2_3, c89_7_0_2_2_0_2_4] (F89_q13 R J1 J2) ρ ds w :=
  TrL_piece (pre := [c89_7_0_2_2_0_2_0, c89_7_0_2_2_0_2_1, c89_7_0_2_2_0_2_2, c89_7_0_2_2_0_2_3]) (K := (F89_k16 R J1 J2)) (X := F89_7 R J1 J2 p0 n1 n2 n3 p9 n12 n13 p14 n15 ds w) (setAll_cons e0 (setAll_cons e1 (setAll_cons e2 (setAll_cons e3 (setAll_cons e9 (setAll_cons e12 (setAll_cons e13 (setAll_cons e14 (setAll_cons e15 setAll_nil))))))))) (by kernel_rfl) (by kernel_rfl)
    (fun ρ' ds' w' hD => by
      obtain ⟨p0, e0, hD⟩ := dPtr_elim hD; obtain ⟨n1, e1, hD⟩ := dInt_elim hD; obtain ⟨n2, e2, hD⟩ := dInt_elim hD; obtain ⟨n3, e3, hD⟩ := dInt_elim hD; obtain ⟨p9, e9, hD⟩ := dPtr_elim hD; obtain ⟨n12, e12, hD⟩ := dInt_elim hD; obtain ⟨n13, e13, hD⟩ := dInt_elim hD; obtain ⟨p14, e14, hD⟩ := dPtr_elim hD; obtain ⟨n15, e15, hD⟩ := dInt_elim hD; obtain ⟨n16, e16, hD⟩ := dInt_elim hD; exact F89_6_ok R J1 J2 p0 n1 n2 n3 p9 n12 n13 p14 n15 n16 ds' w' ρ' e0 e1 e2 e3 e9 e12 e13 e14 e15 e16 hD) h
theorem F89_8_ok (R : Rt) (J1 : (Int × Int) → World → Prop) (J2 : (Int × Int) → World → Prop) (p0 : Option Addr) (n1 : Int) (n2 : Int) (n3 : Int) (p9 : Option Addr) (n12 : Int) (n13 : Int) (p14 : Option Addr) (n15 : Int) (ds : Ds) (w : World) (ρ : Env) (e0 : ρ 0 = .pointer p0) (e1 : ρ 1 = .int .i64 n1) (e2 : ρ 2 = .int .i64 n2) (e3 : ρ 3 = .int .i64 n3) (e9 : ρ 9 = .pointer p9) (e12 : ρ 12 = .int .i64 n12) (e13 : ρ 13 = .int .i64 n13) (e14 : ρ 14 = .pointer p14) (e15 : ρ 15 = .int .i64 n15) (h : F89_8 R J1 J2 p0 n1 n2 n3 p9 n12 n13 p14 n15 ds w) :
    TrL Try.prog Try.f89.ntmps [c89_7_0_2_2_0_2, c89_7_0_2_2_0_3] (F89_q10 R J1 J2) ρ ds w :=
  TrL_head (K := (F89_k11 R J1 J2)) (Tr_block' (c := innerC c89_7_0_2_2_0_2) (by kernel_rfl) c89_7_0_2_2_0_2_l (F89_7_ok R J1 J2 p0 n1 n2 n3 p9 n12 n13 p14 n15 ds w ρ e0 e1 e2 e3 e9 e12 e13 e14 e15 h))
    (fun ρ' ds' w' hD => by
      obtain ⟨p0, e0, hD⟩ := dPtr_elim hD; obtain ⟨n1, e1, hD⟩ := dInt_elim hD; obtain ⟨n2, e2, hD⟩ := dInt_elim hD; obtain ⟨n3, e3, hD⟩ := dInt_elim hD; obtain ⟨p9, e9, hD⟩ := dPtr_elim hD; obtain ⟨n12, e12, hD⟩ := dInt_elim hD; obtain ⟨n13, e13, hD⟩ := dInt_elim hD; obtain ⟨p14, e14, hD⟩ := dPtr_elim hD; obtain ⟨n15, e15, hD⟩ := dInt_elim hD; exact F89_3_ok R J1 J2 p0 n1 n2 n3 p9 n12 n13 p14 n15 ds' w' ρ' e0 e1 e2 e3 e9 e12 e13 e14 e15 hD)
theorem F89_9_ok (R : Rt) (J1 : (Int × Int) → World → Prop) (J2 : (Int × Int) → World → Prop) (p0 : Option Addr) (n1 : Int) (n2 : Int) (n3 : Int) (p9 : Option Addr) (n12 : Int) (n13 : Int) (p14 : Option Addr) (n15 : Int) (ds : Ds) (w : World) (ρ : Env) (e0 : ρ 0 = .pointer p0) (e1 : ρ 1 = .int .i64 n1) (e2 : ρ 2 = .int .i64 n2) (e3 : ρ 3 = .int .i64 n3) (e9 : ρ 9 = .pointer p9) (e12 : ρ 12 = .int .i64 n12) (e13 : ρ 13 = .int .i64 n13) (e14 : ρ 14 = .pointer p14) (e15 : ρ 15 = .int .i64 n15) (h : F89_9 R J1 J2 p0 n1 n2 n3 p9 n12 n13 p14 n15 ds w) :
    TrL Try.prog Try.f89.ntmps [c89_7_0_2_2_0_0, c89_7_0_2_2_0_1, c89_7_0_2_2_0_2, c89_7_0_2_2_0_3] (F89_q10 R J1 J2) ρ ds w :=
  TrL_piece (pre := [c89_7_0_2_2_0_0, c89_7_0_2_2_0_1]) (K := (F89_k17 R J1 J2)) (X := F89_9 R J1 J2 p0 n1 n2 n3 p9 n12 n13 p14 n15 ds w) (setAll_cons e0 (setAll_cons e1 (setAll_cons e2 (setAll_cons e3 (setAll_cons e9 (setAll_cons e12 (setAll_cons e13 (setAll_cons e14 (setAll_cons e15 setAll_nil))))))))) (by kernel_rfl) (by kernel_rfl)
    (fun ρ' ds' w' hD => by
      obtain ⟨p0, e0, hD⟩ := dPtr_elim hD; obtain ⟨n1, e1, hD⟩ := dInt_elim hD; obtain ⟨n2, e2, hD⟩ := dInt_elim hD; obtain ⟨n3, e3, hD⟩ := dInt_elim hD; obtain ⟨p9, e9, hD⟩ := dPtr_elim hD; obtain ⟨n12, e12, hD⟩ := dInt_elim hD; obtain ⟨n13, e13, hD⟩ := dInt_elim hD; obtain ⟨p14, e14, hD⟩ := dPtr_elim hD; obtain ⟨n15, e15, hD⟩ := dInt_elim hD; exact F89_8_ok R J1 J2 p0 n1 n2 n3 p9 n12 n13 p14 n15 ds' w' ρ' e0 e1 e2 e3 e9 e12 e13 e14 e15 hD) h
theorem F89_10_ok (R : Rt) (J1 : (Int × Int) → World → Prop) (p0 : Option Addr) (n1 : Int) (n2 : Int) (n3 : Int) (p9 : Option Addr) (n12 : Int) (n13 : Int) (p14 : Option Addr) (n15 : Int) (ds : Ds) (w : World) (ρ : Env) (e0 : ρ 0 = .pointer p0) (e1 : ρ 1 = .int .i64 n1) (e2 : ρ 2 = .int .i64 n2) (e3 : ρ 3 = .int .i64 n3) (e9 : ρ 9 = .pointer p9) (e12 : ρ 12 = .int .i64 n12) (e13 : ρ 13 = .int .i64 n13) (e14 : ρ 14 = .pointer p14) (e15 : ρ 15 = .int .i64 n15) (h : F89_10 R J1 p0 n1 n2 n3 p9 n12 n13 p14 n15 ds w) :
    TrL Try.prog Try.f89.ntmps [c89_7_0_2_2_0] (F89_q9 R J1) ρ ds w :=
  TrL_one (Tr_loop' (c := innerC c89_7_0_2_2_0) (σ := Int × Int) (enc := (fun (s : Int × Int) (ρ : Env) => ρ 12 = .int .i64 s.1 ∧ ρ 15 = .int .i64 s.2)) (D := (fun ρ K => dInt .i64 (ρ 12) fun n12 => dInt .i64 (ρ 15) fun n15 => K (n12, n15))) (F := (fun (J2 : (Int × Int) → World → Prop) (s : Int × Int) (w : World) => F89_9 R J1 J2 p0 n1 n2 n3 p9 s.1 n13 p14 s.2 ds w)) (s0 := (n12, n15)) (by kernel_rfl) c89_7_0_2_2_0_l ⟨e12, e15⟩ (by kernel_rfl) (fun ρ K hD => by obtain ⟨n12, e12, hD⟩ := dInt_elim hD; obtain ⟨n15, e15, hD⟩ := dInt_elim hD; exact ⟨(n12, n15), ⟨e12, e15⟩, hD⟩)
      (fun J2 s ρ' w' he ha hF => by
      obtain ⟨e12', e15'⟩ := he
      exact F89_9_ok R J1 J2 p0 n1 n2 n3 p9 s.1 n13 p14 s.2 ds w' ρ' ((ha 0 (by kernel_rfl)).trans e0) ((ha 1 (by kernel_rfl)).trans e1) ((ha 2 (by kernel_rfl)).trans e2) ((ha 3 (by kernel_rfl)).trans e3) ((ha 9 (by kernel_rfl)).trans e9) e12' ((ha 13 (by kernel_rfl)).trans e13) ((ha 14 (by kernel_rfl)).trans e14) e15' hF) h)
theorem F89_11_ok (R : Rt) (J1 : (Int × Int) → World → Prop) (p0 : Option Addr) (n1 : Int) (n2 : Int) (n3 : Int) (p9 : Option Addr) (n12 : Int) (n13 : Int) (p14 : Option Addr) (n15 : Int) (ds : Ds) (w : World) (ρ : Env) (e0 : ρ 0 = .pointer p0) (e1 : ρ 1 = .int .i64 n1) (e2 : ρ 2 = .int .i64 n2) (e3 : ρ 3 = .int .i64 n3) (e9 : ρ 9 = .pointer p9) (e12 : ρ 12 = .int .i64 n12) (e13 : ρ 13 = .int .i64 n13) (e14 : ρ 14 = .pointer p14) (e15 : ρ 15 = .int .i64 n15) (h : F89_11 R J1 p0 n1 n2 n3 p9 n12 n13 p14 n15 ds w) :
    TrL Try.prog Try.f89.ntmps [c89_7_0_2_2] (F89_q8 R J1) ρ ds w :=
  TrL_one (Tr_block' (c := innerC c89_7_0_2_2) (by kernel_rfl) c89_7_0_2_2_l (F89_10_ok R J1 p0 n1 n2 n3 p9 n12 n13 p14 n15 ds w ρ e0 e1 e2 e3 e9 e12 e13 e14 e15 h))
theorem F89_12_ok (R : Rt) (J1 : (Int × Int) → World → Prop) (p0 : Option Addr) (n1 : Int) (n2 : Int) (n3 : Int) (p9 : Option Addr) (n12 : Int) (n13 : Int) (ds : Ds) (w : World) (ρ : Env) (e0 : ρ 0 = .pointer p0) (e1 : ρ 1 = .int .i64 n1) (e2 : ρ 2 = .int .i64 n2) (e3 : ρ 3 = .int .i64 n3) (e9 : ρ 9 = .pointer p9) (e12 : ρ 12 = .int .i64 n12) (e13 : ρ 13 = .int .i64 n13) (h : F89_12 R J1 p0 n1 n2 n3 p9 n12 n13 ds w) :
    TrL Try.prog Try.f89.ntmps [c89_7_0_2_0, c89_7_0_2_1, c89_7_0_2_2] (F89_q8 R J1) ρ ds w :=
  TrL_piece (pre := [c89_7_0_2_0, c89_7_0_2_1]) (K := (F89_k18 R J1)) (X := F89_12 R J1 p0 n1 n2 n3 p9 n12 n13 ds w) (setAll_cons e0 (setAll_cons e1 (setAll_cons e2 (setAll_cons e3 (setAll_cons e9 (setAll_cons e12 (setAll_cons e13 setAll_nil))))))) (by kernel_rfl) (by kernel_rfl)
    (fun ρ' ds' w' hD => by
      obtain ⟨p0, e0, hD⟩ := dPtr_elim hD; obtain ⟨n1, e1, hD⟩ := dInt_elim hD; obtain ⟨n2, e2, hD⟩ := dInt_elim hD; obtain ⟨n3, e3, hD⟩ := dInt_elim hD; obtain ⟨p9, e9, hD⟩ := dPtr_elim hD; obtain ⟨n12, e12, hD⟩ := dInt_elim hD; obtain ⟨n13, e13, hD⟩ := dInt_elim hD; obtain ⟨p14, e14, hD⟩ := dPtr_elim hD; obtain ⟨n15, e15, hD⟩ := dInt_elim hD; exact F89_11_ok R J1 p0 n1 n2 n3 p9 n12 n13 p14 n15 ds' w' ρ' e0 e1 e2 e3 e9 e12 e13 e14 e15 hD) h
theorem F89_13_ok (R : Rt) (J1 : (Int × Int) → World → Prop) (p0 : Option Addr) (n1 : Int) (n2 : Int) (n3 : Int) (p9 : Option Addr) (n12 : Int) (n13 : Int) (ds : Ds) (w : World) (ρ : Env) (e0 : ρ 0 = .pointer p0) (e1 : ρ 1 = .int .i64 n1) (e2 : ρ 2 = .int .i64 n2) (e3 : ρ 3 = .int .i64 n3) (e9 : ρ 9 = .pointer p9) (e12 : ρ 12 = .int .i64 n12) (e13 : ρ 13 = .int .i64 n13) (h : F89_13 R J1 p0 n1 n2 n3 p9 n12 n13 ds w) :
    TrL Try.prog Try.f89.ntmps [c89_7_0_2, c89_7_0_3] (F89_q5 R J1) ρ ds w :=
  TrL_head (K := (F89_k6 R J1)) (Tr_block' (c := innerC c89_7_0_2) (by kernel_rfl) c89_7_0_2_l (F89_12_ok R J1 p0 n1 n2 n3 p9 n12 n13 ds w ρ e0 e1 e2 e3 e9 e12 e13 h))
    (fun ρ' ds' w' hD => by
      obtain ⟨p0, e0, hD⟩ := dPtr_elim hD; obtain ⟨n1, e1, hD⟩ := dInt_elim hD; obtain ⟨n2, e2, hD⟩ := dInt_elim hD; obtain ⟨n3, e3, hD⟩ := dInt_elim hD; obtain ⟨p9, e9, hD⟩ := dPtr_elim hD; obtain ⟨n12, e12, hD⟩ := dInt_elim hD; obtain ⟨n13, e13, hD⟩ := dInt_elim hD; exact F89_2_ok R J1 p0 n1 n2 n3 p9 n12 n13 ds' w' ρ' e0 e1 e2 e3 e9 e12 e13 hD)
theorem F89_14_ok (R : Rt) (J1 : (Int × Int) → World → Prop) (p0 : Option Addr) (n1 : Int) (n2 : Int) (n3 : Int) (p9 : Option Addr) (n12 : Int) (n13 : Int) (ds : Ds) (w : World) (ρ : Env) (e0 : ρ 0 = .pointer p0) (e1 : ρ 1 = .int .i64 n1) (e2 : ρ 2 = .int .i64 n2) (e3 : ρ 3 = .int .i64 n3) (e9 : ρ 9 = .pointer p9) (e12 : ρ 12 = .int .i64 n12) (e13 : ρ 13 = .int .i64 n13) (h : F89_14 R J1 p0 n1 n2 n3 p9 n12 n13 ds w) :
    TrL Try.prog Try.f89.ntmps [c89_7_0_0, c89_7_0_1, c89_7_0_2, c89_7_0_3] (F89_q5 R J1) ρ ds w :=
  TrL_piece (pre := [c89_7_0_0, c89_7_0_1]) (K := (F89_k19 R J1)) (X := F89_14 R J1 p0 n1 n2 n3 p9 n12 n13 ds w) (setAll_cons e0 (setAll_cons e1 (setAll_cons e2 (setAll_cons e3 (setAll_cons e9 (setAll_cons e12 (setAll_cons e13 setAll_nil))))))) (by kernel_rfl) (by kernel_rfl)
    (fun ρ' ds' w' hD => by
      obtain ⟨p0, e0, hD⟩ := dPtr_elim hD; obtain ⟨n1, e1, hD⟩ := dInt_elim hD; obtain ⟨n2, e2, hD⟩ := dInt_elim hD; obtain ⟨n3, e3, hD⟩ := dInt_elim hD; obtain ⟨p9, e9, hD⟩ := dPtr_elim hD; obtain ⟨n12, e12, hD⟩ := dInt_elim hD; obtain ⟨n13, e13, hD⟩ := dInt_elim hD; exact F89_13_ok R J1 p0 n1 n2 n3 p9 n12 n13 ds' w' ρ' e0 e1 e2 e3 e9 e12 e13 hD) h
theorem F89_15_ok (R : Rt) (p0 : Option Addr) (n1 : Int) (n2 : Int) (n3 : Int) (p9 : Option Addr) (n12 : Int) (n13 : Int) (ds : Ds) (w : World) (ρ : Env) (e0 : ρ 0 = .pointer p0) (e1 : ρ 1 = .int .i64 n1) (e2 : ρ 2 = .int .i64 n2) (e3 : ρ 3 = .int .i64 n3) (e9 : ρ 9 = .pointer p9) (e12 : ρ 12 = .int .i64 n12) (e13 : ρ 13 = .int .i64 n13) (h : F89_15 R p0 n1 n2 n3 p9 n12 n13 ds w) :
    TrL Try.prog Try.f89.ntmps [c89_7_0] (F89_q4 R) ρ ds w :=
  TrL_one (Tr_loop' (c := innerC c89_7_0) (σ := Int × Int) (enc := (fun (s : Int × Int) (ρ : Env) => ρ 12 = .int .i64 s.1 ∧ ρ 13 = .int .i64 s.2)) (D := (fun ρ K => dInt .i64 (ρ 12) fun n12 => dInt .i64 (ρ 13) fun n13 => K (n12, n13))) (F := (fun (J1 : (Int × Int) → World → Prop) (s : Int × Int) (w : World) => F89_14 R J1 p0 n1 n2 n3 p9 s.1 s.2 ds w)) (s0 := (n12, n13)) (by kernel_rfl) c89_7_0_l ⟨e12, e13⟩ (by kernel_rfl) (fun ρ K hD => by obtain ⟨n12, e12, hD⟩ := dInt_elim hD; obtain ⟨n13, e13, hD⟩ := dInt_elim hD; exact ⟨(n12, n13), ⟨e12, e13⟩, hD⟩)
      (fun J1 s ρ' w' he ha hF => by
      obtain ⟨e12', e13'⟩ := he
      exact F89_14_ok R J1 p0 n1 n2 n3 p9 s.1 s.2 ds w' ρ' ((ha 0 (by kernel_rfl)).trans e0) ((ha 1 (by kernel_rfl)).trans e1) ((ha 2 (by kernel_rfl)).trans e2) ((ha 3 (by kernel_rfl)).trans e3) ((ha 9 (by kernel_rfl)).trans e9) e12' e13' hF) h)
theorem F89_16_ok (R : Rt) (p0 : Option Addr) (n1 : Int) (n2 : Int) (n3 : Int) (p9 : Option Addr) (n12 : Int) (n13 : Int) (ds : Ds) (w : World) (ρ : Env) (e0 : ρ 0 = .pointer p0) (e1 : ρ 1 = .int .i64 n1) (e2 : ρ 2 = .int .i64 n2) (e3 : ρ 3 = .int .i64 n3) (e9 : ρ 9 = .pointer p9) (e12 : ρ 12 = .int .i64 n12) (e13 : ρ 13 = .int .i64 n13) (h : F89_16 R p0 n1 n2 n3 p9 n12 n13 ds w) :
    TrL Try.prog Try.f89.ntmps [c89_7, c89_8, c89_9, c89_10] (F89_q1 R) ρ ds w :=
  TrL_head (K := (F89_k2 R)) (Tr_block' (c := innerC c89_7) (by kernel_rfl) c89_7_l (F89_15_ok R p0 n1 n2 n3 p9 n12 n13 ds w ρ e0 e1 e2 e3 e9 e12 e13 h))
    (fun ρ' ds' w' hD => by
      obtain ⟨p0, e0, hD⟩ := dPtr_elim hD; obtain ⟨p9, e9, hD⟩ := dPtr_elim hD; obtain ⟨n12, e12, hD⟩ := dInt_elim hD; exact F89_1_ok R p0 p9 n12 ds' w' ρ' e0 e9 e12 hD)
theorem F89_17_ok (R : Rt) (p0 : Option Addr) (n1 : Int) (n2 : Int) (n3 : Int) (ds : Ds) (w : World) (ρ : Env) (e0 : ρ 0 = .pointer p0) (e1 : ρ 1 = .int .i64 n1) (e2 : ρ 2 = .int .i64 n2) (e3 : ρ 3 = .int .i64 n3) (h : F89_17 R p0 n1 n2 n3 ds w) :
    TrL Try.prog Try.f89.ntmps [c89_0, c89_1, c89_2, c89_3, c89_4, c89_5, c89_6, c89_7, c89_8, c89_9, c89_10] (F89_q1 R) ρ ds w :=
  TrL_piece (pre := [c89_0, c89_1, c89_2, c89_3, c89_4, c89_5, c89_6]) (K := (F89_k20 R)) (X := F89_17 R p0 n1 n2 n3 ds w) (setAll_cons e0 (setAll_cons e1 (setAll_cons e2 (setAll_cons e3 setAll_nil)))) (by kernel_rfl) (by kernel_rfl)
    (fun ρ' ds' w' hD => by
      obtain ⟨p0, e0, hD⟩ := dPtr_elim hD; obtain ⟨n1, e1, hD⟩ := dInt_elim hD; obtain ⟨n2, e2, hD⟩ := dInt_elim hD; obtain ⟨n3, e3, hD⟩ := dInt_elim hD; obtain ⟨p9, e9, hD⟩ := dPtr_elim hD; obtain ⟨n12, e12, hD⟩ := dInt_elim hD; obtain ⟨n13, e13, hD⟩ := dInt_elim hD; exact F89_16_ok R p0 n1 n2 n3 p9 n12 n13 ds' w' ρ' e0 e1 e2 e3 e9 e12 e13 hD) h
theorem F89_calls (p0 : Option Addr) (n1 : Int) (n2 : Int) (n3 : Int) (w : World) (R : Rt) (h : F89_17 R p0 n1 n2 n3 [] w) : Calls Try.prog 89 #[.pointer p0, .int .i64 n1, .int .i64 n2, .int .i64 n3] w R :=
  calls_of_L (l := [c89_0, c89_1, c89_2, c89_3, c89_4, c89_5, c89_6, c89_7, c89_8, c89_9, c89_10]) Try.func89 (by kernel_rfl) (by rw [Try.ntmps89]; exact Nat.le_of_ble_eq_true (by kernel_rfl)) c89_l
    (F89_17_ok R p0 n1 n2 n3 [] w _ rfl rfl rfl rfl h)
theorem F89_callsD (p0 : Option Addr) (n1 : Int) (n2 : Int) (n3 : Int) (w : World) (R : Rt) (u : FrameMode) (h : F89_17 R p0 n1 n2 n3 [] w) : CallsD Try.prog 89 #[.pointer p0, .int .i64 n1, .int .i64 n2, .int .i64 n3] u w fun e u' w' => u' = u ∧ R e w' :=
  callsD_of_L (l := [c89_0, c89_1, c89_2, c89_3, c89_4, c89_5, c89_6, c89_7, c89_8, c89_9, c89_10]) Try.func89 (by kernel_rfl) (by rw [Try.ntmps89]; exact Nat.le_of_ble_eq_true (by kernel_rfl)) (by kernel_rfl) c89_l
    (F89_17_ok R p0 n1 n2 n3 [] w _ rfl rfl rfl rfl h) u

/-! function 90: slices.Index[[]string,string] -/
noncomputable def c90_0 : Code := itemAt (flat (bodyOf Try.f90)) 0
noncomputable def c90_1 : Code := itemAt (flat (bodyOf Try.f90)) 1
noncomputable def c90_2 : Code := itemAt (flat (bodyOf Try.f90)) 2
noncomputable def c90_3 : Code := itemAt (flat (bodyOf Try.f90)) 3
noncomputable def c90_4 : Code := itemAt (flat (bodyOf Try.f90)) 4
noncomputable def c90_2_0 : Code := itemAt (flat (innerC c90_2)) 0
noncomputable def c90_2_0_0 : Code := itemAt (flat (innerC c90_2_0)) 0
noncomputable def c90_2_0_1 : Code := itemAt (flat (innerC c90_2_0)) 1
noncomputable def c90_2_0_2 : Code := itemAt (flat (innerC c90_2_0)) 2
noncomputable def c90_2_0_3 : Code := itemAt (flat (innerC c90_2_0)) 3
def F90_q1 (R : Rt) : EQ := endQ Try.prog Try.f90.results.toList R
def F90_1 (R : Rt) (ds : Ds) (w : World) : Prop :=
 runD Try.prog ds w fun w1 =>
 R (.returned (.int .i64 (-1))) w1
def F90_k2 (R : Rt) : EP := (fun ρ ds w => F90_1 R ds w)
def F90_q3 (R : Rt) : EQ := (thenQ (F90_k2 R) (F90_q1 R))
def F90_q4 (R : Rt) : EQ := (blockQ 0 (F90_q3 R))
def F90_q5 (R : Rt) (J1 : (Int) → World → Prop) : EQ := (thenQ (fun ρ _ w => dInt .i64 (ρ 8) fun n8 => J1 n8 w) (F90_q4 R))
def F90_2 (R : Rt) (J1 : (Int) → World → Prop) (l0 : SV) (s1 : ByteArray) (n7 : Int) (n8 : Int) (ds : Ds) (w : World) : Prop :=
 Br (decide (n8 < n7)) (
 ∃ a2 : Addr, l0.a = some a2 ∧ 0 ≤ n8 ∧ n8 < ((l0.len : Nat) : Int) ∧
 ∃ s15 : ByteArray, w.cell? (a2.add (n8.toNat * 1)) = some (.string s15) ∧
 Br (s1.toList == s15.toList) (
 runD Try.prog ds w fun w3 =>
 R (.returned (.int .i64 n8)) w3) (
 J1 (IntKind.i64.wrap (n8 + 1)) w)) (
 F90_1 R ds w)
def F90_3 (R : Rt) (l0 : SV) (s1 : ByteArray) (n7 : Int) (n8 : Int) (ds : Ds) (w : World) : Prop :=
 loopT (fun (J1 : (Int) → World → Prop) (s : Int) (w : World) => F90_2 R J1 l0 s1 n7 s ds w) n8 w
@[reducible] def F90_4 (R : Rt) (l0 : SV) (s1 : ByteArray) (n7 : Int) (n8 : Int) (ds : Ds) (w : World) : Prop := F90_3 R l0 s1 n7 n8 ds w
def F90_k6 (R : Rt) : EP := (fun ρ ds w => dSl (ρ 0) fun l0 => dStr (ρ 1) fun s1 => dInt .i64 (ρ 7) fun n7 => dInt .i64 (ρ 8) fun n8 => F90_4 R l0 s1 n7 n8 ds w)
def F90_5 (R : Rt) (l0 : SV) (s1 : ByteArray) (ds : Ds) (w : World) : Prop :=
 F90_4 R l0 s1 ((l0.len : Nat) : Int) 0 ds w
theorem c90_l : flat (bodyOf Try.f90) = [c90_0, c90_1, c90_2, c90_3, c90_4] := by kernel_rfl
theorem c90_2_l : flat (innerC c90_2) = [c90_2_0] := by kernel_rfl
theorem c90_2_0_l : flat (innerC c90_2_0) = [c90_2_0_0, c90_2_0_1, c90_2_0_2, c90_2_0_3] := by kernel_rfl
theorem F90_1_ok (R : Rt) (ds : Ds) (w : World) (ρ : Env) (h : F90_1 R ds w) :
    TrL Try.prog Try.f90.ntmps [c90_3, c90_4] (F90_q1 R) ρ ds w :=
  TrL_leaf (X := F90_1 R ds w) setAll_nil (by kernel_rfl) (by kernel_rfl) h
theorem F90_2_ok (R : Rt) (J1 : (Int) → World → Prop) (l0 : SV) (s1 : ByteArray) (n7 : Int) (n8 : Int) (ds : Ds) (w : World) (ρ : Env) (e0 : ρ 0 = .slice l0.a l0.len l0.cap) (e1 : ρ 1 = .string s1) (e7 : ρ 7 = .int .i64 n7) (e8 : ρ 8 = .int .i64 n8) (h : F90_2 R J1 l0 s1 n7 n8 ds w) :
    TrL Try.prog Try.f90.ntmps [c90_2_0_0, c90_2_0_1, c90_2_0_2, c90_2_0_3] (F90_q5 R J1) ρ ds w :=
  TrL_leaf (X := F90_2 R J1 l0 s1 n7 n8 ds w) (setAll_cons e0 (setAll_cons e1 (setAll_cons e7 (setAll_cons e8 setAll_nil)))) (by kernel_rfl) (by kernel_rfl) h
theorem F90_3_ok (R : Rt) (l0 : SV) (s1 : ByteArray) (n7 : Int) (n8 : Int) (ds : Ds) (w : World) (ρ : Env) (e0 : ρ 0 = .slice l0.a l0.len l0.cap) (e1 : ρ 1 = .string s1) (e7 : ρ 7 = .int .i64 n7) (e8 : ρ 8 = .int .i64 n8) (h : F90_3 R l0 s1 n7 n8 ds w) :
    TrL Try.prog Try.f90.ntmps [c90_2_0] (F90_q4 R) ρ ds w :=
  TrL_one (Tr_loop' (c := innerC c90_2_0) (σ := Int) (enc := (fun (s : Int) (ρ : Env) => ρ 8 = .int .i64 s)) (D := (fun ρ K => dInt .i64 (ρ 8) fun n8 => K n8)) (F := (fun (J1 : (Int) → World → Prop) (s : Int) (w : World) => F90_2 R J1 l0 s1 n7 s ds w)) (s0 := n8) (by kernel_rfl) c90_2_0_l e8 (by kernel_rfl) (fun ρ K hD => by obtain ⟨n8, e8, hD⟩ := dInt_elim hD; exact ⟨n8, e8, hD⟩)
      (fun J1 s ρ' w' he ha hF => by
      have e8' := he
      exact F90_2_ok R J1 l0 s1 n7 s ds w' ρ' ((ha 0 (by kernel_rfl)).trans e0) ((ha 1 (by kernel_rfl)).trans e1) ((ha 7 (by kernel_rfl)).trans e7) e8' hF) h)
theorem F90_4_ok (R : Rt) (l0 : SV) (s1 : ByteArray) (n7 : Int) (n8 : Int) (ds : Ds) (w : World) (ρ : Env) (e0 : ρ 0 = .slice l0.a l0.len l0.cap) (e1 : ρ 1 = .string s1) (e7 : ρ 7 = .int .i64 n7) (e8 : ρ 8 = .int .i64 n8) (h : F90_4 R l0 s1 n7 n8 ds w) :
    TrL Try.prog Try.f90.ntmps [c90_2, c90_3, c90_4] (F90_q1 R) ρ ds w :=
  TrL_head (K := (F90_k2 R)) (Tr_block' (c := innerC c90_2) (by kernel_rfl) c90_2_l (F90_3_ok R l0 s1 n7 n8 ds w ρ e0 e1 e7 e8 h))
    (fun ρ' ds' w' hD => by
      exact F90_1_ok R ds' w' ρ'  hD)
theorem F90_5_ok (R : Rt) (l0 : SV) (s1 : ByteArray) (ds : Ds) (w : World) (ρ : Env) (e0 : ρ 0 = .slice l0.a l0.len l0.cap) (e1 : ρ 1 = .string s1) (h : F90_5 R l0 s1 ds w) :
    TrL Try.prog Try.f90.ntmps [c90_0, c90_1, c90_2, c90_3, c90_4] (F90_q1 R) ρ ds w :=
  TrL_piece (pre := [c90_0, c90_1]) (K := (F90_k6 R)) (X := F90_5 R l0 s1 ds w) (setAll_cons e0 (setAll_cons e1 setAll_nil)) (by kernel_rfl) (by kernel_rfl)
    (fun ρ' ds' w' hD => by
      obtain ⟨l0, e0, hD⟩ := dSl_elim hD; obtain ⟨s1, e1, hD⟩ := dStr_elim hD; obtain ⟨n7, e7, hD⟩ := dInt_elim hD; obtain ⟨n8, e8, hD⟩ := dInt_elim hD; exact F90_4_ok R l0 s1 n7 n8 ds' w' ρ' e0 e1 e7 e8 hD) h
theorem F90_calls (l0 : SV) (s1 : ByteArray) (w : World) (R : Rt) (h : F90_5 R l0 s1 [] w) : Calls Try.prog 90 #[.slice l0.a l0.len l0.cap, .string s1] w R :=
  calls_of_L (l := [c90_0, c90_1, c90_2, c90_3, c90_4]) Try.func90 (by kernel_rfl) (by rw [Try.ntmps90]; exact Nat.le_of_ble_eq_true (by kernel_rfl)) c90_l
    (F90_5_ok R l0 s1 [] w _ rfl rfl h)
theorem F90_callsD (l0 : SV) (s1 : ByteArray) (w : World) (R : Rt) (u : FrameMode) (h : F90_5 R l0 s1 [] w) : CallsD Try.prog 90 #[.slice l0.a l0.len l0.cap, .string s1] u w fun e u' w' => u' = u ∧ R e w' :=
  callsD_of_L (l := [c90_0, c90_1, c90_2, c90_3, c90_4]) Try.func90 (by kernel_rfl) (by rw [Try.ntmps90]; exact Nat.le_of_ble_eq_true (by kernel_rfl)) (by kernel_rfl) c90_l
    (F90_5_ok R l0 s1 [] w _ rfl rfl h) u

/-! function 110: (*cabinetry/cabinetryref24.worst).around -/
noncomputable def c110_0 : Code := itemAt (flat (bodyOf Try.f110)) 0
noncomputable def c110_1 : Code := itemAt (flat (bodyOf Try.f110)) 1
noncomputable def c110_2 : Code := itemAt (flat (bodyOf Try.f110)) 2
noncomputable def c110_3 : Code := itemAt (flat (bodyOf Try.f110)) 3
noncomputable def c110_4 : Code := itemAt (flat (bodyOf Try.f110)) 4
noncomputable def c110_5 : Code := itemAt (flat (bodyOf Try.f110)) 5
noncomputable def c110_6 : Code := itemAt (flat (bodyOf Try.f110)) 6
noncomputable def c110_7 : Code := itemAt (flat (bodyOf Try.f110)) 7
noncomputable def c110_8 : Code := itemAt (flat (bodyOf Try.f110)) 8
noncomputable def c110_9 : Code := itemAt (flat (bodyOf Try.f110)) 9
noncomputable def c110_10 : Code := itemAt (flat (bodyOf Try.f110)) 10
noncomputable def c110_11 : Code := itemAt (flat (bodyOf Try.f110)) 11
noncomputable def c110_12 : Code := itemAt (flat (bodyOf Try.f110)) 12
noncomputable def c110_13 : Code := itemAt (flat (bodyOf Try.f110)) 13
noncomputable def c110_14 : Code := itemAt (flat (bodyOf Try.f110)) 14
noncomputable def c110_11_0 : Code := itemAt (flat (innerC c110_11)) 0
noncomputable def c110_11_0_0 : Code := itemAt (flat (innerC c110_11_0)) 0
noncomputable def c110_11_0_1 : Code := itemAt (flat (innerC c110_11_0)) 1
noncomputable def c110_11_0_2 : Code := itemAt (flat (innerC c110_11_0)) 2
noncomputable def c110_11_0_3 : Code := itemAt (flat (innerC c110_11_0)) 3
noncomputable def c110_11_0_2_0 : Code := itemAt (flat (innerC c110_11_0_2)) 0
noncomputable def c110_11_0_2_1 : Code := itemAt (flat (innerC c110_11_0_2)) 1
noncomputable def c110_11_0_2_2 : Code := itemAt (flat (innerC c110_11_0_2)) 2
noncomputable def c110_11_0_2_3 : Code := itemAt (flat (innerC c110_11_0_2)) 3
noncomputable def c110_11_0_2_3_0 : Code := itemAt (flat (innerC c110_11_0_2_3)) 0
noncomputable def c110_11_0_2_3_0_0 : Code := itemAt (flat (innerC c110_11_0_2_3_0)) 0
noncomputable def c110_11_0_2_3_0_1 : Code := itemAt (flat (innerC c110_11_0_2_3_0)) 1
noncomputable def c110_11_0_2_3_0_2 : Code := itemAt (flat (innerC c110_11_0_2_3_0)) 2
noncomputable def c110_11_0_2_3_0_3 : Code := itemAt (flat (innerC c110_11_0_2_3_0)) 3
noncomputable def c110_11_0_2_3_0_2_0 : Code := itemAt (flat (innerC c110_11_0_2_3_0_2)) 0
noncomputable def c110_11_0_2_3_0_2_1 : Code := itemAt (flat (innerC c110_11_0_2_3_0_2)) 1
noncomputable def c110_11_0_2_3_0_2_2 : Code := itemAt (flat (innerC c110_11_0_2_3_0_2)) 2
noncomputable def c110_11_0_2_3_0_2_2_0 : Code := itemAt (flat (innerC c110_11_0_2_3_0_2_2)) 0
noncomputable def c110_11_0_2_3_0_2_2_0_0 : Code := itemAt (flat (innerC c110_11_0_2_3_0_2_2_0)) 0
noncomputable def c110_11_0_2_3_0_2_2_0_1 : Code := itemAt (flat (innerC c110_11_0_2_3_0_2_2_0)) 1
noncomputable def c110_11_0_2_3_0_2_2_0_2 : Code := itemAt (flat (innerC c110_11_0_2_3_0_2_2_0)) 2
noncomputable def c110_11_0_2_3_0_2_2_0_3 : Code := itemAt (flat (innerC c110_11_0_2_3_0_2_2_0)) 3
noncomputable def c110_11_0_2_3_0_2_2_0_2_0 : Code := itemAt (flat (innerC c110_11_0_2_3_0_2_2_0_2)) 0
noncomputable def c110_11_0_2_3_0_2_2_0_2_1 : Code := itemAt (flat (innerC c110_11_0_2_3_0_2_2_0_2)) 1
noncomputable def c110_11_0_2_3_0_2_2_0_2_2 : Code := itemAt (flat (innerC c110_11_0_2_3_0_2_2_0_2)) 2
noncomputable def c110_11_0_2_3_0_2_2_0_2_3 : Code := itemAt (flat (innerC c110_11_0_2_3_0_2_2_0_2)) 3
noncomputable def c110_11_0_2_3_0_2_2_0_2_4 : Code := itemAt (flat (innerC c110_11_0_2_3_0_2_2_0_2)) 4
noncomputable def c110_11_0_2_3_0_2_2_0_2_5 : Code := itemAt (flat (innerC c110_11_0_2_3_0_2_2_0_2)) 5
noncomputable def c110_11_0_2_3_0_2_2_0_2_5_0 : Code := itemAt (flat (innerC c110_11_0_2_3_0_2_2_0_2_5)) 0
noncomputable def c110_11_0_2_3_0_2_2_0_2_5_0_0 : Code := itemAt (flat (innerC c110_11_0_2_3_0_2_2_0_2_5_0)) 0
noncomputable def c110_11_0_2_3_0_2_2_0_2_5_0_1 : Code := itemAt (flat (innerC c110_11_0_2_3_0_2_2_0_2_5_0)) 1
noncomputable def c110_11_0_2_3_0_2_2_0_2_5_0_2 : Code := itemAt (flat (innerC c110_11_0_2_3_0_2_2_0_2_5_0)) 2
noncomputable def c110_11_0_2_3_0_2_2_0_2_5_0_3 : Code := itemAt (flat (innerC c110_11_0_2_3_0_2_2_0_2_5_0)) 3
noncomputable def c110_7_0 : Code := itemAt (flat (innerC c110_7)) 0
noncomputable def c110_7_0_0 : Code := itemAt (flat (innerC c110_7_0)) 0
noncomputable def c110_7_0_1 : Code := itemAt (flat (innerC c110_7_0)) 1
noncomputable def c110_7_0_2 : Code := itemAt (flat (innerC c110_7_0)) 2
noncomputable def c110_7_0_3 : Code := itemAt (flat (innerC c110_7_0)) 3
def F110_q1 (R : Rt) : EQ := endQ Try.prog Try.f110.results.toList R
def F110_1 (R : Rt) (p0 : Option Addr) (p8 : Option Addr) (p9 : Option Addr) (p12 : Option Addr) (ds : Ds) (w : World) : Prop :=
 dwE w fun w1 =>
 ptrE p0 fun a2 =>
 ∃ m141 : Option Nat, w1.cell? (a2.add 2) = some (.map m141) ∧
 ptrE p9 fun a3 =>
 ∃ n142_0 : Int, w1.cell? (a3.add 0) = some (.int .i64 n142_0) ∧
 ∃ n142_1 : Int, w1.cell? (a3.add 1) = some (.int .i64 n142_1) ∧
 ∃ n142_2 : Int, w1.cell? (a3.add 2) = some (.int .i64 n142_2) ∧
 ptrE p12 fun a4 =>
 ∃ n143_0 : Int, w1.cell? (a4.add 0) = some (.int .i64 n143_0) ∧
 ∃ n143_1 : Int, w1.cell? (a4.add 1) = some (.int .i64 n143_1) ∧
 ∃ n143_2 : Int, w1.cell? (a4.add 2) = some (.int .i64 n143_2) ∧
 ∃ n143_3 : Int, w1.cell? (a4.add 3) = some (.int .i64 n143_3) ∧
 ∃ n143_4 : Int, w1.cell? (a4.add 4) = some (.int .i64 n143_4) ∧
 ∃ n143_5 : Int, w1.cell? (a4.add 5) = some (.int .i64 n143_5) ∧
 ∃ n143_6 : Int, w1.cell? (a4.add 6) = some (.int .i64 n143_6) ∧
 ∃ n143_7 : Int, w1.cell? (a4.add 7) = some (.int .i64 n143_7) ∧
 ∃ n143_8 : Int, w1.cell? (a4.add 8) = some (.int .i64 n143_8) ∧
 ∃ n143_9 : Int, w1.cell? (a4.add 9) = some (.int .i64 n143_9) ∧
 ∃ n143_10 : Int, w1.cell? (a4.add 10) = some (.int .i64 n143_10) ∧
 ∃ n143_11 : Int, w1.cell? (a4.add 11) = some (.int .i64 n143_11) ∧
 ∃ n143_12 : Int, w1.cell? (a4.add 12) = some (.int .i64 n143_12) ∧
 ∃ n143_13 : Int, w1.cell? (a4.add 13) = some (.int .i64 n143_13) ∧
 ∃ n143_14 : Int, w1.cell? (a4.add 14) = some (.int .i64 n143_14) ∧
 ∃ n143_15 : Int, w1.cell? (a4.add 15) = some (.int .i64 n143_15) ∧
 doE Try.prog (Instr.mapUpdate 112 (.map m141) (.agg #[.int .i64 n142_0, .int .i64 n142_1, .int .i64 n142_2]) (.agg #[.int .i64 n143_0, .int .i64 n143_1, .int .i64 n143_2, .int .i64 n143_3, .int .i64 n143_4, .int .i64 n143_5, .int .i64 n143_6, .int .i64 n143_7, .int .i64 n143_8, .int .i64 n143_9, .int .i64 n143_10, .int .i64 n143_11, .int .i64 n143_12, .int .i64 n143_13, .int .i64 n143_14, .int .i64 n143_15])) w1 fun w5 =>
 ptrE p12 fun a6 =>
 ∃ n144_0 : Int, w5.cell? (a6.add 0) = some (.int .i64 n144_0) ∧
 ∃ n144_1 : Int, w5.cell? (a6.add 1) = some (.int .i64 n144_1) ∧
 ∃ n144_2 : Int, w5.cell? (a6.add 2) = some (.int .i64 n144_2) ∧
 ∃ n144_3 : Int, w5.cell? (a6.add 3) = some (.int .i64 n144_3) ∧
 ∃ n144_4 : Int, w5.cell? (a6.add 4) = some (.int .i64 n144_4) ∧
 ∃ n144_5 : Int, w5.cell? (a6.add 5) = some (.int .i64 n144_5) ∧
 ∃ n144_6 : Int, w5.cell? (a6.add 6) = some (.int .i64 n144_6) ∧
 ∃ n144_7 : Int, w5.cell? (a6.add 7) = some (.int .i64 n144_7) ∧
 ∃ n144_8 : Int, w5.cell? (a6.add 8) = some (.int .i64 n144_8) ∧
 ∃ n144_9 : Int, w5.cell? (a6.add 9) = some (.int .i64 n144_9) ∧
 ∃ n144_10 : Int, w5.cell? (a6.add 10) = some (.int .i64 n144_10) ∧
 ∃ n144_11 : Int, w5.cell? (a6.add 11) = some (.int .i64 n144_11) ∧
 ∃ n144_12 : Int, w5.cell? (a6.add 12) = some (.int .i64 n144_12) ∧
 ∃ n144_13 : Int, w5.cell? (a6.add 13) = some (.int .i64 n144_13) ∧
 ∃ n144_14 : Int, w5.cell? (a6.add 14) = some (.int .i64 n144_14) ∧
 ∃ n144_15 : Int, w5.cell? (a6.add 15) = some (.int .i64 n144_15) ∧
 ptrE p8 fun a7 =>
 stA Try.prog 77 a7 #[.int .i64 n144_0, .int .i64 n144_1, .int .i64 n144_2, .int .i64 n144_3, .int .i64 n144_4, .int .i64 n144_5, .int .i64 n144_6, .int .i64 n144_7, .int .i64 n144_8, .int .i64 n144_9, .int .i64 n144_10, .int .i64 n144_11, .int .i64 n144_12, .int .i64 n144_13, .int .i64 n144_14, .int .i64 n144_15] w5 fun w8 =>
 runD Try.prog ds w8 fun w9 =>
 ptrE p8 fun a10 =>
 ∃ nR0_0 : Int, w9.cell? (a10.add 0) = some (.int .i64 nR0_0) ∧
 ∃ nR0_1 : Int, w9.cell? (a10.add 1) = some (.int .i64 nR0_1) ∧
 ∃ nR0_2 : Int, w9.cell? (a10.add 2) = some (.int .i64 nR0_2) ∧
 ∃ nR0_3 : Int, w9.cell? (a10.add 3) = some (.int .i64 nR0_3) ∧
 ∃ nR0_4 : Int, w9.cell? (a10.add 4) = some (.int .i64 nR0_4) ∧
 ∃ nR0_5 : Int, w9.cell? (a10.add 5) = some (.int .i64 nR0_5) ∧
 ∃ nR0_6 : Int, w9.cell? (a10.add 6) = some (.int .i64 nR0_6) ∧
 ∃ nR0_7 : Int, w9.cell? (a10.add 7) = some (.int .i64 nR0_7) ∧
 ∃ nR0_8 : Int, w9.cell? (a10.add 8) = some (.int .i64 nR0_8) ∧
 ∃ nR0_9 : Int, w9.cell? (a10.add 9) = some (.int .i64 nR0_9) ∧
 ∃ nR0_10 : Int, w9.cell? (a10.add 10) = some (.int .i64 nR0_10) ∧
 ∃ nR0_11 : Int, w9.cell? (a10.add 11) = some (.int .i64 nR0_11) ∧
 ∃ nR0_12 : Int, w9.cell? (a10.add 12) = some (.int .i64 nR0_12) ∧
 ∃ nR0_13 : Int, w9.cell? (a10.add 13) = some (.int .i64 nR0_13) ∧
 ∃ nR0_14 : Int, w9.cell? (a10.add 14) = some (.int .i64 nR0_14) ∧
 ∃ nR0_15 : Int, w9.cell? (a10.add 15) = some (.int .i64 nR0_15) ∧
 R (.returned (.agg #[.int .i64 nR0_0, .int .i64 nR0_1, .int .i64 nR0_2, .int .i64 nR0_3, .int .i64 nR0_4, .int .i64 nR0_5, .int .i64 nR0_6, .int .i64 nR0_7, .int .i64 nR0_8, .int .i64 nR0_9, .int .i64 nR0_10, .int .i64 nR0_11, .int .i64 nR0_12, .int .i64 nR0_13, .int .i64 nR0_14, .int .i64 nR0_15])) w9
def F110_k2 (R : Rt) : EP := (fun ρ ds w => dPtr (ρ 0) fun p0 => dPtr (ρ 8) fun p8 => dPtr (ρ 9) fun p9 => dPtr (ρ 12) fun p12 => F110_1 R p0 p8 p9 p12 ds w)
def F110_q3 (R : Rt) : EQ := (thenQ (F110_k2 R) (F110_q1 R))
def F110_q4 (R : Rt) : EQ := (blockQ 2 (F110_q3 R))
def F110_q5 (R : Rt) (J1 : (Int) → World → Prop) : EQ := (thenQ (fun ρ _ w => dInt .i64 (ρ 14) fun n14 => J1 n14 w) (F110_q4 R))
def F110_2 (R : Rt) (J1 : (Int) → World → Prop) (p0 : Option Addr) (n1 : Int) (n2 : Int) (n3 : Int) (p8 : Option Addr) (p9 : Option Addr) (p12 : Option Addr) (n14 : Int) (ds : Ds) (w : World) : Prop :=
 J1 (IntKind.i64.wrap (n14 + 1)) w
def F110_k6 (R : Rt) (J1 : (Int) → World → Prop) : EP := (fun ρ ds w => dPtr (ρ 0) fun p0 => dInt .i64 (ρ 1) fun n1 => dInt .i64 (ρ 2) fun n2 => dInt .i64 (ρ 3) fun n3 => dPtr (ρ 8) fun p8 => dPtr (ρ 9) fun p9 => dPtr (ρ 12) fun p12 => dInt .i64 (ρ 14) fun n14 => F110_2 R J1 p0 n1 n2 n3 p8 p9 p12 n14 ds w)
def F110_q7 (R : Rt) (J1 : (Int) → World → Prop) : EQ := (thenQ (F110_k6 R J1) (F110_q5 R J1))
def F110_q8 (R : Rt) (J1 : (Int) → World → Prop) : EQ := (blockQ 3 (F110_q7 R J1))
def F110_q9 (R : Rt) (J1 : (Int) → World → Prop) : EQ := (blockQ 4 (F110_q8 R J1))
def F110_q10 (R : Rt) (J1 : (Int) → World → Prop) (J2 : (Int) → World → Prop) : EQ := (thenQ (fun ρ _ w => dInt .i64 (ρ 18) fun n18 => J2 n18 w) (F110_q9 R J1))
def F110_3 (R : Rt) (J1 : (Int) → World → Prop) (J2 : (Int) → World → Prop) (p0 : Option Addr) (n1 : Int) (n2 : Int) (n3 : Int) (p8 : Option Addr) (p9 : Option Addr) (p12 : Option Addr) (n14 : Int) (n15 : Int) (n16 : Int) (n17 : Int) (n18 : Int) (ds : Ds) (w : World) : Prop :=
 J2 (IntKind.i64.wrap (n18 + 1)) w
def F110_k11 (R : Rt) (J1 : (Int) → World → Prop) (J2 : (Int) → World → Prop) : EP := (fun ρ ds w => dPtr (ρ 0) fun p0 => dInt .i64 (ρ 1) fun n1 => dInt .i64 (ρ 2) fun n2 => dInt .i64 (ρ 3) fun n3 => dPtr (ρ 8) fun p8 => dPtr (ρ 9) fun p9 => dPtr (ρ 12) fun p12 => dInt .i64 (ρ 14) fun n14 => dInt .i64 (ρ 15) fun n15 => dInt .i64 (ρ 16) fun n16 => dInt .i64 (ρ 17) fun n17 => dInt .i64 (ρ 18) fun n18 => F110_3 R J1 J2 p0 n1 n2 n3 p8 p9 p12 n14 n15 n16 n17 n18 ds w)
def F110_q12 (R : Rt) (J1 : (Int) → World → Prop) (J2 : (Int) → World → Prop) : EQ := (thenQ (F110_k11 R J1 J2) (F110_q10 R J1 J2))
def F110_q13 (R : Rt) (J1 : (Int) → World → Prop) (J2 : (Int) → World → Prop) : EQ := (blockQ 5 (F110_q12 R J1 J2))
def F110_q14 (R : Rt) (J1 : (Int) → World → Prop) (J2 : (Int) → World → Prop) : EQ := (blockQ 6 (F110_q13 R J1 J2))
def F110_q15 (R : Rt) (J1 : (Int) → World → Prop) (J2 : (Int) → World → Prop) (J3 : (Int) → World → Prop) : EQ := (thenQ (fun ρ _ w => dInt .i64 (ρ 20) fun n20 => J3 n20 w) (F110_q14 R J1 J2))
def F110_4 (R : Rt) (J1 : (Int) → World → Prop) (J2 : (Int) → World → Prop) (J3 : (Int) → World → Prop) (p0 : Option Addr) (n1 : Int) (n2 : Int) (n3 : Int) (p8 : Option Addr) (p9 : Option Addr) (p12 : Option Addr) (n14 : Int) (n15 : Int) (n16 : Int) (n17 : Int) (n18 : Int) (p19 : Option Addr) (n20 : Int) (ds : Ds) (w : World) : Prop :=
 J3 (IntKind.i64.wrap (n20 + 1)) w
def F110_k16 (R : Rt) (J1 : (Int) → World → Prop) (J2 : (Int) → World → Prop) (J3 : (Int) → World → Prop) : EP := (fun ρ ds w => dPtr (ρ 0) fun p0 => dInt .i64 (ρ 1) fun n1 => dInt .i64 (ρ 2) fun n2 => dInt .i64 (ρ 3) fun n3 => dPtr (ρ 8) fun p8 => dPtr (ρ 9) fun p9 => dPtr (ρ 12) fun p12 => dInt .i64 (ρ 14) fun n14 => dInt .i64 (ρ 15) fun n15 => dInt .i64 (ρ 16) fun n16 => dInt .i64 (ρ 17) fun n17 => dInt .i64 (ρ 18) fun n18 => dPtr (ρ 19) fun p19 => dInt .i64 (ρ 20) fun n20 => F110_4 R J1 J2 J3 p0 n1 n2 n3 p8 p9 p12 n14 n15 n16 n17 n18 p19 n20 ds w)
def F110_q17 (R : Rt) (J1 : (Int) → World → Prop) (J2 : (Int) → World → Prop) (J3 : (Int) → World → Prop) : EQ := (thenQ (F110_k16 R J1 J2 J3) (F110_q15 R J1 J2 J3))
def F110_q18 (R : Rt) (J1 : (Int) → World → Prop) (J2 : (Int) → World → Prop) (J3 : (Int) → World → Prop) : EQ := (blockQ 7 (F110_q17 R J1 J2 J3))
def F110_q19 (R : Rt) (J1 : (Int) → World → Prop) (J2 : (Int) → World → Prop) (J3 : (Int) → World → Prop) : EQ := (blockQ 8 (F110_q18 R J1 J2 J3))
def F110_q20 (R : Rt) (J1 : (Int) → World → Prop) (J2 : (Int) → World → Prop) (J3 : (Int) → World → Prop) (J4 : (Int) → World → Prop) : EQ := (thenQ (fun ρ _ w => dInt .i64 (ρ 24) fun n24 => J4 n24 w) (F110_q19 R J1 J2 J3))
def F110_5 (R : Rt) (J1 : (Int) → World → Prop) (J2 : (Int) → World → Prop) (J3 : (Int) → World → Prop) (J4 : (Int) → World → Prop) (p0 : Option Addr) (n1 : Int) (n2 : Int) (n3 : Int) (p8 : Option Addr) (p9 : Option Addr) (p12 : Option Addr) (n14 : Int) (n15 : Int) (n16 : Int) (n17 : Int) (n18 : Int) (p19 : Option Addr) (n20 : Int) (n22 : Int) (p23 : Option Addr) (n24 : Int) (ds : Ds) (w : World) : Prop :=
 Br (decide (n24 < 16)) (
 ptrE p23 fun a11 =>
 0 ≤ n24 ∧ n24 < ((16 : Nat) : Int) ∧
 ∃ n119 : Int, w.cell? (a11.add (n24.toNat * 1)) = some (.int .i64 n119) ∧
 Br (n119 != (-1073741824)) (
 dwE w fun w12 =>
 ptrE p12 fun a13 =>
 0 ≤ n24 ∧ n24 < ((16 : Nat) : Int) ∧
 ∃ n124 : Int, w12.cell? (a13.add (n24.toNat * 1)) = some (.int .i64 n124) ∧
 ptrE p19 fun a14 =>
 0 ≤ n20 ∧ n20 < ((16 : Nat) : Int) ∧
 ∃ n128 : Int, w12.cell? (a14.add (n20.toNat * 1)) = some (.int .i64 n128) ∧
 ptrE p23 fun a15 =>
 0 ≤ n24 ∧ n24 < ((16 : Nat) : Int) ∧
 ∃ n134 : Int, w12.cell? (a15.add (n24.toNat * 1)) = some (.int .i64 n134) ∧
 ∃ n136 : Int, ∃ w16 : World, (Builtin.max_ #[3, 3] 3 #[.int .i64 n124, .int .i64 (IntKind.i64.wrap ((IntKind.i64.wrap ((IntKind.i64.wrap (n17 + n128)) + n22)) + n134))]).run Try.prog w12 = .ok (.int .i64 n136) w16 ∧
 ptrE p12 fun a17 =>
 0 ≤ n24 ∧ n24 < ((16 : Nat) : Int) ∧
 st1 (a17.add (n24.toNat * 1)) (.int .i64 n136) w16 fun w18 =>
 J4 (IntKind.i64.wrap (n24 + 1)) w18) (
 J4 (IntKind.i64.wrap (n24 + 1)) w)) (
 F110_4 R J1 J2 J3 p0 n1 n2 n3 p8 p9 p12 n14 n15 n16 n17 n18 p19 n20 ds w)
def F110_6 (R : Rt) (J1 : (Int) → World → Prop) (J2 : (Int) → World → Prop) (J3 : (Int) → World → Prop) (p0 : Option Addr) (n1 : Int) (n2 : Int) (n3 : Int) (p8 : Option Addr) (p9 : Option Addr) (p12 : Option Addr) (n14 : Int) (n15 : Int) (n16 : Int) (n17 : Int) (n18 : Int) (p19 : Option Addr) (n20 : Int) (n22 : Int) (p23 : Option Addr) (n24 : Int) (ds : Ds) (w : World) : Prop :=
 loopT (fun (J4 : (Int) → World → Prop) (s : Int) (w : World) => F110_5 R J1 J2 J3 J4 p0 n1 n2 n3 p8 p9 p12 n14 n15 n16 n17 n18 p19 n20 n22 p23 s ds w) n24 w
@[reducible] def F110_7 (R : Rt) (J1 : (Int) → World → Prop) (J2 : (Int) → World → Prop) (J3 : (Int) → World → Prop) (p0 : Option Addr) (n1 : Int) (n2 : Int) (n3 : Int) (p8 : Option Addr) (p9 : Option Addr) (p12 : Option Addr) (n14 : Int) (n15 : Int) (n16 : Int) (n17 : Int) (n18 : Int) (p19 : Option Addr) (n20 : Int) (n22 : Int) (p23 : Option Addr) (n24 : Int) (ds : Ds) (w : World) : Prop := F110_6 R J1 J2 J3 p0 n1 n2 n3 p8 p9 p12 n14 n15 n16 n17 n18 p19 n20 n22 p23 n24 ds w
def F110_k21 (R : Rt) (J1 : (Int) → World → Prop) (J2 : (Int) → World → Prop) (J3 : (Int) → World → Prop) : EP := (fun ρ ds w => dPtr (ρ 0) fun p0 => dInt .i64 (ρ 1) fun n1 => dInt .i64 (ρ 2) fun n2 => dInt .i64 (ρ 3) fun n3 => dPtr (ρ 8) fun p8 => dPtr (ρ 9) fun p9 => dPtr (ρ 12) fun p12 => dInt .i64 (ρ 14) fun n14 => dInt .i64 (ρ 15) fun n15 => dInt .i64 (ρ 16) fun n16 => dInt .i64 (ρ 17) fun n17 => dInt .i64 (ρ 18) fun n18 => dPtr (ρ 19) fun p19 => dInt .i64 (ρ 20) fun n20 => dInt .i64 (ρ 22) fun n22 => dPtr (ρ 23) fun p23 => dInt .i64 (ρ 24) fun n24 => F110_7 R J1 J2 J3 p0 n1 n2 n3 p8 p9 p12 n14 n15 n16 n17 n18 p19 n20 n22 p23 n24 ds w)
def F110_8 (R : Rt) (J1 : (Int) → World → Prop) (J2 : (Int) → World → Prop) (J3 : (Int) → World → Prop) (p0 : Option Addr) (n1 : Int) (n2 : Int) (n3 : Int) (p8 : Option Addr) (p9 : Option Addr) (p12 : Option Addr) (n14 : Int) (n15 : Int) (n16 : Int) (n17 : Int) (n18 : Int) (p19 : Option Addr) (n20 : Int) (ds : Ds) (w : World) : Prop :=
 ptrE p19 fun a19 =>
 0 ≤ n20 ∧ n20 < ((16 : Nat) : Int) ∧
 ∃ n96 : Int, w.cell? (a19.add (n20.toNat * 1)) = some (.int .i64 n96) ∧
 Br (n96 == (-1073741824)) (
 F110_4 R J1 J2 J3 p0 n1 n2 n3 p8 p9 p12 n14 n15 n16 n17 n18 p19 n20 ds w) (
 Calls Try.prog 88 #[.pointer p0, .int .i64 n1, .int .i64 n20] w fun e w20 =>
 ∃ n102_0 : Int, ∃ n102_1 : Int, e = .returned (.tuple #[.int .i64 n102_0, .int .i64 n102_1]) ∧
 Calls Try.prog 110 #[.pointer p0, .int .i64 n1, .int .i64 n102_0, .int .i64 (IntKind.i64.wrap ((IntKind.i64.wrap (n3 - n18)) - 2))] w20 fun e w21 =>
 ∃ n112_0 : Int, ∃ n112_1 : Int, ∃ n112_2 : Int, ∃ n112_3 : Int, ∃ n112_4 : Int, ∃ n112_5 : Int, ∃ n112_6 : Int, ∃ n112_7 : Int, ∃ n112_8 : Int, ∃ n112_9 : Int, ∃ n112_10 : Int, ∃ n112_11 : Int, ∃ n112_12 : Int, ∃ n112_13 : Int, ∃ n112_14 : Int, ∃ n112_15 : Int, e = .returned (.agg #[.int .i64 n112_0, .int .i64 n112_1, .int .i64 n112_2, .int .i64 n112_3, .int .i64 n112_4, .int .i64 n112_5, .int .i64 n112_6, .int .i64 n112_7, .int .i64 n112_8, .int .i64 n112_9, .int .i64 n112_10, .int .i64 n112_11, .int .i64 n112_12, .int .i64 n112_13, .int .i64 n112_14, .int .i64 n112_15]) ∧
 alE (.cells #[.int .i64 0, .int .i64 0, .int .i64 0, .int .i64 0, .int .i64 0, .int .i64 0, .int .i64 0, .int .i64 0, .int .i64 0, .int .i64 0, .int .i64 0, .int .i64 0, .int .i64 0, .int .i64 0, .int .i64 0, .int .i64 0] 77) w21 fun r23 w22 =>
 stA Try.prog 77 (⟨r23, 0, none⟩ : Addr) #[.int .i64 n112_0, .int .i64 n112_1, .int .i64 n112_2, .int .i64 n112_3, .int .i64 n112_4, .int .i64 n112_5, .int .i64 n112_6, .int .i64 n112_7, .int .i64 n112_8, .int .i64 n112_9, .int .i64 n112_10, .int .i64 n112_11, .int .i64 n112_12, .int .i64 n112_13, .int .i64 n112_14, .int .i64 n112_15] w22 fun w23 =>
 F110_7 R J1 J2 J3 p0 n1 n2 n3 p8 p9 p12 n14 n15 n16 n17 n18 p19 n20 n102_1 (some (⟨r23, 0, none⟩ : Addr)) 0 ds w23)
@[reducible] def F110_9 (R : Rt) (J1 : (Int) → World → Prop) (J2 : (Int) → World → Prop) (J3 : (Int) → World → Prop) (p0 : Option Addr) (n1 : Int) (n2 : Int) (n3 : Int) (p8 : Option Addr) (p9 : Option Addr) (p12 : Option Addr) (n14 : Int) (n15 : Int) (n16 : Int) (n17 : Int) (n18 : Int) (p19 : Option Addr) (n20 : Int) (ds : Ds) (w : World) : Prop := F110_8 R J1 J2 J3 p0 n1 n2 n3 p8 p9 p12 n14 n15 n16 n17 n18 p19 n20 ds w
def F110_k22 (R : Rt) (J1 : (Int) → World → Prop) (J2 : (Int) → World → Prop) (J3 : (Int) → World → Prop) : EP := (fun ρ ds w => dPtr (ρ 0) fun p0 => dInt .i64 (ρ 1) fun n1 => dInt .i64 (ρ 2) fun n2 => dInt .i64 (ρ 3) fun n3 => dPtr (ρ 8) fun p8 => dPtr (ρ 9) fun p9 => dPtr (ρ 12) fun p12 => dInt .i64 (ρ 14) fun n14 => dInt .i64 (ρ 15) fun n15 => dInt .i64 (ρ 16) fun n16 => dInt .i64 (ρ 17) fun n17 => dInt .i64 (ρ 18) fun n18 => dPtr (ρ 19) fun p19 => dInt .i64 (ρ 20) fun n20 => F110_9 R J1 J2 J3 p0 n1 n2 n3 p8 p9 p12 n14 n15 n16 n17 n18 p19 n20 ds w)
def F110_10 (R : Rt) (J1 : (Int) → World → Prop) (J2 : (Int) → World → Prop) (J3 : (Int) → World → Prop) (p0 : Option Addr) (n1 : Int) (n2 : Int) (n3 : Int) (p8 : Option Addr) (p9 : Option Addr) (p12 : Option Addr) (n14 : Int) (n15 : Int) (n16 : Int) (n17 : Int) (n18 : Int) (p19 : Option Addr) (n20 : Int) (ds : Ds) (w : World) : Prop :=
 Br (decide (n20 < 16)) (
 F110_9 R J1 J2 J3 p0 n1 n2 n3 p8 p9 p12 n14 n15 n16 n17 n18 p19 n20 ds w) (
 F110_3 R J1 J2 p0 n1 n2 n3 p8 p9 p12 n14 n15 n16 n17 n18 ds w)
def F110_11 (R : Rt) (J1 : (Int) → World → Prop) (J2 : (Int) → World → Prop) (p0 : Option Addr) (n1 : Int) (n2 : Int) (n3 : Int) (p8 : Option Addr) (p9 : Option Addr) (p12 : Option Addr) (n14 : Int) (n15 : Int) (n16 : Int) (n17 : Int) (n18 : Int) (p19 : Option Addr) (n20 : Int) (ds : Ds) (w : World) : Prop :=
 loopT (fun (J3 : (Int) → World → Prop) (s : Int) (w : World) => F110_10 R J1 J2 J3 p0 n1 n2 n3 p8 p9 p12 n14 n15 n16 n17 n18 p19 s ds w) n20 w
@[reducible] def F110_12 (R : Rt) (J1 : (Int) → World → Prop) (J2 : (Int) → World → Prop) (p0 : Option Addr) (n1 : Int) (n2 : Int) (n3 : Int) (p8 : Option Addr) (p9 : Option Addr) (p12 : Option Addr) (n14 : Int) (n15 : Int) (n16 : Int) (n17 : Int) (n18 : Int) (p19 : Option Addr) (n20 : Int) (ds : Ds) (w : World) : Prop := F110_11 R J1 J2 p0 n1 n2 n3 p8 p9 p12 n14 n15 n16 n17 n18 p19 n20 ds w
def F110_k23 (R : Rt) (J1 : (Int) → World → Prop) (J2 : (Int) → World → Prop) : EP := (fun ρ ds w => dPtr (ρ 0) fun p0 => dInt .i64 (ρ 1) fun n1 => dInt .i64 (ρ 2) fun n2 => dInt .i64 (ρ 3) fun n3 => dPtr (ρ 8) fun p8 => dPtr (ρ 9) fun p9 => dPtr (ρ 12) fun p12 => dInt .i64 (ρ 14) fun n14 => dInt .i64 (ρ 15) fun n15 => dInt .i64 (ρ 16) fun n16 => dInt .i64 (ρ 17) fun n17 => dInt .i64 (ρ 18) fun n18 => dPtr (ρ 19) fun p19 => dInt .i64 (ρ 20) fun n20 => F110_12 R J1 J2 p0 n1 n2 n3 p8 p9 p12 n14 n15 n16 n17 n18 p19 n20 ds w)
def F110_13 (R : Rt) (J1 : (Int) → World → Prop) (J2 : (Int) → World → Prop) (p0 : Option Addr) (n1 : Int) (n2 : Int) (n3 : Int) (p8 : Option Addr) (p9 : Option Addr) (p12 : Option Addr) (n14 : Int) (n15 : Int) (n16 : Int) (n17 : Int) (n18 : Int) (ds : Ds) (w : World) : Prop :=
 Calls Try.prog 110 #[.pointer p0, .int .i64 n15, .int .i64 n16, .int .i64 n18] w fun e w24 =>
 ∃ n89_0 : Int, ∃ n89_1 : Int, ∃ n89_2 : Int, ∃ n89_3 : Int, ∃ n89_4 : Int, ∃ n89_5 : Int, ∃ n89_6 : Int, ∃ n89_7 : Int, ∃ n89_8 : Int, ∃ n89_9 : Int, ∃ n89_10 : Int, ∃ n89_11 : Int, ∃ n89_12 : Int, ∃ n89_13 : Int, ∃ n89_14 : Int, ∃ n89_15 : Int, e = .returned (.agg #[.int .i64 n89_0, .int .i64 n89_1, .int .i64 n89_2, .int .i64 n89_3, .int .i64 n89_4, .int .i64 n89_5, .int .i64 n89_6, .int .i64 n89_7, .int .i64 n89_8, .int .i64 n89_9, .int .i64 n89_10, .int .i64 n89_11, .int .i64 n89_12, .int .i64 n89_13, .int .i64 n89_14, .int .i64 n89_15]) ∧
 alE (.cells #[.int .i64 0, .int .i64 0, .int .i64 0, .int .i64 0, .int .i64 0, .int .i64 0, .int .i64 0, .int .i64 0, .int .i64 0, .int .i64 0, .int .i64 0, .int .i64 0, .int .i64 0, .int .i64 0, .int .i64 0, .int .i64 0] 77) w24 fun r19 w25 =>
 stA Try.prog 77 (⟨r19, 0, none⟩ : Addr) #[.int .i64 n89_0, .int .i64 n89_1, .int .i64 n89_2, .int .i64 n89_3, .int .i64 n89_4, .int .i64 n89_5, .int .i64 n89_6, .int .i64 n89_7, .int .i64 n89_8, .int .i64 n89_9, .int .i64 n89_10, .int .i64 n89_11, .int .i64 n89_12, .int .i64 n89_13, .int .i64 n89_14, .int .i64 n89_15] w25 fun w26 =>
 F110_12 R J1 J2 p0 n1 n2 n3 p8 p9 p12 n14 n15 n16 n17 n18 (some (⟨r19, 0, none⟩ : Addr)) 0 ds w26
@[reducible] def F110_14 (R : Rt) (J1 : (Int) → World → Prop) (J2 : (Int) → World → Prop) (p0 : Option Addr) (n1 : Int) (n2 : Int) (n3 : Int) (p8 : Option Addr) (p9 : Option Addr) (p12 : Option Addr) (n14 : Int) (n15 : Int) (n16 : Int) (n17 : Int) (n18 : Int) (ds : Ds) (w : World) : Prop := F110_13 R J1 J2 p0 n1 n2 n3 p8 p9 p12 n14 n15 n16 n17 n18 ds w
def F110_k24 (R : Rt) (J1 : (Int) → World → Prop) (J2 : (Int) → World → Prop) : EP := (fun ρ ds w => dPtr (ρ 0) fun p0 => dInt .i64 (ρ 1) fun n1 => dInt .i64 (ρ 2) fun n2 => dInt .i64 (ρ 3) fun n3 => dPtr (ρ 8) fun p8 => dPtr (ρ 9) fun p9 => dPtr (ρ 12) fun p12 => dInt .i64 (ρ 14) fun n14 => dInt .i64 (ρ 15) fun n15 => dInt .i64 (ρ 16) fun n16 => dInt .i64 (ρ 17) fun n17 => dInt .i64 (ρ 18) fun n18 => F110_14 R J1 J2 p0 n1 n2 n3 p8 p9 p12 n14 n15 n16 n17 n18 ds w)
def F110_15 (R : Rt) (J1 : (Int) → World → Prop) (J2 : (Int) → World → Prop) (p0 : Option Addr) (n1 : Int) (n2 : Int) (n3 : Int) (p8 : Option Addr) (p9 : Option Addr) (p12 : Option Addr) (n14 : Int) (n15 : Int) (n16 : Int) (n17 : Int) (n18 : Int) (ds : Ds) (w : World) : Prop :=
 Br (decide ((IntKind.i64.wrap (n18 + 2)) ≤ n3)) (
 F110_14 R J1 J2 p0 n1 n2 n3 p8 p9 p12 n14 n15 n16 n17 n18 ds w) (
 F110_2 R J1 p0 n1 n2 n3 p8 p9 p12 n14 ds w)
def F110_16 (R : Rt) (J1 : (Int) → World → Prop) (p0 : Option Addr) (n1 : Int) (n2 : Int) (n3 : Int) (p8 : Option Addr) (p9 : Option Addr) (p12 : Option Addr) (n14 : Int) (n15 : Int) (n16 : Int) (n17 : Int) (n18 : Int) (ds : Ds) (w : World) : Prop :=
 loopT (fun (J2 : (Int) → World → Prop) (s : Int) (w : World) => F110_15 R J1 J2 p0 n1 n2 n3 p8 p9 p12 n14 n15 n16 n17 s ds w) n18 w
@[reducible] def F110_17 (R : Rt) (J1 : (Int) → World → Prop) (p0 : Option Addr) (n1 : Int) (n2 : Int) (n3 : Int) (p8 : Option Addr) (p9 : Option Addr) (p12 : Option Addr) (n14 : Int) (n15 : Int) (n16 : Int) (n17 : Int) (n18 : Int) (ds : Ds) (w : World) : Prop := F110_16 R J1 p0 n1 n2 n3 p8 p9 p12 n14 n15 n16 n17 n18 ds w
def F110_k25 (R : Rt) (J1 : (Int) → World → Prop) : EP := (fun ρ ds w => dPtr (ρ 0) fun p0 => dInt .i64 (ρ 1) fun n1 => dInt .i64 (ρ 2) fun n2 => dInt .i64 (ρ 3) fun n3 => dPtr (ρ 8) fun p8 => dPtr (ρ 9) fun p9 => dPtr (ρ 12) fun p12 => dInt .i64 (ρ 14) fun n14 => dInt .i64 (ρ 15) fun n15 => dInt .i64 (ρ 16) fun n16 => dInt .i64 (ρ 17) fun n17 => dInt .i64 (ρ 18) fun n18 => F110_17 R J1 p0 n1 n2 n3 p8 p9 p12 n14 n15 n16 n17 n18 ds w)
def F110_18 (R : Rt) (J1 : (Int) → World → Prop) (p0 : Option Addr) (n1 : Int) (n2 : Int) (n3 : Int) (p8 : Option Addr) (p9 : Option Addr) (p12 : Option Addr) (n14 : Int) (ds : Ds) (w : World) : Prop :=
 ptrE p0 fun a27 =>
 ∃ l65 : SV, w.cell? (a27.add 1) = some (.slice l65.a l65.len l65.cap) ∧
 ∃ a28 : Addr, l65.a = some a28 ∧ 0 ≤ n1 ∧ n1 < ((l65.len : Nat) : Int) ∧
 ∃ l68 : SV, w.cell? (a28.add (n1.toNat * 1)) = some (.slice l68.a l68.len l68.cap) ∧
 ∃ a29 : Addr, l68.a = some a29 ∧ 0 ≤ n14 ∧ n14 < ((l68.len : Nat) : Int) ∧
 ∃ n71 : Int, w.cell? (a29.add (n14.toNat * 1)) = some (.int .i64 n71) ∧
 Calls Try.prog 88 #[.pointer p0, .int .i64 n71, .int .i64 n2] w fun e w30 =>
 ∃ n76_0 : Int, ∃ n76_1 : Int, e = .returned (.tuple #[.int .i64 n76_0, .int .i64 n76_1]) ∧
 F110_17 R J1 p0 n1 n2 n3 p8 p9 p12 n14 n71 n76_0 n76_1 0 ds w30
@[reducible] def F110_19 (R : Rt) (J1 : (Int) → World → Prop) (p0 : Option Addr) (n1 : Int) (n2 : Int) (n3 : Int) (p8 : Option Addr) (p9 : Option Addr) (p12 : Option Addr) (n14 : Int) (ds : Ds) (w : World) : Prop := F110_18 R J1 p0 n1 n2 n3 p8 p9 p12 n14 ds w
def F110_k26 (R : Rt) (J1 : (Int) → World → Prop) : EP := (fun ρ ds w => dPtr (ρ 0) fun p0 => dInt .i64 (ρ 1) fun n1 => dInt .i64 (ρ 2) fun n2 => dInt .i64 (ρ 3) fun n3 => dPtr (ρ 8) fun p8 => dPtr (ρ 9) fun p9 => dPtr (ρ 12) fun p12 => dInt .i64 (ρ 14) fun n14 => F110_19 R J1 p0 n1 n2 n3 p8 p9 p12 n14 ds w)
def F110_20 (R : Rt) (J1 : (Int) → World → Prop) (p0 : Option Addr) (n1 : Int) (n2 : Int) (n3 : Int) (p8 : Option Addr) (p9 : Option Addr) (p12 : Option Addr) (n14 : Int) (ds : Ds) (w : World) : Prop :=
 ptrE p0 fun a31 =>
 ∃ l54 : SV, w.cell? (a31.add 1) = some (.slice l54.a l54.len l54.cap) ∧
 ∃ a32 : Addr, l54.a = some a32 ∧ 0 ≤ n1 ∧ n1 < ((l54.len : Nat) : Int) ∧
 ∃ l57 : SV, w.cell? (a32.add (n1.toNat * 1)) = some (.slice l57.a l57.len l57.cap) ∧
 Br (decide (n14 < ((l57.len : Nat) : Int))) (
 F110_19 R J1 p0 n1 n2 n3 p8 p9 p12 n14 ds w) (
 F110_1 R p0 p8 p9 p12 ds w)
def F110_21 (R : Rt) (p0 : Option Addr) (n1 : Int) (n2 : Int) (n3 : Int) (p8 : Option Addr) (p9 : Option Addr) (p12 : Option Addr) (n14 : Int) (ds : Ds) (w : World) : Prop :=
 loopT (fun (J1 : (Int) → World → Prop) (s : Int) (w : World) => F110_20 R J1 p0 n1 n2 n3 p8 p9 p12 s ds w) n14 w
@[reducible] def F110_22 (R : Rt) (p0 : Option Addr) (n1 : Int) (n2 : Int) (n3 : Int) (p8 : Option Addr) (p9 : Option Addr) (p12 : Option Addr) (n14 : Int) (ds : Ds) (w : World) : Prop := F110_21 R p0 n1 n2 n3 p8 p9 p12 n14 ds w
def F110_k27 (R : Rt) : EP := (fun ρ ds w => dPtr (ρ 0) fun p0 => dInt .i64 (ρ 1) fun n1 => dInt .i64 (ρ 2) fun n2 => dInt .i64 (ρ 3) fun n3 => dPtr (ρ 8) fun p8 => dPtr (ρ 9) fun p9 => dPtr (ρ 12) fun p12 => dInt .i64 (ρ 14) fun n14 => F110_22 R p0 n1 n2 n3 p8 p9 p12 n14 ds w)
def F110_23 (R : Rt) (p0 : Option Addr) (n1 : Int) (n2 : Int) (n3 : Int) (p8 : Option Addr) (p9 : Option Addr) (p12 : Option Addr) (ds : Ds) (w : World) : Prop :=
 Br (n3 == 0) (
 ptrE p12 fun a33 =>
 0 ≤ n2 ∧ n2 < ((16 : Nat) : Int) ∧
 st1 (a33.add (n2.toNat * 1)) (.int .i64 0) w fun w34 =>
 F110_22 R p0 n1 n2 n3 p8 p9 p12 0 ds w34) (
 F110_22 R p0 n1 n2 n3 p8 p9 p12 0 ds w)
def F110_k28 (R : Rt) : EP := (fun ρ ds w => dPtr (ρ 0) fun p0 => dInt .i64 (ρ 1) fun n1 => dInt .i64 (ρ 2) fun n2 => dInt .i64 (ρ 3) fun n3 => dPtr (ρ 8) fun p8 => dPtr (ρ 9) fun p9 => dPtr (ρ 12) fun p12 => F110_23 R p0 n1 n2 n3 p8 p9 p12 ds w)
def F110_q29 (R : Rt) : EQ := (thenQ (F110_k28 R) (F110_q1 R))
def F110_q30 (R : Rt) : EQ := (blockQ 0 (F110_q29 R))
def F110_q31 (R : Rt) (J1 : (Int) → World → Prop) : EQ := (thenQ (fun ρ _ w => dInt .i64 (ρ 13) fun n13 => J1 n13 w) (F110_q30 R))
def F110_24 (R : Rt) (J1 : (Int) → World → Prop) (p0 : Option Addr) (n1 : Int) (n2 : Int) (n3 : Int) (p8 : Option Addr) (p9 : Option Addr) (p12 : Option Addr) (n13 : Int) (ds : Ds) (w : World) : Prop :=
 Br (decide (n13 < 16)) (
 ptrE p12 fun a35 =>
 0 ≤ n13 ∧ n13 < ((16 : Nat) : Int) ∧
 st1 (a35.add (n13.toNat * 1)) (.int .i64 (-1073741824)) w fun w36 =>
 J1 (IntKind.i64.wrap (n13 + 1)) w36) (
 F110_23 R p0 n1 n2 n3 p8 p9 p12 ds w)
def F110_25 (R : Rt) (p0 : Option Addr) (n1 : Int) (n2 : Int) (n3 : Int) (p8 : Option Addr) (p9 : Option Addr) (p12 : Option Addr) (n13 : Int) (ds : Ds) (w : World) : Prop :=
 loopT (fun (J1 : (Int) → World → Prop) (s : Int) (w : World) => F110_24 R J1 p0 n1 n2 n3 p8 p9 p12 s ds w) n13 w
@[reducible] def F110_26 (R : Rt) (p0 : Option Addr) (n1 : Int) (n2 : Int) (n3 : Int) (p8 : Option Addr) (p9 : Option Addr) (p12 : Option Addr) (n13 : Int) (ds : Ds) (w : World) : Prop := F110_25 R p0 n1 n2 n3 p8 p9 p12 n13 ds w
def F110_k32 (R : Rt) : EP := (fun ρ ds w => dPtr (ρ 0) fun p0 => dInt .i64 (ρ 1) fun n1 => dInt .i64 (ρ 2) fun n2 => dInt .i64 (ρ 3) fun n3 => dPtr (ρ 8) fun p8 => dPtr (ρ 9) fun p9 => dPtr (ρ 12) fun p12 => dInt .i64 (ρ 13) fun n13 => F110_26 R p0 n1 n2 n3 p8 p9 p12 n13 ds w)
def F110_27 (R : Rt) (p0 : Option Addr) (n1 : Int) (n2 : Int) (n3 : Int) (ds : Ds) (w : World) : Prop :=
 alE (.cells #[.int .i64 0, .int .i64 0, .int .i64 0, .int .i64 0, .int .i64 0, .int .i64 0, .int .i64 0, .int .i64 0, .int .i64 0, .int .i64 0, .int .i64 0, .int .i64 0, .int .i64 0, .int .i64 0, .int .i64 0, .int .i64 0] 77) w fun r8 w37 =>
 alE (.cells #[.int .i64 0, .int .i64 0, .int .i64 0] 130) w37 fun r9 w38 =>
 stA Try.prog 130 (⟨r9, 0, none⟩ : Addr) #[.int .i64 n1, .int .i64 n2, .int .i64 n3] w38 fun w39 =>
 dwE w39 fun w40 =>
 ∃ S3 : World → Prop, S3 w40 ∧
 ptrE p0 fun a41 =>
 ∃ m33 : Option Nat, (∀ w', S3 w' → w'.cell? (a41.add 2) = some (.map m33)) ∧
 ∃ n34_0 : Int, (∀ w', S3 w' → w'.cell? ((⟨r9, 0, none⟩ : Addr).add 0) = some (.int .i64 n34_0)) ∧
 ∃ n34_1 : Int, (∀ w', S3 w' → w'.cell? ((⟨r9, 0, none⟩ : Addr).add 1) = some (.int .i64 n34_1)) ∧
 ∃ n34_2 : Int, (∀ w', S3 w' → w'.cell? ((⟨r9, 0, none⟩ : Addr).add 2) = some (.int .i64 n34_2)) ∧
 ∃ n35_0_0 : Int, ∃ n35_0_1 : Int, ∃ n35_0_2 : Int, ∃ n35_0_3 : Int, ∃ n35_0_4 : Int, ∃ n35_0_5 : Int, ∃ n35_0_6 : Int, ∃ n35_0_7 : Int, ∃ n35_0_8 : Int, ∃ n35_0_9 : Int, ∃ n35_0_10 : Int, ∃ n35_0_11 : Int, ∃ n35_0_12 : Int, ∃ n35_0_13 : Int, ∃ n35_0_14 : Int, ∃ n35_0_15 : Int, ∃ b35_1 : Bool, (∀ w', S3 w' → (Instr.lookup 112 (.map m33) (.agg #[.int .i64 n34_0, .int .i64 n34_1, .int .i64 n34_2]) true).run Try.prog w' = .ok (.tuple #[.agg #[.int .i64 n35_0_0, .int .i64 n35_0_1, .int .i64 n35_0_2, .int .i64 n35_0_3, .int .i64 n35_0_4, .int .i64 n35_0_5, .int .i64 n35_0_6, .int .i64 n35_0_7, .int .i64 n35_0_8, .int .i64 n35_0_9, .int .i64 n35_0_10, .int .i64 n35_0_11, .int .i64 n35_0_12, .int .i64 n35_0_13, .int .i64 n35_0_14, .int .i64 n35_0_15], .bool b35_1]) w') ∧
 alE (.cells #[.int .i64 0, .int .i64 0, .int .i64 0, .int .i64 0, .int .i64 0, .int .i64 0, .int .i64 0, .int .i64 0, .int .i64 0, .int .i64 0, .int .i64 0, .int .i64 0, .int .i64 0, .int .i64 0, .int .i64 0, .int .i64 0] 77) w40 fun r10 w42 =>
 S3 w42 ∧
 stA Try.prog 77 (⟨r10, 0, none⟩ : Addr) #[.int .i64 n35_0_0, .int .i64 n35_0_1, .int .i64 n35_0_2, .int .i64 n35_0_3, .int .i64 n35_0_4, .int .i64 n35_0_5, .int .i64 n35_0_6, .int .i64 n35_0_7, .int .i64 n35_0_8, .int .i64 n35_0_9, .int .i64 n35_0_10, .int .i64 n35_0_11, .int .i64 n35_0_12, .int .i64 n35_0_13, .int .i64 n35_0_14, .int .i64 n35_0_15] w42 fun w43 =>
 Br b35_1 (
 ∃ n39_0 : Int, w43.cell? ((⟨r10, 0, none⟩ : Addr).add 0) = some (.int .i64 n39_0) ∧
 ∃ n39_1 : Int, w43.cell? ((⟨r10, 0, none⟩ : Addr).add 1) = some (.int .i64 n39_1) ∧
 ∃ n39_2 : Int, w43.cell? ((⟨r10, 0, none⟩ : Addr).add 2) = some (.int .i64 n39_2) ∧
 ∃ n39_3 : Int, w43.cell? ((⟨r10, 0, none⟩ : Addr).add 3) = some (.int .i64 n39_3) ∧
 ∃ n39_4 : Int, w43.cell? ((⟨r10, 0, none⟩ : Addr).add 4) = some (.int .i64 n39_4) ∧
 ∃ n39_5 : Int, w43.cell? ((⟨r10, 0, none⟩ : Addr).add 5) = some (.int .i64 n39_5) ∧
 ∃ n39_6 : Int, w43.cell? ((⟨r10, 0, none⟩ : Addr).add 6) = some (.int .i64 n39_6) ∧
 ∃ n39_7 : Int, w43.cell? ((⟨r10, 0, none⟩ : Addr).add 7) = some (.int .i64 n39_7) ∧
 ∃ n39_8 : Int, w43.cell? ((⟨r10, 0, none⟩ : Addr).add 8) = some (.int .i64 n39_8) ∧
 ∃ n39_9 : Int, w43.cell? ((⟨r10, 0, none⟩ : Addr).add 9) = some (.int .i64 n39_9) ∧
 ∃ n39_10 : Int, w43.cell? ((⟨r10, 0, none⟩ : Addr).add 10) = some (.int .i64 n39_10) ∧
 ∃ n39_11 : Int, w43.cell? ((⟨r10, 0, none⟩ : Addr).add 11) = some (.int .i64 n39_11) ∧
 ∃ n39_12 : Int, w43.cell? ((⟨r10, 0, none⟩ : Addr).add 12) = some (.int .i64 n39_12) ∧
 ∃ n39_13 : Int, w43.cell? ((⟨r10, 0, none⟩ : Addr).add 13) = some (.int .i64 n39_13) ∧
 ∃ n39_14 : Int, w43.cell? ((⟨r10, 0, none⟩ : Addr).add 14) = some (.int .i64 n39_14) ∧
 ∃ n39_15 : Int, w43.cell? ((⟨r10, 0, none⟩ : Addr).add 15) = some (.int .i64 n39_15) ∧
 stA Try.prog 77 (⟨r8, 0, none⟩ : Addr) #[.int .i64 n39_0, .int .i64 n39_1, .int .i64 n39_2, .int .i64 n39_3, .int .i64 n39_4, .int .i64 n39_5, .int .i64 n39_6, .int .i64 n39_7, .int .i64 n39_8, .int .i64 n39_9, .int .i64 n39_10, .int .i64 n39_11, .int .i64 n39_12, .int .i64 n39_13, .int .i64 n39_14, .int .i64 n39_15] w43 fun w44 =>
 runD Try.prog ds w44 fun w45 =>
 ∃ nR0_0 : Int, w45.cell? ((⟨r8, 0, none⟩ : Addr).add 0) = some (.int .i64 nR0_0) ∧
 ∃ nR0_1 : Int, w45.cell? ((⟨r8, 0, none⟩ : Addr).add 1) = some (.int .i64 nR0_1) ∧
 ∃ nR0_2 : Int, w45.cell? ((⟨r8, 0, none⟩ : Addr).add 2) = some (.int .i64 nR0_2) ∧
 ∃ nR0_3 : Int, w45.cell? ((⟨r8, 0, none⟩ : Addr).add 3) = some (.int .i64 nR0_3) ∧
 ∃ nR0_4 : Int, w45.cell? ((⟨r8, 0, none⟩ : Addr).add 4) = some (.int .i64 nR0_4) ∧
 ∃ nR0_5 : Int, w45.cell? ((⟨r8, 0, none⟩ : Addr).add 5) = some (.int .i64 nR0_5) ∧
 ∃ nR0_6 : Int, w45.cell? ((⟨r8, 0, none⟩ : Addr).add 6) = some (.int .i64 nR0_6) ∧
 ∃ nR0_7 : Int, w45.cell? ((⟨r8, 0, none⟩ : Addr).add 7) = some (.int .i64 nR0_7) ∧
 ∃ nR0_8 : Int, w45.cell? ((⟨r8, 0, none⟩ : Addr).add 8) = some (.int .i64 nR0_8) ∧
 ∃ nR0_9 : Int, w45.cell? ((⟨r8, 0, none⟩ : Addr).add 9) = some (.int .i64 nR0_9) ∧
 ∃ nR0_10 : Int, w45.cell? ((⟨r8, 0, none⟩ : Addr).add 10) = some (.int .i64 nR0_10) ∧
 ∃ nR0_11 : Int, w45.cell? ((⟨r8, 0, none⟩ : Addr).add 11) = some (.int .i64 nR0_11) ∧
 ∃ nR0_12 : Int, w45.cell? ((⟨r8, 0, none⟩ : Addr).add 12) = some (.int .i64 nR0_12) ∧
 ∃ nR0_13 : Int, w45.cell? ((⟨r8, 0, none⟩ : Addr).add 13) = some (.int .i64 nR0_13) ∧
 ∃ nR0_14 : Int, w45.cell? ((⟨r8, 0, none⟩ : Addr).add 14) = some (.int .i64 nR0_14) ∧
 ∃ nR0_15 : Int, w45.cell? ((⟨r8, 0, none⟩ : Addr).add 15) = some (.int .i64 nR0_15) ∧
 R (.returned (.agg #[.int .i64 nR0_0, .int .i64 nR0_1, .int .i64 nR0_2, .int .i64 nR0_3, .int .i64 nR0_4, .int .i64 nR0_5, .int .i64 nR0_6, .int .i64 nR0_7, .int .i64 nR0_8, .int .i64 nR0_9, .int .i64 nR0_10, .int .i64 nR0_11, .int .i64 nR0_12, .int .i64 nR0_13, .int .i64 nR0_14, .int .i64 nR0_15])) w45) (
 alE (.cells #[.int .i64 0, .int .i64 0, .int .i64 0, .int .i64 0, .int .i64 0, .int .i64 0, .int .i64 0, .int .i64 0, .int .i64 0, .int .i64 0, .int .i64 0, .int .i64 0, .int .i64 0, .int .i64 0, .int .i64 0, .int .i64 0] 77) w43 fun r12 w46 =>
 F110_26 R p0 n1 n2 n3 (some (⟨r8, 0, none⟩ : Addr)) (some (⟨r9, 0, none⟩ : Addr)) (some (⟨r12, 0, none⟩ : Addr)) 0 ds w46)
theorem c110_l : flat (bodyOf Try.f110) = [c110_0, c110_1, c110_2, c110_3, c110_4, c110_5, c110_6, c110_7, c110_8, c110_9, c110_10, c110_11, c110_12, c110_13, c110_14] := by kernel_rfl
theorem c110_11_l : flat (innerC c110_11) = [c110_11_0] := by kernel_rfl
theorem c110_11_0_l : flat (innerC c110_11_0) = [c110_11_0_0, c110_11_0_1, c110_11_0_2, c110_11_0_3] := by kernel_rfl
theorem c110_11_0_2_l : flat (innerC c110_11_0_2) = [c110_11_0_2_0, c110_11_0_2_1, c110_11_0_2_2, c110_11_0_2_3] := by kernel_rfl
theorem c110_11_0_2_3_l : flat (innerC c110_11_0_2_3) = [c110_11_0_2_3_0] := by kernel_rfl
theorem c110_11_0_2_3_0_l : flat (innerC c110_11_0_2_3_0) = [c110_11_0_2_3_0_0, c110_11_0_2_3_0_1, c110_11_0_2_3_0_2, c110_11_0_2_3_0_3] := by kernel_rfl
theorem c110_11_0_2_3_0_2_l : flat (innerC c110_11_0_2_3_0_2) = [c110_11_0_2_3_0_2_0, c110_11_0_2_3_0_2_1, c110_11_0_2_3_0_2_2] := by kernel_rfl
theorem c110_11_0_2_3_0_2_2_l : flat (innerC c110_11_0_2_3_0_2_2) = [c110_11_0_2_3_0_2_2_0] := by kernel_rfl
theorem c110_11_0_2_3_0_2_2_0_l : flat (innerC c110_11_0_2_3_0_2_2_0) = [c110_11_0_2_3_0_2_2_0_0, c110_11_0_2_3_0_2_2_0_1, c110_11_0_2_3_0_2_2_0_2, c110_11_0_2_3_0_2_2_0_3] := by kernel_rfl
theorem c110_11_0_2_3_0_2_2_0_2_l : flat (innerC c110_11_0_2_3_0_2_2_0_2) = [c110_11_0_2_3_0_2_2_0_2_0, c110_11_0_2_3_0_2_2_0_2_1, c110_11_0_2_3_0_2_2_0_2_2, c110_11_0_2_3_0_2_2_0_2_3, c110_11_0_2_3_0_2_2_0_2_4, c110_11_0_2_3_0_2_2_0_2_5] := by kernel_rfl
theorem c110_11_0_2_3_0_2_2_0_2_5_l : flat (innerC c110_11_0_2_3_0_2_2_0_2_5) = [c110_11_0_2_3_0_2_2_0_2_5_0] := by kernel_rfl
theorem c110_11_0_2_3_0_2_2_0_2_5_0_l : flat (innerC c110_11_0_2_3_0_2_2_0_2_5_0) = [c110_11_0_2_3_0_2_2_0_2_5_0_0, c110_11_0_2_3_0_2_2_0_2_5_0_1, c110_11_0_2_3_0_2_2_0_2_5_0_2, c110_11_0_2_3_0_2_2_0_2_5_0_3] := by kernel_rfl
theorem c110_7_l : flat (innerC c110_7) = [c110_7_0] := by kernel_rfl
theorem c110_7_0_l : flat (innerC c110_7_0) = [c110_7_0_0, c110_7_0_1, c110_7_0_2, c110_7_0_3] := by kernel_rfl
theorem F110_1_ok (R : Rt) (p0 : Option Addr) (p8 : Option Addr) (p9 : Option Addr) (p12 : Option Addr) (ds : Ds) (w : World) (ρ : Env) (e0 : ρ 0 = .pointer p0) (e8 : ρ 8 = .pointer p8) (e9 : ρ 9 = .pointer p9) (e12 : ρ 12 = .pointer p12) (h : F110_1 R p0 p8 p9 p12 ds w) :
    TrL Try.prog Try.f110.ntmps [c110_12, c110_13, c110_14] (F110_q1 R) ρ ds w :=
  TrL_leaf (X := F110_1 R p0 p8 p9 p12 ds w) (setAll_cons e0 (setAll_cons e8 (setAll_cons e9 (setAll_cons e12 setAll_nil)))) (by kernel_rfl) (by kernel_rfl) h
theorem F110_2_ok (R : Rt) (J1 : (Int) → World → Prop) (p0 : Option Addr) (n1 : Int) (n2 : Int) (n3 : Int) (p8 : Option Addr) (p9 : Option Addr) (p12 : Option Addr) (n14 : Int) (ds : Ds) (w : World) (ρ : Env) (e0 : ρ 0 = .pointer p0) (e1 : ρ 1 = .int .i64 n1) (e2 : ρ 2 = .int .i64 n2) (e3 : ρ 3 = .int .i64 n3) (e8 : ρ 8 = .pointer p8) (e9 : ρ 9 = .pointer p9) (e12 : ρ 12 = .pointer p12) (e14 : ρ 14 = .int .i64 n14) (h : F110_2 R J1 p0 n1 n2 n3 p8 p9 p12 n14 ds w) :
    TrL Try.prog Try.f110.ntmps [c110_11_0_3] (F110_q5 R J1) ρ ds w :=
  TrL_leaf (X := F110_2 R J1 p0 n1 n2 n3 p8 p9 p12 n14 ds w) (setAll_cons e0 (setAll_cons e1 (setAll_cons e2 (setAll_cons e3 (setAll_cons e8 (setAll_cons e9 (setAll_cons e12 (setAll_cons e14 setAll_nil)))))))) (by kernel_rfl) (by kernel_rfl) h
theorem F110_3_ok (R : Rt) (J1 : (Int) → World → Prop) (J2 : (Int) → World → Prop) (p0 : Option Addr) (n1 : Int) (n2 : Int) (n3 : Int) (p8 : Option Addr) (p9 : Option Addr) (p12 : Option Addr) (n14 : Int) (n15 : Int) (n16 : Int) (n17 : Int) (n18 : Int) (ds : Ds) (w : World) (ρ : Env) (e0 : ρ 0 = .pointer p0) (e1 : ρ 1 = .int .i64 n1) (e2 : ρ 2 = .int .i64 n2) (e3 : ρ 3 = .int .i64 n3) (e8 : ρ 8 = .pointer p8) (e9 : ρ 9 = .pointer p9) (e12 : ρ 12 = .pointer p12) (e14 : ρ 14 = .int .i64 n14) (e15 : ρ 15 = .int .i64 n15) (e16 : ρ 16 = .int .i64 n16) (e17 : ρ 17 = .int .i64 n17) (e18 : ρ 18 = .int .i64 n18) (h : F110_3 R J1 J2 p0 n1 n2 n3 p8 p9 p12 n14 n15 n16 n17 n18 ds w) :
    TrL Try.prog Try.f110.ntmps [c110_11_0_2_3_0_3] (F110_q10 R J1 J2) ρ ds w :=
  TrL_leaf (X := F110_3 R J1 J2 p0 n1 n2 n3 p8 p9 p12 n14 n15 n16 n17 n18 ds w) (setAll_cons e0 (setAll_cons e1 (setAll_cons e2 (setAll_cons e3 (setAll_cons e8 (setAll_cons e9 (setAll_cons e12 (setAll_cons e14 (setAll_cons e15 (setAll_cons e16 (setAll_cons e17 (setAll_cons e18 setAll_nil)))))))))))) (by kernel_rfl) (by kernel_rfl) h
theorem F110_4_ok (R : Rt) (J1 : (Int) → World → Prop) (J2 : (Int) → World → Prop) (J3 : (Int) → World → Prop) (p0 : Option Addr) (n1 : Int) (n2 : Int) (n3 : Int) (p8 : Option Addr) (p9 : Option Addr) (p12 : Option Addr) (n14 : Int) (n15 : Int) (n16 : Int) (n17 : Int) (n18 : Int) (p19 : Option Addr) (n20 : Int) (ds : Ds) (w : World) (ρ : Env) (e0 : ρ 0 = .pointer p0) (e1 : ρ 1 = .int .i64 n1) (e2 : ρ 2 = .int .i64 n2) (e3 : ρ 3 = .int .i64 n3) (e8 : ρ 8 = .pointer p8) (e9 : ρ 9 = .pointer p9) (e12 : ρ 12 = .pointer p12) (e14 : ρ 14 = .int .i64 n14) (e15 : ρ 15 = .int .i64 n15) (e16 : ρ 16 = .int .i64 n16) (e17 : ρ 17 = .int .i64 n17) (e18 : ρ 18 = .int .i64 n18) (e19 : ρ 19 = .pointer p19) (e20 : ρ 20 = .int .i64 n20) (h : F110_4 R J1 J2 J3 p0 n1 n2 n3 p8 p9 p12 n14 n15 n16 n17 n18 p19 n20 ds w) :
    TrL Try.prog Try.f110.ntmps [c110_11_0_2_3_0_2_2_0_3] (F110_q15 R J1 J2 J3) ρ ds w :=
  TrL_leaf (X := F110_4 R J1 J2 J3 p0 n1 n2 n3 p8 p9 p12 n14 n15 n16 n17 n18 p19 n20 ds w) (setAll_cons e0 (setAll_cons e1 (setAll_cons e2 (setAll_cons e3 (setAll_cons e8 (setAll_cons e9 (setAll_cons e12 (setAll_cons e14 (setAll_cons e15 (setAll_cons e16 (setAll_cons e17 (setAll_cons e18 (setAll_cons e19 (setAll_cons e20 setAll_nil)))))))))))))) (by kernel_rfl) (by kernel_rfl) h
theorem F110_5_ok (R : Rt) (J1 : (Int) → World → Prop) (J2 : (Int) → World → Prop) (J3 : (Int) → World → Prop) (J4 : (Int) → World → Prop) (p0 : Option Addr) (n1 : Int) (n2 : Int) (n3 : Int) (p8 : Option Addr) (p9 : Option Addr) (p12 : Option Addr) (n14 : Int) (n15 : Int) (n16 : Int) (n17 : Int) (n18 : Int) (p19 : Option Addr) (n20 : Int) (n22 : Int) (p23 : Option Addr) (n24 : Int) (ds : Ds) (w : World) (ρ : Env) (e0 : ρ 0 = .pointer p0) (e1 : ρ 1 = .int .i64 n1) (e2 : ρ 2 = .int .i64 n2) (e3 : ρ 3 = .int .i64 n3) (e8 : ρ 8 = .pointer p8) (e9 : ρ 9 = .pointer p9) (e12 : ρ 12 = .pointer p12) (e14 : ρ 14 = .int .i64 n14) (e15 : ρ 15 = .int .i64 n15) (e16 : ρ 16 = .int .i64 n16) (e17 : ρ 17 = .int .i64 n17) (e18 : ρ 18 = .int .i64 n18) (e19 : ρ 19 = .pointer p19) (e20 : ρ 20 = .int .i64 n20) (e22 : ρ 22 = .int .i64 n22) (e23 : ρ 23 = .pointer p23) (e24 : ρ 24 = .int .i64 n24) (h : F110_5 R J1 J2 J3 J4 p0 n1 n2 n3 p8 p9 p12 n14 n15 n16 n17 n18 p19 n20 n22 p23 n24 ds w) :
    TrL Try.prog Try.f110.ntmps [c110_11_0_2_3_0_2_2_0_2_5_0_0, c110_11_0_2_3_0_2_2_0_2_5_0_1, c110_11_0_2_3_0_2_2_0_2_5_0_2, c110_11_0_2_3_0_2_2_0_2_5_0_3] (F110_q20 R J1 J2 J3 J4) ρ ds w :=
  TrL_leaf (X := F110_5 R J1 J2 J3 J4 p0 n1 n2 n3 p8 p9 p12 n14 n15 n16 n17 n18 p19 n20 n22 p23 n24 ds w) (setAll_cons e0 (setAll_cons e1 (setAll_cons e2 (setAll_cons e3 (setAll_cons e8 (setAll_cons e9 (setAll_cons e12 (setAll_cons e14 (setAll_cons e15 (setAll_cons e16 (setAll_cons e17 (setAll_cons e18 (setAll_cons e19 (setAll_cons e20 (setAll_cons e22 (setAll_cons e23 (setAll_cons e24 setAll_nil))))))))))))))))) (by kernel_rfl) (by kernel_rfl) h
theorem F110_6_ok (R : Rt) (J1 : (Int) → World → Prop) (J2 : (Int) → World → Prop) (J3 : (Int) → World → Prop) (p0 : Option Addr) (n1 : Int) (n2 : Int) (n3 : Int) (p8 : Option Addr) (p9 : Option Addr) (p12 : Option Addr) (n14 : Int) (n15 : Int) (n16 : Int) (n17 : Int) (n18 : Int) (p19 : Option Addr) (n20 : Int) (n22 : Int) (p23 : Option Addr) (n24 : Int) (ds : Ds) (w : World) (ρ : Env) (e0 : ρ 0 = .pointer p0) (e1 : ρ 1 = .int .i64 n1) (e2 : ρ 2 = .int .i64 n2) (e3 : ρ 3 = .int .i64 n3) (e8 : ρ 8 = .pointer p8) (e9 : ρ 9 = .pointer p9) (e12 : ρ 12 = .pointer p12) (e14 : ρ 14 = .int .i64 n14) (e15 : ρ 15 = .int .i64 n15) (e16 : ρ 16 = .int .i64 n16) (e17 : ρ 17 = .int .i64 n17) (e18 : ρ 18 = .int .i64 n18) (e19 : ρ 19 = .pointer p19) (e20 : ρ 20 = .int .i64 n20) (e22 : ρ 22 = .int .i64 n22) (e23 : ρ 23 = .pointer p23) (e24 : ρ 24 = .int .i64 n24) (h : F110_6 R J1 J2 J3 p0 n1 n2 n3 p8 p9 p12 n14 n15 n16 n17 n18 p19 n20 n22 p23 n24 ds w) :
    TrL Try.prog Try.f110.ntmps [c110_11_0_2_3_0_2_2_0_2_5_0] (F110_q19 R J1 J2 J3) ρ ds w :=
  TrL_one (Tr_loop' (c := innerC c110_11_0_2_3_0_2_2_0_2_5_0) (σ := Int) (enc := (fun (s : Int) (ρ : Env) => ρ 24 = .int .i64 s)) (D := (fun ρ K => dInt .i64 (ρ 24) fun n24 => K n24)) (F := (fun (J4 : (Int) → World → Prop) (s : Int) (w : World) => F110_5 R J1 J2 J3 J4 p0 n1 n2 n3 p8 p9 p12 n14 n15 n16 n17 n18 p19 n20 n22 p23 s ds w)) (s0 := n24) (by kernel_rfl) c110_11_0_2_3_0_2_2_0_2_5_0_l e24 (by kernel_rfl) (fun ρ K hD => by obtain ⟨n24, e24, hD⟩ := dInt_elim hD; exact ⟨n24, e24, hD⟩)
      (fun J4 s ρ' w' he ha hF => by
      have e24' := he
      exact F110_5_ok R J1 J2 J3 J4 p0 n1 n2 n3 p8 p9 p12 n14 n15 n16 n17 n18 p19 n20 n22 p23 s ds w' ρ' ((ha 0 (by kernel_rfl)).trans e0) ((ha 1 (by kernel_rfl)).trans e1) ((ha 2 (by kernel_rfl)).trans e2) ((ha 3 (by kernel_rfl)).trans e3) ((ha 8 (by kernel_rfl)).trans e8) ((ha 9 (by kernel_rfl)).trans e9) ((ha 12 (by kernel_rfl)).trans e12) ((ha 14 (by kernel_rfl)).trans e14) ((ha 15 (by kernel_rfl)).trans e15) ((ha 16 (by kernel_rfl)).trans e16) ((ha 17 (by kernel_rfl)).trans e17) ((ha 18 (by kernel_rfl)).trans e18) ((ha 19 (by kernel_rfl)).trans e19) ((ha 20 (by kernel_rfl)).trans e20) ((ha 22 (by kernel_rfl)).trans e22) ((ha 23 (by kernel_rfl)).trans e23) e24' hF) h)
theorem F110_7_ok (R : Rt) (J1 : (Int) → World → Prop) (J2 : (Int) → World → Prop) (J3 : (Int) → World → Prop) (p0 : Option Addr) (n1 : Int) (n2 : Int) (n3 : Int) (p8 : Option Addr) (p9 : Option Addr) (p12 : Option Addr) (n14 : Int) (n15 : Int) (n16 : Int) (n17 : Int) (n18 : Int) (p19 : Option Addr) (n20 : Int) (n22 : Int) (p23 : Option Addr) (n24 : Int) (ds : Ds) (w : World) (ρ : Env) (e0 : ρ 0 = .pointer p0) (e1 : ρ 1 = .int .i64 n1) (e2 : ρ 2 = .int .i64 n2) (e3 : ρ 3 = .int .i64 n3) (e8 : ρ 8 = .pointer p8) (e9 : ρ 9 = .pointer p9) (e12 : ρ 12 = .pointer p12) (e14 : ρ 14 = .int .i64 n14) (e15 : ρ 15 = .int .i64 n15) (e16 : ρ 16 = .int .i64 n16) (e17 : ρ 17 = .int .i64 n17) (e18 : ρ 18 = .int .i64 n18) (e19 : ρ 19 = .pointer p19) (e20 : ρ 20 = .int .i64 n20) (e22 : ρ 22 = .int .i64 n22) (e23 : ρ 23 = .pointer p23) (e24 : ρ 24 = .int .i64 n24) (h : F110_7 R J1 J2 J3 p0 n1 n2 n3 p8 p9 p12 n14 n15 n16 n17 n18 p19 n20 n22 p23 n24 ds w) :
    TrL Try.prog Try.f110.ntmps [c110_11_0_2_3_0_2_2_0_2_5] (F110_q18 R J1 J2 J3) ρ ds w :=
  TrL_one (Tr_block' (c := innerC c110_11_0_2_3_0_2_2_0_2_5) (by kernel_rfl) c110_11_0_2_3_0_2_2_0_2_5_l (F110_6_ok R J1 J2 J3 p0 n1 n2 n3 p8 p9 p12 n14 n15 n16 n17 n18 p19 n20 n22 p23 n24 ds w ρ e0 e1 e2 e3 e8 e9 e12 e14 e15 e16 e17 e18 e19 e20 e22 e23 e24 h))
theorem F110_8_ok (R : Rt) (J1 : (Int) → World → Prop) (J2 : (Int) → World → Prop) (J3 : (Int) → World → Prop) (p0 : Option Addr) (n1 : Int) (n2 : Int) (n3 : Int) (p8 : Option Addr) (p9 : Option Addr) (p12 : Option Addr) (n14 : Int) (n15 : Int) (n16 : Int) (n17 : Int) (n18 : Int) (p19 : Option Addr) (n20 : Int) (ds : Ds) (w : World) (ρ : Env) (e0 : ρ 0 = .pointer p0) (e1 : ρ 1 = .int .i64 n1) (e2 : ρ 2 = .int .i64 n2) (e3 : ρ 3 = .int .i64 n3) (e8 : ρ 8 = .pointer p8) (e9 : ρ 9 = .pointer p9) (e12 : ρ 12 = .pointer p12) (e14 : ρ 14 = .int .i64 n14) (e15 : ρ 15 = .int .i64 n15) (e16 : ρ 16 = .int .i64 n16) (e17 : ρ 17 = .int .i64 n17) (e18 : ρ 18 = .int .i64 n18) (e19 : ρ 19 = .pointer p19) (e20 : ρ 20 = .int .i64 n20) (h : F110_8 R J1 J2 J3 p0 n1 n2 n3 p8 p9 p12 n14 n15 n16 n17 n18 p19 n20 ds w) :
    TrL Try.prog Try.f110.ntmps [c110_11_0_2_3_0_2_2_0_2_0, c110_11_0_2_3_0_2_2_0_2_1, c110_11_0_2_3_0_2_2_0_2_2, c110_11_0_2_3_0_2_2_0_2_3, c110_11_0_2_3_0_2_2_0_2_4, c110_11_0_2_3_0_2_2_0_2_5] (F110_q18 R J1 J2 J3) ρ ds w :=
  TrL_piece (pre := [c110_11_0_2_3_0_2_2_0_2_0, c110_11_0_2_3_0_2_2_0_2_1, c110_11_0_2_3_0_2_2_0_2_2, c110_11_0_2_3_0_2_2_0_2_3, c110_11_0_2_3_0_2_2_0_2_4]) (K := (F110_k21 R J1 J2 J3)) (X := F110_8 R J1 J2 J3 p0 n1 n2 n3 p8 p9 p12 n14 n15 n16 n17 n18 p19 n20 ds w) (setAll_cons e0 (setAll_cons e1 (setAll_cons e2 (setAll_cons e3 (setAll_cons e8 (setAll_cons e9 (setAll_cons e12 (setAll_cons e14 (setAll_cons e15 (setAll_cons e16 (setAll_cons e17 (setAll_cons e18 (setAll_cons e19 (setAll_cons e20 setAll_nil)))))))))))))) (by kernel_rfl) (by kernel_rfl)
    (fun ρ' ds' w' hD => by
      obtain ⟨p0, e0, hD⟩ := dPtr_elim hD; obtain ⟨n1, e1, hD⟩ := dInt_elim hD; obtain ⟨n2, e2, hD⟩ := dInt_elim hD; obtain ⟨n3, e3, hD⟩ := dInt_elim hD; obtain ⟨p8, e8, hD⟩ := dPtr_elim hD; obtain ⟨p9, e9, hD⟩ := dPtr_elim hD; obtain ⟨p12, e12, hD⟩ := dPtr_elim hD; obtain ⟨n14, e14, hD⟩ := dInt_elim hD; obtain ⟨n15, e15, hD⟩ := dInt_elim hD; obtain ⟨n16, e16, hD⟩ := dInt_elim hD; obtain ⟨n17, e17, hD⟩ := dInt_elim hD; obtain ⟨n18, e18, hD⟩ := dInt_elim hD; obtain ⟨p19, e19, hD⟩ := dPtr_elim hD; obtain ⟨n20, e20, hD⟩ := dInt_elim hD; obtain ⟨n22, e22, hD⟩ := dInt_elim hD; obtain ⟨p23, e23, hD⟩ := dPtr_elim hD; obtain ⟨n24, e24, hD⟩ := dInt_elim hD; exact F110_7_ok R J1 J2 J3 p0 n1 n2 n3 p8 p9 p12 n14 n15 n16 n17 n18 p19 n20 n22 p23 n24 ds' w' ρ' e0 e1 e2 e3 e8 e9 e12 e14 e15 e16 e17 e18 e19 e20 e22 e23 e24 hD) h
theorem F110_9_ok (R : Rt) (J1 : (Int) → World → Prop) (J2 : (Int) → World → Prop) (J3 : (Int) → World → Prop) (p0 : Option Addr) (n1 : Int) (n2 : Int) (n3 : Int) (p8 : Option Addr) (p9 : Option Addr) (p12 : Option Addr) (n14 : Int) (n15 : Int) (n16 : Int) (n17 : Int) (n18 : Int) (p19 : Option Addr) (n20 : Int) (ds : Ds) (w : World) (ρ : Env) (e0 : ρ 0 = .pointer p0) (e1 : ρ 1 = .int .i64 n1) (e2 : ρ 2 = .int .i64 n2) (e3 : ρ 3 = .int .i64 n3) (e8 : ρ 8 = .pointer p8) (e9 : ρ 9 = .pointer p9) (e12 : ρ 12 = .pointer p12) (e14 : ρ 14 = .int .i64 n14) (e15 : ρ 15 = .int .i64 n15) (e16 : ρ 16 = .int .i64 n16) (e17 : ρ 17 = .int .i64 n17) (e18 : ρ 18 = .int .i64 n18) (e19 : ρ 19 = .pointer p19) (e20 : ρ 20 = .int .i64 n20) (h : F110_9 R J1 J2 J3 p0 n1 n2 n3 p8 p9 p12 n14 n15 n16 n17 n18 p19 n20 ds w) :
    TrL Try.prog Try.f110.ntmps [c110_11_0_2_3_0_2_2_0_2, c110_11_0_2_3_0_2_2_0_3] (F110_q15 R J1 J2 J3) ρ ds w :=
  TrL_head (K := (F110_k16 R J1 J2 J3)) (Tr_block' (c := innerC c110_11_0_2_3_0_2_2_0_2) (by kernel_rfl) c110_11_0_2_3_0_2_2_0_2_l (F110_8_ok R J1 J2 J3 p0 n1 n2 n3 p8 p9 p12 n14 n15 n16 n17 n18 p19 n20 ds w ρ e0 e1 e2 e3 e8 e9 e12 e14 e15 e16 e17 e18 e19 e20 h))
    (fun ρ' ds' w' hD => by
      obtain ⟨p0, e0, hD⟩ := dPtr_elim hD; obtain ⟨n1, e1, hD⟩ := dInt_elim hD; obtain ⟨n2, e2, hD⟩ := dInt_elim hD; obtain ⟨n3, e3, hD⟩ := dInt_elim hD; obtain ⟨p8, e8, hD⟩ := dPtr_elim hD; obtain ⟨p9, e9, hD⟩ := dPtr_elim hD; obtain ⟨p12, e12, hD⟩ := dPtr_elim hD; obtain ⟨n14, e14, hD⟩ := dInt_elim hD; obtain ⟨n15, e15, hD⟩ := dInt_elim hD; obtain ⟨n16, e16, hD⟩ := dInt_elim hD; obtain ⟨n17, e17, hD⟩ := dInt_elim hD; obtain ⟨n18, e18, hD⟩ := dInt_elim hD; obtain ⟨p19, e19, hD⟩ := dPtr_elim hD; obtain ⟨n20, e20, hD⟩ := dInt_elim hD; exact F110_4_ok R J1 J2 J3 p0 n1 n2 n3 p8 p9 p12 n14 n15 n16 n17 n18 p19 n20 ds' w' ρ' e0 e1 e2 e3 e8 e9 e12 e14 e15 e16 e17 e18 e19 e20 hD)
theorem F110_10_ok (R : Rt) (J1 : (Int) → World → Prop) (J2 : (Int) → World → Prop) (J3 : (Int) → World → Prop) (p0 : Option Addr) (n1 : Int) (n2 : Int) (n3 : Int) (p8 : Option Addr) (p9 : Option Addr) (p12 : Option Addr) (n14 : Int) (n15 : Int) (n16 : Int) (n17 : Int) (n18 : Int) (p19 : Option Addr) (n20 : Int) (ds : Ds) (w : World) (ρ : Env) (e0 : ρ 0 = .pointer p0) (e1 : ρ 1 = .int .i64 n1) (e2 : ρ 2 = .int .i64 n2) (e3 : ρ 3 = .int .i64 n3) (e8 : ρ 8 = .pointer p8) (e9 : ρ 9 = .pointer p9) (e12 : ρ 12 = .pointer p12) (e14 : ρ 14 = .int .i64 n14) (e15 : ρ 15 = .int .i64 n15) (e16 : ρ 16 = .int .i64 n16) (e17 : ρ 17 = .int .i64 n17) (e18 : ρ 18 = .int .i64 n18) (e19 : ρ 19 = .pointer p19) (e20 : ρ 20 = .int .i64 n20) (h : F110_10 R J1 J2 J3 p0 n1 n2 n3 p8 p9 p12 n14 n15 n16 n17 n18 p19 n20 ds w) :
    TrL Try.prog Try.f110.ntmps [c110_11_0_2_3_0_2_2_0_0, c110_11_0_2_3_0_2_2_0_1, c110_11_0_2_3_0_2_2_0_2, c110_11_0_2_3_0_2_2_0_3] (F110_q15 R J1 J2 J3) ρ ds w :=
  TrL_piece (pre := [c110_11_0_2_3_0_2_2_0_0, c110_11_0_2_3_0_2_2_0_1]) (K := (F110_k22 R J1 J2 J3)) (X := F110_10 R J1 J2 J3 p0 n1 n2 n3 p8 p9 p12 n14 n15 n16 n17 n18 p19 n20 ds w) (setAll_cons e0 (setAll_cons e1 (setAll_cons e2 (setAll_cons e3 (setAll_cons e8 (setAll_cons e9 (setAll_cons e12 (setAll_cons e14 (setAll_cons e15 (setAll_cons e16 (setAll_cons e17 (setAll_cons e18 (setAll_cons e19 (setAll_cons e20 setAll_nil)))))))))))))) (by kernel_rfl) (by kernel_rfl)
    (fun ρ' ds' w' hD => by
      obtain ⟨p0, e0, hD⟩ := dPtr_elim hD; obtain ⟨n1, e1, hD⟩ := dInt_elim hD; obtain ⟨n2, e2, hD⟩ := dInt_elim hD; obtain ⟨n3, e3, hD⟩ := dInt_elim hD; obtain ⟨p8, e8, hD⟩ := dPtr_elim hD; obtain ⟨p9, e9, hD⟩ := dPtr_elim hD; obtain ⟨p12, e12, hD⟩ := dPtr_elim hD; obtain ⟨n14, e14, hD⟩ := dInt_elim hD; obtain ⟨n15, e15, hD⟩ := dInt_elim hD; obtain ⟨n16, e16, hD⟩ := dInt_elim hD; obtain ⟨n17, e17, hD⟩ := dInt_elim hD; obtain ⟨n18, e18, hD⟩ := dInt_elim hD; obtain ⟨p19, e19, hD⟩ := dPtr_elim hD; obtain ⟨n20, e20, hD⟩ := dInt_elim hD; exact F110_9_ok R J1 J2 J3 p0 n1 n2 n3 p8 p9 p12 n14 n15 n16 n17 n18 p19 n20 ds' w' ρ' e0 e1 e2 e3 e8 e9 e12 e14 e15 e16 e17 e18 e19 e20 hD) h
theorem F110_11_ok (R : Rt) (J1 : (Int) → World → Prop) (J2 : (Int) → World → Prop) (p0 : Option Addr) (n1 : Int) (n2 : Int) (n3 : Int) (p8 : Option Addr) (p9 : Option Addr) (p12 : Option Addr) (n14 : Int) (n15 : Int) (n16 : Int) (n17 : Int) (n18 : Int) (p19 : Option Addr) (n20 : Int) (ds : Ds) (w : World) (ρ : Env) (e0 : ρ 0 = .pointer p0) (e1 : ρ 1 = .int .i64 n1) (e2 : ρ 2 = .int .i64 n2) (e3 : ρ 3 = .int .i64 n3) (e8 : ρ 8 = .pointer p8) (e9 : ρ 9 = .pointer p9) (e12 : ρ 12 = .pointer p12) (e14 : ρ 14 = .int .i64 n14) (e15 : ρ 15 = .int .i64 n15) (e16 : ρ 16 = .int .i64 n16) (e17 : ρ 17 = .int .i64 n17) (e18 : ρ 18 = .int .i64 n18) (e19 : ρ 19 = .pointer p19) (e20 : ρ 20 = .int .i64 n20) (h : F110_11 R J1 J2 p0 n1 n2 n3 p8 p9 p12 n14 n15 n16 n17 n18 p19 n20 ds w) :
    TrL Try.prog Try.f110.ntmps [c110_11_0_2_3_0_2_2_0] (F110_q14 R J1 J2) ρ ds w :=
  TrL_one (Tr_loop' (c := innerC c110_11_0_2_3_0_2_2_0) (σ := Int) (enc := (fun (s : Int) (ρ : Env) => ρ 20 = .int .i64 s)) (D := (fun ρ K => dInt .i64 (ρ 20) fun n20 => K n20)) (F := (fun (J3 : (Int) → World → Prop) (s : Int) (w : World) => F110_10 R J1 J2 J3 p0 n1 n2 n3 p8 p9 p12 n14 n15 n16 n17 n18 p19 s ds w)) (s0 := n20) (by kernel_rfl) c110_11_0_2_3_0_2_2_0_l e20 (by kernel_rfl) (fun ρ K hD => by obtain ⟨n20, e20, hD⟩ := dInt_elim hD; exact ⟨n20, e20, hD⟩)
      (fun J3 s ρ' w' he ha hF => by
      have e20' := he
      exact F110_10_ok R J1 J2 J3 p0 n1 n2 n3 p8 p9 p12 n14 n15 n16 n17 n18 p19 s ds w' ρ' ((ha 0 (by kernel_rfl)).trans e0) ((ha 1 (by kernel_rfl)).trans e1) ((ha 2 (by kernel_rfl)).trans e2) ((ha 3 (by kernel_rfl)).trans e3) ((ha 8 (by kernel_rfl)).trans e8) ((ha 9 (by kernel_rfl)).trans e9) ((ha 12 (by kernel_rfl)).trans e12) ((ha 14 (by kernel_rfl)).trans e14) ((ha 15 (by kernel_rfl)).trans e15) ((ha 16 (by kernel_rfl)).trans e16) ((ha 17 (by kernel_rfl)).trans e17) ((ha 18 (by kernel_rfl)).trans e18) ((ha 19 (by kernel_rfl)).trans e19) e20' hF) h)
theorem F110_12_ok (R : Rt) (J1 : (Int) → World → Prop) (J2 : (Int) → World → Prop) (p0 : Option Addr) (n1 : Int) (n2 : Int) (n3 : Int) (p8 : Option Addr) (p9 : Option Addr) (p12 : Option Addr) (n14 : Int) (n15 : Int) (n16 : Int) (n17 : Int) (n18 : Int) (p19 : Option Addr) (n20 : Int) (ds : Ds) (w : World) (ρ : Env) (e0 : ρ 0 = .pointer p0) (e1 : ρ 1 = .int .i64 n1) (e2 : ρ 2 = .int .i64 n2) (e3 : ρ 3 = .int .i64 n3) (e8 : ρ 8 = .pointer p8) (e9 : ρ 9 = .pointer p9) (e12 : ρ 12 = .pointer p12) (e14 : ρ 14 = .int .i64 n14) (e15 : ρ 15 = .int .i64 n15) (e16 : ρ 16 = .int .i64 n16) (e17 : ρ 17 = .int .i64 n17) (e18 : ρ 18 = .int .i64 n18) (e19 : ρ 19 = .pointer p19) (e20 : ρ 20 = .int .i64 n20) (h : F110_12 R J1 J2 p0 n1 n2 n3 p8 p9 p12 n14 n15 n16 n17 n18 p19 n20 ds w) :
    TrL Try.prog Try.f110.ntmps [c110_11_0_2_3_0_2_2] (F110_q13 R J1 J2) ρ ds w :=
  TrL_one (Tr_block' (c := innerC c110_11_0_2_3_0_2_2) (by kernel_rfl) c110_11_0_2_3_0_2_2_l (F110_11_ok R J1 J2 p0 n1 n2 n3 p8 p9 p12 n14 n15 n16 n17 n18 p19 n20 ds w ρ e0 e1 e2 e3 e8 e9 e12 e14 e15 e16 e17 e18 e19 e20 h))
theorem F110_13_ok (R : Rt) (J1 : (Int) → World → Prop) (J2 : (Int) → World → Prop) (p0 : Option Addr) (n1 : Int) (n2 : Int) (n3 : Int) (p8 : Option Addr) (p9 : Option Addr) (p12 : Option Addr) (n14 : Int) (n15 : Int) (n16 : Int) (n17 : Int) (n18 : Int) (ds : Ds) (w : World) (ρ : Env) (e0 : ρ 0 = .pointer p0) (e1 : ρ 1 = .int .i64 n1) (e2 : ρ 2 = .int .i64 n2) (e3 : ρ 3 = .int .i64 n3) (e8 : ρ 8 = .pointer p8) (e9 : ρ 9 = .pointer p9) (e12 : ρ 12 = .pointer p12) (e14 : ρ 14 = .int .i64 n14) (e15 : ρ 15 = .int .i64 n15) (e16 : ρ 16 = .int .i64 n16) (e17 : ρ 17 = .int .i64 n17) (e18 : ρ 18 = .int .i64 n18) (h : F110_13 R J1 J2 p0 n1 n2 n3 p8 p9 p12 n14 n15 n16 n17 n18 ds w) :
    TrL Try.prog Try.f110.ntmps [c110_11_0_2_3_0_2_0, c110_11_0_2_3_0_2_1, c110_11_0_2_3_0_2_2] (F110_q13 R J1 J2) ρ ds w :=
  TrL_piece (pre := [c110_11_0_2_3_0_2_0, c110_11_0_2_3_0_2_1]) (K := (F110_k23 R J1 J2)) (X := F110_13 R J1 J2 p0 n1 n2 n3 p8 p9 p12 n14 n15 n16 n17 n18 ds w) (setAll_cons e0 (setAll_cons e1 (setAll_cons e2 (setAll_cons e3 (setAll_cons e8 (setAll_cons e9 (setAll_cons e12 (setAll_cons e14 (setAll_cons e15 (setAll_cons e16 (setAll_cons e17 (setAll_cons e18 setAll_nil)))))))))))) (by kernel_rfl) (by kernel_rfl)
    (fun ρ' ds' w' hD => by
      obtain ⟨p0, e0, hD⟩ := dPtr_elim hD; obtain ⟨n1, e1, hD⟩ := dInt_elim hD; obtain ⟨n2, e2, hD⟩ := dInt_elim hD; obtain ⟨n3, e3, hD⟩ := dInt_elim hD; obtain ⟨p8, e8, hD⟩ := dPtr_elim hD; obtain ⟨p9, e9, hD⟩ := dPtr_elim hD; obtain ⟨p12, e12, hD⟩ := dPtr_elim hD; obtain ⟨n14, e14, hD⟩ := dInt_elim hD; obtain ⟨n15, e15, hD⟩ := dInt_elim hD; obtain ⟨n16, e16, hD⟩ := dInt_elim hD; obtain ⟨n17, e17, hD⟩ := dInt_elim hD; obtain ⟨n18, e18, hD⟩ := dInt_elim hD; obtain ⟨p19, e19, hD⟩ := dPtr_elim hD; obtain ⟨n20, e20, hD⟩ := dInt_elim hD; exact F110_12_ok R J1 J2 p0 n1 n2 n3 p8 p9 p12 n14 n15 n16 n17 n18 p19 n20 ds' w' ρ' e0 e1 e2 e3 e8 e9 e12 e14 e15 e16 e17 e18 e19 e20 hD) h
theorem F110_14_ok (R : Rt) (J1 : (Int) → World → Prop) (J2 : (Int) → World → Prop) (p0 : Option Addr) (n1 : Int) (n2 : Int) (n3 : Int) (p8 : Option Addr) (p9 : Option Addr) (p12 : Option Addr) (n14 : Int) (n15 : Int) (n16 : Int) (n17 : Int) (n18 : Int) (ds : Ds) (w : World) (ρ : Env) (e0 : ρ 0 = .pointer p0) (e1 : ρ 1 = .int .i64 n1) (e2 : ρ 2 = .int .i64 n2) (e3 : ρ 3 = .int .i64 n3) (e8 : ρ 8 = .pointer p8) (e9 : ρ 9 = .pointer p9) (e12 : ρ 12 = .pointer p12) (e14 : ρ 14 = .int .i64 n14) (e15 : ρ 15 = .int .i64 n15) (e16 : ρ 16 = .int .i64 n16) (e17 : ρ 17 = .int .i64 n17) (e18 : ρ 18 = .int .i64 n18) (h : F110_14 R J1 J2 p0 n1 n2 n3 p8 p9 p12 n14 n15 n16 n17 n18 ds w) :
    TrL Try.prog Try.f110.ntmps [c110_11_0_2_3_0_2, c110_11_0_2_3_0_3] (F110_q10 R J1 J2) ρ ds w :=
  TrL_head (K := (F110_k11 R J1 J2)) (Tr_block' (c := innerC c110_11_0_2_3_0_2) (by kernel_rfl) c110_11_0_2_3_0_2_l (F110_13_ok R J1 J2 p0 n1 n2 n3 p8 p9 p12 n14 n15 n16 n17 n18 ds w ρ e0 e1 e2 e3 e8 e9 e12 e14 e15 e16 e17 e18 h))
    (fun ρ' ds' w' hD => by
      obtain ⟨p0, e0, hD⟩ := dPtr_elim hD; obtain ⟨n1, e1, hD⟩ := dInt_elim hD; obtain ⟨n2, e2, hD⟩ := dInt_elim hD; obtain ⟨n3, e3, hD⟩ := dInt_elim hD; obtain ⟨p8, e8, hD⟩ := dPtr_elim hD; obtain ⟨p9, e9, hD⟩ := dPtr_elim hD; obtain ⟨p12, e12, hD⟩ := dPtr_elim hD; obtain ⟨n14, e14, hD⟩ := dInt_elim hD; obtain ⟨n15, e15, hD⟩ := dInt_elim hD; obtain ⟨n16, e16, hD⟩ := dInt_elim hD; obtain ⟨n17, e17, hD⟩ := dInt_elim hD; obtain ⟨n18, e18, hD⟩ := dInt_elim hD; exact F110_3_ok R J1 J2 p0 n1 n2 n3 p8 p9 p12 n14 n15 n16 n17 n18 ds' w' ρ' e0 e1 e2 e3 e8 e9 e12 e14 e15 e16 e17 e18 hD)
theorem F110_15_ok (R : Rt) (J1 : (Int) → World → Prop) (J2 : (Int) → World → Prop) (p0 : Option Addr) (n1 : Int) (n2 : Int) (n3 : Int) (p8 : Option Addr) (p9 : Option Addr) (p12 : Option Addr) (n14 : Int) (n15 : Int) (n16 : Int) (n17 : Int) (n18 : Int) (ds : Ds) (w : World) (ρ : Env) (e0 : ρ 0 = .pointer p0) (e1 : ρ 1 = .int .i64 n1) (e2 : ρ 2 = .int .i64 n2) (e3 : ρ 3 = .int .i64 n3) (e8 : ρ 8 = .pointer p8) (e9 : ρ 9 = .pointer p9) (e12 : ρ 12 = .pointer p12) (e14 : ρ 14 = .int .i64 n14) (e15 : ρ 15 = .int .i64 n15) (e16 : ρ 16 = .int .i64 n16) (e17 : ρ 17 = .int .i64 n17) (e18 : ρ 18 = .int .i64 n18) (h : F110_15 R J1 J2 p0 n1 n2 n3 p8 p9 p12 n14 n15 n16 n17 n18 ds w) :
    TrL Try.prog Try.f110.ntmps [c110_11_0_2_3_0_0, c110_11_0_2_3_0_1, c110_11_0_2_3_0_2, c110_11_0_2_3_0_3] (F110_q10 R J1 J2) ρ ds w :=
  TrL_piece (pre := [c110_11_0_2_3_0_0, c110_11_0_2_3_0_1]) (K := (F110_k24 R J1 J2)) (X := F110_15 R J1 J2 p0 n1 n2 n3 p8 p9 p12 n14 n15 n16 n17 n18 ds w) (setAll_cons e0 (setAll_cons e1 (setAll_cons e2 (setAll_cons e3 (setAll_cons e8 (setAll_cons e9 (setAll_cons e12 (setAll_cons e14 (setAll_cons e15 (setAll_cons e16 (setAll_cons e17 (setAll_cons e18 setAll_nil)))))))))))) (by kernel_rfl) (by kernel_rfl)
    (fun ρ' ds' w' hD => by
      obtain ⟨p0, e0, hD⟩ := dPtr_elim hD; obtain ⟨n1, e1, hD⟩ := dInt_elim hD; obtain ⟨n2, e2, hD⟩ := dInt_elim hD; obtain ⟨n3, e3, hD⟩ := dInt_elim hD; obtain ⟨p8, e8, hD⟩ := dPtr_elim hD; obtain ⟨p9, e9, hD⟩ := dPtr_elim hD; obtain ⟨p12, e12, hD⟩ := dPtr_elim hD; obtain ⟨n14, e14, hD⟩ := dInt_elim hD; obtain ⟨n15, e15, hD⟩ := dInt_elim hD; obtain ⟨n16, e16, hD⟩ := dInt_elim hD; obtain ⟨n17, e17, hD⟩ := dInt_elim hD; obtain ⟨n18, e18, hD⟩ := dInt_elim hD; exact F110_14_ok R J1 J2 p0 n1 n2 n3 p8 p9 p12 n14 n15 n16 n17 n18 ds' w' ρ' e0 e1 e2 e3 e8 e9 e12 e14 e15 e16 e17 e18 hD) h
theorem F110_16_ok (R : Rt) (J1 : (Int) → World → Prop) (p0 : Option Addr) (n1 : Int) (n2 : Int) (n3 : Int) (p8 : Option Addr) (p9 : Option Addr) (p12 : Option Addr) (n14 : Int) (n15 : Int) (n16 : Int) (n17 : Int) (n18 : Int) (ds : Ds) (w : World) (ρ : Env) (e0 : ρ 0 = .pointer p0) (e1 : ρ 1 = .int .i64 n1) (e2 : ρ 2 = .int .i64 n2) (e3 : ρ 3 = .int .i64 n3) (e8 : ρ 8 = .pointer p8) (e9 : ρ 9 = .pointer p9) (e12 : ρ 12 = .pointer p12) (e14 : ρ 14 = .int .i64 n14) (e15 : ρ 15 = .int .i64 n15) (e16 : ρ 16 = .int .i64 n16) (e17 : ρ 17 = .int .i64 n17) (e18 : ρ 18 = .int .i64 n18) (h : F110_16 R J1 p0 n1 n2 n3 p8 p9 p12 n14 n15 n16 n17 n18 ds w) :
    TrL Try.prog Try.f110.ntmps [c110_11_0_2_3_0] (F110_q9 R J1) ρ ds w :=
  TrL_one (Tr_loop' (c := innerC c110_11_0_2_3_0) (σ := Int) (enc := (fun (s : Int) (ρ : Env) => ρ 18 = .int .i64 s)) (D := (fun ρ K => dInt .i64 (ρ 18) fun n18 => K n18)) (F := (fun (J2 : (Int) → World → Prop) (s : Int) (w : World) => F110_15 R J1 J2 p0 n1 n2 n3 p8 p9 p12 n14 n15 n16 n17 s ds w)) (s0 := n18) (by kernel_rfl) c110_11_0_2_3_0_l e18 (by kernel_rfl) (fun ρ K hD => by obtain ⟨n18, e18, hD⟩ := dInt_elim hD; exact ⟨n18, e18, hD⟩)
      (fun J2 s ρ' w' he ha hF => by
      have e18' := he
      exact F110_15_ok R J1 J2 p0 n1 n2 n3 p8 p9 p12 n14 n15 n16 n17 s ds w' ρ' ((ha 0 (by kernel_rfl)).trans e0) ((ha 1 (by kernel_rfl)).trans e1) ((ha 2 (by kernel_rfl)).trans e2) ((ha 3 (by kernel_rfl)).trans e3) ((ha 8 (by kernel_rfl)).trans e8) ((ha 9 (by kernel_rfl)).trans e9) ((ha 12 (by kernel_rfl)).trans e12) ((ha 14 (by kernel_rfl)).trans e14) ((ha 15 (by kernel_rfl)).trans e15) ((ha 16 (by kernel_rfl)).trans e16) ((ha 17 (by kernel_rfl)).trans e17) e18' hF) h)
theorem F110_17_ok (R : Rt) (J1 : (Int) → World → Prop) (p0 : Option Addr) (n1 : Int) (n2 : Int) (n3 : Int) (p8 : Option Addr) (p9 : Option Addr) (p12 : Option Addr) (n14 : Int) (n15 : Int) (n16 : Int) (n17 : Int) (n18 : Int) (ds : Ds) (w : World) (ρ : Env) (e0 : ρ 0 = .pointer p0) (e1 : ρ 1 = .int .i64 n1) (e2 : ρ 2 = .int .i64 n2) (e3 : ρ 3 = .int .i64 n3) (e8 : ρ 8 = .pointer p8) (e9 : ρ 9 = .pointer p9) (e12 : ρ 12 = .pointer p12) (e14 : ρ 14 = .int .i64 n14) (e15 : ρ 15 = .int .i64 n15) (e16 : ρ 16 = .int .i64 n16) (e17 : ρ 17 = .int .i64 n17) (e18 : ρ 18 = .int .i64 n18) (h : F110_17 R J1 p0 n1 n2 n3 p8 p9 p12 n14 n15 n16 n17 n18 ds w) :
    TrL Try.prog Try.f110.ntmps [c110_11_0_2_3] (F110_q8 R J1) ρ ds w :=
  TrL_one (Tr_block' (c := innerC c110_11_0_2_3) (by kernel_rfl) c110_11_0_2_3_l (F110_16_ok R J1 p0 n1 n2 n3 p8 p9 p12 n14 n15 n16 n17 n18 ds w ρ e0 e1 e2 e3 e8 e9 e12 e14 e15 e16 e17 e18 h))
theorem F110_18_ok (R : Rt) (J1 : (Int) → World → Prop) (p0 : Option Addr) (n1 : Int) (n2 : Int) (n3 : Int) (p8 : Option Addr) (p9 : Option Addr) (p12 : Option Addr) (n14 : Int) (ds : Ds) (w : World) (ρ : Env) (e0 : ρ 0 = .pointer p0) (e1 : ρ 1 = .int .i64 n1) (e2 : ρ 2 = .int .i64 n2) (e3 : ρ 3 = .int .i64 n3) (e8 : ρ 8 = .pointer p8) (e9 : ρ 9 = .pointer p9) (e12 : ρ 12 = .pointer p12) (e14 : ρ 14 = .int .i64 n14) (h : F110_18 R J1 p0 n1 n2 n3 p8 p9 p12 n14 ds w) :
    TrL Try.prog Try.f110.ntmps [c110_11_0_2_0, c110_11_0_2_1, c110_11_0_2_2, c110_11_0_2_3] (F110_q8 R J1) ρ ds w :=
  TrL_piece (pre := [c110_11_0_2_0, c110_11_0_2_1, c110_11_0_2_2]) (K := (F110_k25 R J1)) (X := F110_18 R J1 p0 n1 n2 n3 p8 p9 p12 n14 ds w) (setAll_cons e0 (setAll_cons e1 (setAll_cons e2 (setAll_cons e3 (setAll_cons e8 (setAll_cons e9 (setAll_cons e12 (setAll_cons e14 setAll_nil)))))))) (by kernel_rfl) (by kernel_rfl)
    (fun ρ' ds' w' hD => by
      obtain ⟨p0, e0, hD⟩ := dPtr_elim hD; obtain ⟨n1, e1, hD⟩ := dInt_elim hD; obtain ⟨n2, e2, hD⟩ := dInt_elim hD; obtain ⟨n3, e3, hD⟩ := dInt_elim hD; obtain ⟨p8, e8, hD⟩ := dPtr_elim hD; obtain ⟨p9, e9, hD⟩ := dPtr_elim hD; obtain ⟨p12, e12, hD⟩ := dPtr_elim hD; obtain ⟨n14, e14, hD⟩ := dInt_elim hD; obtain ⟨n15, e15, hD⟩ := dInt_elim hD; obtain ⟨n16, e16, hD⟩ := dInt_elim hD; obtain ⟨n17, e17, hD⟩ := dInt_elim hD; obtain ⟨n18, e18, hD⟩ := dInt_elim hD; exact F110_17_ok R J1 p0 n1 n2 n3 p8 p9 p12 n14 n15 n16 n17 n18 ds' w' ρ' e0 e1 e2 e3 e8 e9 e12 e14 e15 e16 e17 e18 hD) h
theorem F110_19_ok (R : Rt) (J1 : (Int) → World → Prop) (p0 : Option Addr) (n1 : Int) (n2 : Int) (n3 : Int) (p8 : Option Addr) (p9 : Option Addr) (p12 : Option Addr) (n14 : Int) (ds : Ds) (w : World) (ρ : Env) (e0 : ρ 0 = .pointer p0) (e1 : ρ 1 = .int .i64 n1) (e2 : ρ 2 = .int .i64 n2) (e3 : ρ 3 = .int .i64 n3) (e8 : ρ 8 = .pointer p8) (e9 : ρ 9 = .pointer p9) (e12 : ρ 12 = .pointer p12) (e14 : ρ 14 = .int .i64 n14) (h : F110_19 R J1 p0 n1 n2 n3 p8 p9 p12 n14 ds w) :
    TrL Try.prog Try.f110.ntmps [c110_11_0_2, c110_11_0_3] (F110_q5 R J1) ρ ds w :=
  TrL_head (K := (F110_k6 R J1)) (Tr_block' (c := innerC c110_11_0_2) (by kernel_rfl) c110_11_0_2_l (F110_18_ok R J1 p0 n1 n2 n3 p8 p9 p12 n14 ds w ρ e0 e1 e2 e3 e8 e9 e12 e14 h))
    (fun ρ' ds' w' hD => by
      obtain ⟨p0, e0, hD⟩ := dPtr_elim hD; obtain ⟨n1, e1, hD⟩ := dInt_elim hD; obtain ⟨n2, e2, hD⟩ := dInt_elim hD; obtain ⟨n3, e3, hD⟩ := dInt_elim hD; obtain ⟨p8, e8, hD⟩ := dPtr_elim hD; obtain ⟨p9, e9, hD⟩ := dPtr_elim hD; obtain ⟨p12, e12, hD⟩ := dPtr_elim hD; obtain ⟨n14, e14, hD⟩ := dInt_elim hD; exact F110_2_ok R J1 p0 n1 n2 n3 p8 p9 p12 n14 ds' w' ρ' e0 e1 e2 e3 e8 e9 e12 e14 hD)
theorem F110_20_ok (R : Rt) (J1 : (Int) → World → Prop) (p0 : Option Addr) (n1 : Int) (n2 : Int) (n3 : Int) (p8 : Option Addr) (p9 : Option Addr) (p12 : Option Addr) (n14 : Int) (ds : Ds) (w : World) (ρ : Env) (e0 : ρ 0 = .pointer p0) (e1 : ρ 1 = .int .i64 n1) (e2 : ρ 2 = .int .i64 n2) (e3 : ρ 3 = .int .i64 n3) (e8 : ρ 8 = .pointer p8) (e9 : ρ 9 = .pointer p9) (e12 : ρ 12 = .pointer p12) (e14 : ρ 14 = .int .i64 n14) (h : F110_20 R J1 p0 n1 n2 n3 p8 p9 p12 n14 ds w) :
    TrL Try.prog Try.f110.ntmps [c110_11_0_0, c110_11_0_1, c110_11_0_2, c110_11_0_3] (F110_q5 R J1) ρ ds w :=
  TrL_piece (pre := [c110_11_0_0, c110_11_0_1]) (K := (F110_k26 R J1)) (X := F110_20 R J1 p0 n1 n2 n3 p8 p9 p12 n14 ds w) (setAll_cons e0 (setAll_cons e1 (setAll_cons e2 (setAll_cons e3 (setAll_cons e8 (setAll_cons e9 (setAll_cons e12 (setAll_cons e14 setAll_nil)))))))) (by kernel_rfl) (by kernel_rfl)
    (fun ρ' ds' w' hD => by
      obtain ⟨p0, e0, hD⟩ := dPtr_elim hD; obtain ⟨n1, e1, hD⟩ := dInt_elim hD; obtain ⟨n2, e2, hD⟩ := dInt_elim hD; obtain ⟨n3, e3, hD⟩ := dInt_elim hD; obtain ⟨p8, e8, hD⟩ := dPtr_elim hD; obtain ⟨p9, e9, hD⟩ := dPtr_elim hD; obtain ⟨p12, e12, hD⟩ := dPtr_elim hD; obtain ⟨n14, e14, hD⟩ := dInt_elim hD; exact F110_19_ok R J1 p0 n1 n2 n3 p8 p9 p12 n14 ds' w' ρ' e0 e1 e2 e3 e8 e9 e12 e14 hD) h
theorem F110_21_ok (R : Rt) (p0 : Option Addr) (n1 : Int) (n2 : Int) (n3 : Int) (p8 : Option Addr) (p9 : Option Addr) (p12 : Option Addr) (n14 : Int) (ds : Ds) (w : World) (ρ : Env) (e0 : ρ 0 = .pointer p0) (e1 : ρ 1 = .int .i64 n1) (e2 : ρ 2 = .int .i64 n2) (e3 : ρ 3 = .int .i64 n3) (e8 : ρ 8 = .pointer p8) (e9 : ρ 9 = .pointer p9) (e12 : ρ 12 = .pointer p12) (e14 : ρ 14 = .int .i64 n14) (h : F110_21 R p0 n1 n2 n3 p8 p9 p12 n14 ds w) :
    TrL Try.prog Try.f110.ntmps [c110_11_0] (F110_q4 R) ρ ds w :=
  TrL_one (Tr_loop' (c := innerC c110_11_0) (σ := Int) (enc := (fun (s : Int) (ρ : Env) => ρ 14 = .int .i64 s)) (D := (fun ρ K => dInt .i64 (ρ 14) fun n14 => K n14)) (F := (fun (J1 : (Int) → World → Prop) (s : Int) (w : World) => F110_20 R J1 p0 n1 n2 n3 p8 p9 p12 s ds w)) (s0 := n14) (by kernel_rfl) c110_11_0_l e14 (by kernel_rfl) (fun ρ K hD => by obtain ⟨n14, e14, hD⟩ := dInt_elim hD; exact ⟨n14, e14, hD⟩)
      (fun J1 s ρ' w' he ha hF => by
      have e14' := he
      exact F110_20_ok R J1 p0 n1 n2 n3 p8 p9 p12 s ds w' ρ' ((ha 0 (by kernel_rfl)).trans e0) ((ha 1 (by kernel_rfl)).trans e1) ((ha 2 (by kernel_rfl)).trans e2) ((ha 3 (by kernel_rfl)).trans e3) ((ha 8 (by kernel_rfl)).trans e8) ((ha 9 (by kernel_rfl)).trans e9) ((ha 12 (by kernel_rfl)).trans e12) e14' hF) h)
theorem F110_22_ok (R : Rt) (p0 : Option Addr) (n1 : Int) (n2 : Int) (n3 : Int) (p8 : Option Addr) (p9 : Option Addr) (p12 : Option Addr) (n14 : Int) (ds : Ds) (w : World) (ρ : Env) (e0 : ρ 0 = .pointer p0) (e1 : ρ 1 = .int .i64 n1) (e2 : ρ 2 = .int .i64 n2) (e3 : ρ 3 = .int .i64 n3) (e8 : ρ 8 = .pointer p8) (e9 : ρ 9 = .pointer p9) (e12 : ρ 12 = .pointer p12) (e14 : ρ 14 = .int .i64 n14) (h : F110_22 R p0 n1 n2 n3 p8 p9 p12 n14 ds w) :
    TrL Try.prog Try.f110.ntmps [c110_11, c110_12, c110_13, c110_14] (F110_q1 R) ρ ds w :=
  TrL_head (K := (F110_k2 R)) (Tr_block' (c := innerC c110_11) (by kernel_rfl) c110_11_l (F110_21_ok R p0 n1 n2 n3 p8 p9 p12 n14 ds w ρ e0 e1 e2 e3 e8 e9 e12 e14 h))
    (fun ρ' ds' w' hD => by
      obtain ⟨p0, e0, hD⟩ := dPtr_elim hD; obtain ⟨p8, e8, hD⟩ := dPtr_elim hD; obtain ⟨p9, e9, hD⟩ := dPtr_elim hD; obtain ⟨p12, e12, hD⟩ := dPtr_elim hD; exact F110_1_ok R p0 p8 p9 p12 ds' w' ρ' e0 e8 e9 e12 hD)
theorem F110_23_ok (R : Rt) (p0 : Option Addr) (n1 : Int) (n2 : Int) (n3 : Int) (p8 : Option Addr) (p9 : Option Addr) (p12 : Option Addr) (ds : Ds) (w : World) (ρ : Env) (e0 : ρ 0 = .pointer p0) (e1 : ρ 1 = .int .i64 n1) (e2 : ρ 2 = .int .i64 n2) (e3 : ρ 3 = .int .i64 n3) (e8 : ρ 8 = .pointer p8) (e9 : ρ 9 = .pointer p9) (e12 : ρ 12 = .pointer p12) (h : F110_23 R p0 n1 n2 n3 p8 p9 p12 ds w) :
    TrL Try.prog Try.f110.ntmps [c110_8, c110_9, c110_10, c110_11, c110_12, c110_13, c110_14] (F110_q1 R) ρ ds w :=
  TrL_piece (pre := [c110_8, c110_9, c110_10]) (K := (F110_k27 R)) (X := F110_23 R p0 n1 n2 n3 p8 p9 p12 ds w) (setAll_cons e0 (setAll_cons e1 (setAll_cons e2 (setAll_cons e3 (setAll_cons e8 (setAll_cons e9 (setAll_cons e12 setAll_nil))))))) (by kernel_rfl) (by kernel_rfl)
    (fun ρ' ds' w' hD => by
      obtain ⟨p0, e0, hD⟩ := dPtr_elim hD; obtain ⟨n1, e1, hD⟩ := dInt_elim hD; obtain ⟨n2, e2, hD⟩ := dInt_elim hD; obtain ⟨n3, e3, hD⟩ := dInt_elim hD; obtain ⟨p8, e8, hD⟩ := dPtr_elim hD; obtain ⟨p9, e9, hD⟩ := dPtr_elim hD; obtain ⟨p12, e12, hD⟩ := dPtr_elim hD; obtain ⟨n14, e14, hD⟩ := dInt_elim hD; exact F110_22_ok R p0 n1 n2 n3 p8 p9 p12 n14 ds' w' ρ' e0 e1 e2 e3 e8 e9 e12 e14 hD) h
theorem F110_24_ok (R : Rt) (J1 : (Int) → World → Prop) (p0 : Option Addr) (n1 : Int) (n2 : Int) (n3 : Int) (p8 : Option Addr) (p9 : Option Addr) (p12 : Option Addr) (n13 : Int) (ds : Ds) (w : World) (ρ : Env) (e0 : ρ 0 = .pointer p0) (e1 : ρ 1 = .int .i64 n1) (e2 : ρ 2 = .int .i64 n2) (e3 : ρ 3 = .int .i64 n3) (e8 : ρ 8 = .pointer p8) (e9 : ρ 9 = .pointer p9) (e12 : ρ 12 = .pointer p12) (e13 : ρ 13 = .int .i64 n13) (h : F110_24 R J1 p0 n1 n2 n3 p8 p9 p12 n13 ds w) :
    TrL Try.prog Try.f110.ntmps [c110_7_0_0, c110_7_0_1, c110_7_0_2, c110_7_0_3] (F110_q31 R J1) ρ ds w :=
  TrL_leaf (X := F110_24 R J1 p0 n1 n2 n3 p8 p9 p12 n13 ds w) (setAll_cons e0 (setAll_cons e1 (setAll_cons e2 (setAll_cons e3 (setAll_cons e8 (setAll_cons e9 (setAll_cons e12 (setAll_cons e13 setAll_nil)))))))) (by kernel_rfl) (by kernel_rfl) h
theorem F110_25_ok (R : Rt) (p0 : Option Addr) (n1 : Int) (n2 : Int) (n3 : Int) (p8 : Option Addr) (p9 : Option Addr) (p12 : Option Addr) (n13 : Int) (ds : Ds) (w : World) (ρ : Env) (e0 : ρ 0 = .pointer p0) (e1 : ρ 1 = .int .i64 n1) (e2 : ρ 2 = .int .i64 n2) (e3 : ρ 3 = .int .i64 n3) (e8 : ρ 8 = .pointer p8) (e9 : ρ 9 = .pointer p9) (e12 : ρ 12 = .pointer p12) (e13 : ρ 13 = .int .i64 n13) (h : F110_25 R p0 n1 n2 n3 p8 p9 p12 n13 ds w) :
    TrL Try.prog Try.f110.ntmps [c110_7_0] (F110_q30 R) ρ ds w :=
  TrL_one (Tr_loop' (c := innerC c110_7_0) (σ := Int) (enc := (fun (s : Int) (ρ : Env) => ρ 13 = .int .i64 s)) (D := (fun ρ K => dInt .i64 (ρ 13) fun n13 => K n13)) (F := (fun (J1 : (Int) → World → Prop) (s : Int) (w : World) => F110_24 R J1 p0 n1 n2 n3 p8 p9 p12 s ds w)) (s0 := n13) (by kernel_rfl) c110_7_0_l e13 (by kernel_rfl) (fun ρ K hD => by obtain ⟨n13, e13, hD⟩ := dInt_elim hD; exact ⟨n13, e13, hD⟩)
      (fun J1 s ρ' w' he ha hF => by
      have e13' := he
      exact F110_24_ok R J1 p0 n1 n2 n3 p8 p9 p12 s ds w' ρ' ((ha 0 (by kernel_rfl)).trans e0) ((ha 1 (by kernel_rfl)).trans e1) ((ha 2 (by kernel_rfl)).trans e2) ((ha 3 (by kernel_rfl)).trans e3) ((ha 8 (by kernel_rfl)).trans e8) ((ha 9 (by kernel_rfl)).trans e9) ((ha 12 (by kernel_rfl)).trans e12) e13' hF) h)
theorem F110_26_ok (R : Rt) (p0 : Option Addr) (n1 : Int) (n2 : Int) (n3 : Int) (p8 : Option Addr) (p9 : Option Addr) (p12 : Option Addr) (n13 : Int) (ds : Ds) (w : World) (ρ : Env) (e0 : ρ 0 = .pointer p0) (e1 : ρ 1 = .int .i64 n1) (e2 : ρ 2 = .int .i64 n2) (e3 : ρ 3 = .int .i64 n3) (e8 : ρ 8 = .pointer p8) (e9 : ρ 9 = .pointer p9) (e12 : ρ 12 = .pointer p12) (e13 : ρ 13 = .int .i64 n13) (h : F110_26 R p0 n1 n2 n3 p8 p9 p12 n13 ds w) :
    TrL Try.prog Try.f110.ntmps [c110_7, c110_8, c110_9, c110_10, c110_11, c110_12, c110_13, c110_14] (F110_q1 R) ρ ds w :=
  TrL_head (K := (F110_k28 R)) (Tr_block' (c := innerC c110_7) (by kernel_rfl) c110_7_l (F110_25_ok R p0 n1 n2 n3 p8 p9 p12 n13 ds w ρ e0 e1 e2 e3 e8 e9 e12 e13 h))
    (fun ρ' ds' w' hD => by
      obtain ⟨p0, e0, hD⟩ := dPtr_elim hD; obtain ⟨n1, e1, hD⟩ := dInt_elim hD; obtain ⟨n2, e2, hD⟩ := dInt_elim hD; obtain ⟨n3, e3, hD⟩ := dInt_elim hD; obtain ⟨p8, e8, hD⟩ := dPtr_elim hD; obtain ⟨p9, e9, hD⟩ := dPtr_elim hD; obtain ⟨p12, e12, hD⟩ := dPtr_elim hD; exact F110_23_ok R p0 n1 n2 n3 p8 p9 p12 ds' w' ρ' e0 e1 e2 e3 e8 e9 e12 hD)
theorem F110_27_ok (R : Rt) (p0 : Option Addr) (n1 : Int) (n2 : Int) (n3 : Int) (ds : Ds) (w : World) (ρ : Env) (e0 : ρ 0 = .pointer p0) (e1 : ρ 1 = .int .i64 n1) (e2 : ρ 2 = .int .i64 n2) (e3 : ρ 3 = .int .i64 n3) (h : F110_27 R p0 n1 n2 n3 ds w) :
    TrL Try.prog Try.f110.ntmps [c110_0, c110_1, c110_2, c110_3, c110_4, c110_5, c110_6, c110_7, c110_8, c110_9, c110_10, c110_11, c110_12, c110_13, c110_14] (F110_q1 R) ρ ds w :=
  TrL_piece (pre := [c110_0, c110_1, c110_2, c110_3, c110_4, c110_5, c110_6]) (K := (F110_k32 R)) (X := F110_27 R p0 n1 n2 n3 ds w) (setAll_cons e0 (setAll_cons e1 (setAll_cons e2 (setAll_cons e3 setAll_nil)))) (by kernel_rfl) (by kernel_rfl)
    (fun ρ' ds' w' hD => by
      obtain ⟨p0, e0, hD⟩ := dPtr_elim hD; obtain ⟨n1, e1, hD⟩ := dInt_elim hD; obtain ⟨n2, e2, hD⟩ := dInt_elim hD; obtain ⟨n3, e3, hD⟩ := dInt_elim hD; obtain ⟨p8, e8, hD⟩ := dPtr_elim hD; obtain ⟨p9, e9, hD⟩ := dPtr_elim hD; obtain ⟨p12, e12, hD⟩ := dPtr_elim hD; obtain ⟨n13, e13, hD⟩ := dInt_elim hD; exact F110_26_ok R p0 n1 n2 n3 p8 p9 p12 n13 ds' w' ρ' e0 e1 e2 e3 e8 e9 e12 e13 hD) h
theorem F110_calls (p0 : Option Addr) (n1 : Int) (n2 : Int) (n3 : Int) (w : World) (R : Rt) (h : F110_27 R p0 n1 n2 n3 [] w) : Calls Try.prog 110 #[.pointer p0, .int .i64 n1, .int .i64 n2, .int .i64 n3] w R :=
  calls_of_L (l := [c110_0, c110_1, c110_2, c110_3, c110_4, c110_5, c110_6, c110_7, c110_8, c110_9, c110_10, c110_11, c110_12, c110_13, c110_14]) Try.func110 (by kernel_rfl) (by rw [Try.ntmps110]; exact Nat.le_of_ble_eq_true (by kernel_rfl)) c110_l
    (F110_27_ok R p0 n1 n2 n3 [] w _ rfl rfl rfl rfl h)
theorem F110_callsD (p0 : Option Addr) (n1 : Int) (n2 : Int) (n3 : Int) (w : World) (R : Rt) (u : FrameMode) (h : F110_27 R p0 n1 n2 n3 [] w) : CallsD Try.prog 110 #[.pointer p0, .int .i64 n1, .int .i64 n2, .int .i64 n3] u w fun e u' w' => u' = u ∧ R e w' :=
  callsD_of_L (l := [c110_0, c110_1, c110_2, c110_3, c110_4, c110_5, c110_6, c110_7, c110_8, c110_9, c110_10, c110_11, c110_12, c110_13, c110_14]) Try.func110 (by kernel_rfl) (by rw [Try.ntmps110]; exact Nat.le_of_ble_eq_true (by kernel_rfl)) (by kernel_rfl) c110_l
    (F110_27_ok R p0 n1 n2 n3 [] w _ rfl rfl rfl rfl h) u

end Go.Proofs.Ytcnenlmhbpijlaa
