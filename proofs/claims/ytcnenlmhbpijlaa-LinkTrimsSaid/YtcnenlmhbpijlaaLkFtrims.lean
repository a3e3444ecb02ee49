import Derived.Test.YtcnenlmhbpijlaaProg
import Derived.Test.YtcnenlmhbpijlaaShEight
/- Shallow texts of functions, printed by program, each checked by the kernel against the loaded code. No condition. -/
set_option maxRecDepth 100000
set_option linter.unusedVariables false
namespace Go.Proofs.Ytcnenlmhbpijlaa
open Go.Sh
/-! function 11: cabinetry/cabinetrylaw24.LinkTrims -/
noncomputable def c11_0 : Code := itemAt (flat (bodyOf Try.f11)) 0
noncomputable def c11_1 : Code := itemAt (flat (bodyOf Try.f11)) 1
noncomputable def c11_2 : Code := itemAt (flat (bodyOf Try.f11)) 2
noncomputable def c11_3 : Code := itemAt (flat (bodyOf Try.f11)) 3
noncomputable def c11_4 : Code := itemAt (flat (bodyOf Try.f11)) 4
noncomputable def c11_5 : Code := itemAt (flat (bodyOf Try.f11)) 5
noncomputable def c11_6 : Code := itemAt (flat (bodyOf Try.f11)) 6
noncomputable def c11_7 : Code := itemAt (flat (bodyOf Try.f11)) 7
noncomputable def c11_8 : Code := itemAt (flat (bodyOf Try.f11)) 8
noncomputable def c11_9 : Code := itemAt (flat (bodyOf Try.f11)) 9
noncomputable def c11_10 : Code := itemAt (flat (bodyOf Try.f11)) 10
noncomputable def c11_11 : Code := itemAt (flat (bodyOf Try.f11)) 11
noncomputable def c11_12 : Code := itemAt (flat (bodyOf Try.f11)) 12
def F11_q1 (R : Rt) : EQ := endQ Try.prog Try.f11.results.toList R
def F11_1 (R : Rt) (l0 : SV) (s1 : ByteArray) (l2 : SV) (l7 : SV) (ds : Ds) (w : World) : Prop :=
 Calls Try.prog 29 #[.slice l0.a l0.len l0.cap, .string s1] w fun e w1 =>
 ∃ l44_0 : SV, ∃ n44_1 : Int, e = .returned (.tuple #[.slice l44_0.a l44_0.len l44_0.cap, .int .i64 n44_1]) ∧
 Calls Try.prog 29 #[.slice l7.a l7.len l7.cap, .string s1] w1 fun e w2 =>
 ∃ l50_0 : SV, ∃ n50_1 : Int, e = .returned (.tuple #[.slice l50_0.a l50_0.len l50_0.cap, .int .i64 n50_1]) ∧
 Calls Try.prog 17 #[.slice l0.a l0.len l0.cap, .string s1, .slice l2.a l2.len l2.cap] w2 fun e w3 =>
 ∃ n57_0 : Int, ∃ n57_1 : Int, e = .returned (.tuple #[.int .i64 n57_0, .int .i64 n57_1]) ∧
 Calls Try.prog 17 #[.slice l7.a l7.len l7.cap, .string s1, .slice l2.a l2.len l2.cap] w3 fun e w4 =>
 ∃ n64_0 : Int, ∃ n64_1 : Int, e = .returned (.tuple #[.int .i64 n64_0, .int .i64 n64_1]) ∧
 Calls Try.prog 31 #[.slice l7.a l7.len l7.cap, .string s1] w4 fun e w5 =>
 ∃ l70_0 : SV, ∃ n70_1 : Int, e = .returned (.tuple #[.slice l70_0.a l70_0.len l70_0.cap, .int .i64 n70_1]) ∧
 Calls Try.prog 25 #[.slice l44_0.a l44_0.len l44_0.cap, .slice l50_0.a l50_0.len l50_0.cap] w5 fun e w6 =>
 ∃ b75 : Bool, e = .returned (.bool b75) ∧
 Br b75 (
 Br (n50_1 == 0) (
 Br (n57_0 == n64_0) (
 Br (n57_1 == n64_1) (
 Calls Try.prog 36 #[.slice l70_0.a l70_0.len l70_0.cap, .slice l7.a l7.len l7.cap] w6 fun e w7 =>
 ∃ b93 : Bool, e = .returned (.bool b93) ∧
 Br b93 (
 Br (n70_1 == 0) (
 Calls Try.prog 16 #[] w7 fun e w8 =>
 ∃ b100 : Bool, e = .returned (.bool b100) ∧
 runD Try.prog ds w8 fun w9 =>
 R (.returned (.bool b100)) w9) (
 runD Try.prog ds w7 fun w10 =>
 R (.returned (.bool false)) w10)) (
 runD Try.prog ds w7 fun w11 =>
 R (.returned (.bool false)) w11)) (
 runD Try.prog ds w6 fun w12 =>
 R (.returned (.bool false)) w12)) (
 runD Try.prog ds w6 fun w13 =>
 R (.returned (.bool false)) w13)) (
 runD Try.prog ds w6 fun w14 =>
 R (.returned (.bool false)) w14)) (
 runD Try.prog ds w6 fun w15 =>
 R (.returned (.bool false)) w15)
def F11_k2 (R : Rt) : EP := (fun ρ ds w => dSl (ρ 0) fun l0 => dStr (ρ 1) fun s1 => dSl (ρ 2) fun l2 => dSl (ρ 7) fun l7 => F11_1 R l0 s1 l2 l7 ds w)
def F11_2 (R : Rt) (l0 : SV) (s1 : ByteArray) (l2 : SV) (ds : Ds) (w : World) : Prop :=
 Calls Try.prog 14 #[.slice l0.a l0.len l0.cap] w fun e w16 =>
 ∃ b20 : Bool, e = .returned (.bool b20) ∧
 Br b20 (
 Calls Try.prog 16 #[] w16 fun e w17 =>
 ∃ b31 : Bool, e = .returned (.bool b31) ∧
 runD Try.prog ds w17 fun w18 =>
 R (.returned (.bool b31)) w18) (
 Br (decide (((s1.size : Nat) : Int) > 65536)) (
 Calls Try.prog 16 #[] w16 fun e w19 =>
 ∃ b31 : Bool, e = .returned (.bool b31) ∧
 runD Try.prog ds w19 fun w20 =>
 R (.returned (.bool b31)) w20) (
 Calls Try.prog 15 #[.slice l2.a l2.len l2.cap] w16 fun e w21 =>
 ∃ n28 : Int, e = .returned (.int .i64 n28) ∧
 Br (decide (n28 > 65536)) (
 Calls Try.prog 16 #[] w21 fun e w22 =>
 ∃ b31 : Bool, e = .returned (.bool b31) ∧
 runD Try.prog ds w22 fun w23 =>
 R (.returned (.bool b31)) w23) (
 Calls Try.prog 31 #[.slice l0.a l0.len l0.cap, .string s1] w21 fun e w24 =>
 ∃ l35_0 : SV, ∃ n35_1 : Int, e = .returned (.tuple #[.slice l35_0.a l35_0.len l35_0.cap, .int .i64 n35_1]) ∧
 Br (n35_1 != 0) (
 Calls Try.prog 16 #[] w24 fun e w25 =>
 ∃ b40 : Bool, e = .returned (.bool b40) ∧
 runD Try.prog ds w25 fun w26 =>
 R (.returned (.bool b40)) w26) (
 F11_1 R l0 s1 l2 l35_0 ds w24))))
theorem c11_l : flat (bodyOf Try.f11) = [c11_0, c11_1, c11_2, c11_3, c11_4, c11_5, c11_6, c11_7, c11_8, c11_9, c11_10, c11_11, c11_12] := by kernel_rfl
theorem F11_1_ok (R : Rt) (l0 : SV) (s1 : ByteArray) (l2 : SV) (l7 : SV) (ds : Ds) (w : World) (ρ : Env) (e0 : ρ 0 = .slice l0.a l0.len l0.cap) (e1 : ρ 1 = .string s1) (e2 : ρ 2 = .slice l2.a l2.len l2.cap) (e7 : ρ 7 = .slice l7.a l7.len l7.cap) (h : F11_1 R l0 s1 l2 l7 ds w) :
    TrL Try.prog Try.f11.ntmps [c11_6, c11_7, c11_8, c11_9, c11_10, c11_11, c11_12] (F11_q1 R) ρ ds w :=
  TrL_leaf (X := F11_1 R l0 s1 l2 l7 ds w) (setAll_cons e0 (setAll_cons e1 (setAll_cons e2 (setAll_cons e7 setAll_nil)))) (by kernel_rfl) (by kernel_rfl) h
theorem F11_2_ok (R : Rt) (l0 : SV) (s1 : ByteArray) (l2 : SV) (ds : Ds) (w : World) (ρ : Env) (e0 : ρ 0 = .slice l0.a l0.len l0.cap) (e1 : ρ 1 = .string s1) (e2 : ρ 2 = .slice l2.a l2.len l2.cap) (h : F11_2 R l0 s1 l2 ds w) :
    TrL Try.prog Try.f11.ntmps [c11_0, c11_1, c11_2, c11_3, c11_4, c11_5, c11_6, c11_7, c11_8, c11_9, c11_10, c11_11, c11_12] (F11_q1 R) ρ ds w :=
  TrL_piece (pre := [c11_0, c11_1, c11_2, c11_3, c11_4, c11_5]) (K := (F11_k2 R)) (X := F11_2 R l0 s1 l2 ds w) (setAll_cons e0 (setAll_cons e1 (setAll_cons e2 setAll_nil))) (by kernel_rfl) (by kernel_rfl)
    (fun ρ' ds' w' hD => by
      obtain ⟨l0, e0, hD⟩ := dSl_elim hD; obtain ⟨s1, e1, hD⟩ := dStr_elim hD; obtain ⟨l2, e2, hD⟩ := dSl_elim hD; obtain ⟨l7, e7, hD⟩ := dSl_elim hD; exact F11_1_ok R l0 s1 l2 l7 ds' w' ρ' e0 e1 e2 e7 hD) h
theorem F11_calls (l0 : SV) (s1 : ByteArray) (l2 : SV) (w : World) (R : Rt) (h : F11_2 R l0 s1 l2 [] w) : Calls Try.prog 11 #[.slice l0.a l0.len l0.cap, .string s1, .slice l2.a l2.len l2.cap] w R :=
  calls_of_L (l := [c11_0, c11_1, c11_2, c11_3, c11_4, c11_5, c11_6, c11_7, c11_8, c11_9, c11_10, c11_11, c11_12]) Try.func11 (by kernel_rfl) (by rw [Try.ntmps11]; exact Nat.le_of_ble_eq_true (by kernel_rfl)) c11_l
    (F11_2_ok R l0 s1 l2 [] w _ rfl rfl rfl h)
theorem F11_callsD (l0 : SV) (s1 : ByteArray) (l2 : SV) (w : World) (R : Rt) (u : FrameMode) (h : F11_2 R l0 s1 l2 [] w) : CallsD Try.prog 11 #[.slice l0.a l0.len l0.cap, .string s1, .slice l2.a l2.len l2.cap] u w fun e u' w' => u' = u ∧ R e w' :=
  callsD_of_L (l := [c11_0, c11_1, c11_2, c11_3, c11_4, c11_5, c11_6, c11_7, c11_8, c11_9, c11_10, c11_11, c11_12]) Try.func11 (by kernel_rfl) (by rw [Try.ntmps11]; exact Nat.le_of_ble_eq_true (by kernel_rfl)) (by kernel_rfl) c11_l
    (F11_2_ok R l0 s1 l2 [] w _ rfl rfl rfl h) u

end Go.Proofs.Ytcnenlmhbpijlaa
