import Derived.Test.YtecmfdfhpldmmaaGreatDoorProg
import Derived.Test.YtecmfdfhpldmmaaGreatDoorShEight
/- Shallow texts of functions, printed by program, each checked by the kernel against the loaded code. No condition. -/
set_option maxRecDepth 100000
set_option linter.unusedVariables false
namespace Go.Proofs.YtecmfdfhpldmmaaGreatDoor
open Go.Sh
/-! function 112: (*strings.Builder).String -/
noncomputable def c112_0 : Code := itemAt (flat (bodyOf Tryz.f112)) 0
noncomputable def c112_1 : Code := itemAt (flat (bodyOf Tryz.f112)) 1
noncomputable def c112_2 : Code := itemAt (flat (bodyOf Tryz.f112)) 2
def F112_q1 (R : Rt) : EQ := endQ Tryz.prog Tryz.f112.results.toList R
def F112_1 (R : Rt) (p0 : Option Addr) (ds : Ds) (w : World) : Prop :=
 dwE w fun w1 =>
 ∃ S1 : World → Prop, S1 w1 ∧
 ptrE p0 fun a2 =>
 ∃ l6 : SV, (∀ w', S1 w' → w'.cell? (a2.add 1) = some (.slice l6.a l6.len l6.cap)) ∧
 ptrE p0 fun a3 =>
 ∃ l11 : SV, (∀ w', S1 w' → w'.cell? (a3.add 1) = some (.slice l11.a l11.len l11.cap)) ∧
 ∃ p7 : Option Addr, ∃ w4 : World, (Builtin.unsafeSliceData_ #[37] 157 #[.slice l6.a l6.len l6.cap]).run Tryz.prog w1 = .ok (.pointer p7) w4 ∧
 S1 w4 ∧
 ∃ s13 : ByteArray, ∃ w5 : World, (Builtin.unsafeString_ #[157, 3] 9 #[.pointer p7, .int .i64 ((l11.len : Nat) : Int)]).run Tryz.prog w4 = .ok (.string s13) w5 ∧
 runD Tryz.prog ds w5 fun w6 =>
 R (.returned (.string s13)) w6
theorem c112_l : flat (bodyOf Tryz.f112) = [c112_0, c112_1, c112_2] := by kernel_rfl
theorem F112_1_ok (R : Rt) (p0 : Option Addr) (ds : Ds) (w : World) (ρ : Env) (e0 : ρ 0 = .pointer p0) (h : F112_1 R p0 ds w) :
    TrL Tryz.prog Tryz.f112.ntmps [c112_0, c112_1, c112_2] (F112_q1 R) ρ ds w :=
  TrL_leaf (X := F112_1 R p0 ds w) (setAll_cons e0 setAll_nil) (by kernel_rfl) (by kernel_rfl) h
theorem F112_calls (p0 : Option Addr) (w : World) (R : Rt) (h : F112_1 R p0 [] w) : Calls Tryz.prog 112 #[.pointer p0] w R :=
  calls_of_L (l := [c112_0, c112_1, c112_2]) Tryz.func112 (by kernel_rfl) (by rw [Tryz.ntmps112]; exact Nat.le_of_ble_eq_true (by kernel_rfl)) c112_l
    (F112_1_ok R p0 [] w _ rfl h)
theorem F112_callsD (p0 : Option Addr) (w : World) (R : Rt) (u : FrameMode) (h : F112_1 R p0 [] w) : CallsD Tryz.prog 112 #[.pointer p0] u w fun e u' w' => u' = u ∧ R e w' :=
  callsD_of_L (l := [c112_0, c112_1, c112_2]) Tryz.func112 (by kernel_rfl) (by rw [Tryz.ntmps112]; exact Nat.le_of_ble_eq_true (by kernel_rfl)) (by kernel_rfl) c112_l
    (F112_1_ok R p0 [] w _ rfl h) u

end Go.Proofs.YtecmfdfhpldmmaaGreatDoor
