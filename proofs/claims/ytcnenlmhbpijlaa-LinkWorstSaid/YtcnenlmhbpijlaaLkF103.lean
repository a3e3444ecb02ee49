import Derived.Test.YtcnenlmhbpijlaaProg
import Derived.Test.YtcnenlmhbpijlaaShEight
/- Shallow texts of functions, printed by program, each checked by the kernel against the loaded code. No condition. -/
set_option maxRecDepth 100000
set_option linter.unusedVariables false
namespace Go.Proofs.Ytcnenlmhbpijlaa
open Go.Sh
/-! function 103: sort.Strings -/
noncomputable def c103_0 : Code := itemAt (flat (bodyOf Try.f103)) 0
def F103_q1 (R : Rt) : EQ := endQ Try.prog Try.f103.results.toList R
def F103_1 (R : Rt) (l0 : SV) (ds : Ds) (w : World) : Prop :=
 Calls Try.prog 97 #[.slice l0.a l0.len l0.cap] w fun e w1 =>
 e = .returned (.tuple #[]) ∧
 runD Try.prog ds w1 fun w2 =>
 R (.returned (.tuple #[])) w2
theorem c103_l : flat (bodyOf Try.f103) = [c103_0] := by kernel_rfl
theorem F103_1_ok (R : Rt) (l0 : SV) (ds : Ds) (w : World) (ρ : Env) (e0 : ρ 0 = .slice l0.a l0.len l0.cap) (h : F103_1 R l0 ds w) :
    TrL Try.prog Try.f103.ntmps [c103_0] (F103_q1 R) ρ ds w :=
  TrL_leaf (X := F103_1 R l0 ds w) (setAll_cons e0 setAll_nil) (by kernel_rfl) (by kernel_rfl) h
theorem F103_calls (l0 : SV) (w : World) (R : Rt) (h : F103_1 R l0 [] w) : Calls Try.prog 103 #[.slice l0.a l0.len l0.cap] w R :=
  calls_of_L (l := [c103_0]) Try.func103 (by kernel_rfl) (by rw [Try.ntmps103]; exact Nat.le_of_ble_eq_true (by kernel_rfl)) c103_l
    (F103_1_ok R l0 [] w _ rfl h)
theorem F103_callsD (l0 : SV) (w : World) (R : Rt) (u : FrameMode) (h : F103_1 R l0 [] w) : CallsD Try.prog 103 #[.slice l0.a l0.len l0.cap] u w fun e u' w' => u' = u ∧ R e w' :=
  callsD_of_L (l := [c103_0]) Try.func103 (by kernel_rfl) (by rw [Try.ntmps103]; exact Nat.le_of_ble_eq_true (by kernel_rfl)) (by kernel_rfl) c103_l
    (F103_1_ok R l0 [] w _ rfl h) u

end Go.Proofs.Ytcnenlmhbpijlaa
