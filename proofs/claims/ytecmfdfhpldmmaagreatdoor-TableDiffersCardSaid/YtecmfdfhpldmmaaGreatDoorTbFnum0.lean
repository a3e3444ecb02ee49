import Derived.Test.YtecmfdfhpldmmaaGreatDoorProg
import Derived.Test.YtecmfdfhpldmmaaGreatDoorShEight
/- Shallow texts of functions, printed by program, each checked by the kernel against the loaded code. No condition. -/
set_option maxRecDepth 100000
set_option linter.unusedVariables false
namespace Go.Proofs.YtecmfdfhpldmmaaGreatDoor
open Go.Sh
/-! function 118: cabinetry/cabinetryref01.Num -/
noncomputable def c118_0 : Code := itemAt (flat (bodyOf Tryz.f118)) 0
noncomputable def c118_1 : Code := itemAt (flat (bodyOf Tryz.f118)) 1
noncomputable def c118_2 : Code := itemAt (flat (bodyOf Tryz.f118)) 2
def F118_q1 (R : Rt) : EQ := endQ Tryz.prog Tryz.f118.results.toList R
def F118_1 (R : Rt) (n0 : Int) (ds : Ds) (w : World) : Prop :=
 alE (.cells #[.int .i64 0, .int .i64 0, .string (⟨#[]⟩ : ByteArray)] 25) w fun r2 w1 =>
 stA Tryz.prog 25 (⟨r2, 0, none⟩ : Addr) #[.int .i64 2, .int .i64 n0, .string (⟨#[]⟩ : ByteArray)] w1 fun w2 =>
 runD Tryz.prog ds w2 fun w3 =>
 ∃ nR0_0 : Int, w3.cell? ((⟨r2, 0, none⟩ : Addr).add 0) = some (.int .i64 nR0_0) ∧
 ∃ nR0_1 : Int, w3.cell? ((⟨r2, 0, none⟩ : Addr).add 1) = some (.int .i64 nR0_1) ∧
 ∃ sR0_2 : ByteArray, w3.cell? ((⟨r2, 0, none⟩ : Addr).add 2) = some (.string sR0_2) ∧
 R (.returned (.agg #[.int .i64 nR0_0, .int .i64 nR0_1, .string sR0_2])) w3
theorem c118_l : flat (bodyOf Tryz.f118) = [c118_0, c118_1, c118_2] := by kernel_rfl
theorem F118_1_ok (R : Rt) (n0 : Int) (ds : Ds) (w : World) (ρ : Env) (e0 : ρ 0 = .int .i64 n0) (h : F118_1 R n0 ds w) :
    TrL Tryz.prog Tryz.f118.ntmps [c118_0, c118_1, c118_2] (F118_q1 R) ρ ds w :=
  TrL_leaf (X := F118_1 R n0 ds w) (setAll_cons e0 setAll_nil) (by kernel_rfl) (by kernel_rfl) h
theorem F118_calls (n0 : Int) (w : World) (R : Rt) (h : F118_1 R n0 [] w) : Calls Tryz.prog 118 #[.int .i64 n0] w R :=
  calls_of_L (l := [c118_0, c118_1, c118_2]) Tryz.func118 (by kernel_rfl) (by rw [Tryz.ntmps118]; exact Nat.le_of_ble_eq_true (by kernel_rfl)) c118_l
    (F118_1_ok R n0 [] w _ rfl h)
theorem F118_callsD (n0 : Int) (w : World) (R : Rt) (u : FrameMode) (h : F118_1 R n0 [] w) : CallsD Tryz.prog 118 #[.int .i64 n0] u w fun e u' w' => u' = u ∧ R e w' :=
  callsD_of_L (l := [c118_0, c118_1, c118_2]) Tryz.func118 (by kernel_rfl) (by rw [Tryz.ntmps118]; exact Nat.le_of_ble_eq_true (by kernel_rfl)) (by kernel_rfl) c118_l
    (F118_1_ok R n0 [] w _ rfl h) u

end Go.Proofs.YtecmfdfhpldmmaaGreatDoor
