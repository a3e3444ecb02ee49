/- Shallow texts of functions, printed by program, each checked by the kernel against the loaded code. No condition. -/
import Derived.Test.YtnigfiljenfgjaaGreatProg
import Derived.Test.YtnigfiljenfgjaaGreatShEight
set_option maxRecDepth 100000
set_option linter.unusedVariables false
namespace Go.Proofs.YtnigfiljenfgjaaGreat
open Go.Sh
/-! function 4: cabinetry/cabinetrylaw19.DiskNils -/
noncomputable def c4_0 : Code := itemAt (flat (bodyOf Tryz.f4)) 0
noncomputable def c4_1 : Code := itemAt (flat (bodyOf Tryz.f4)) 1
noncomputable def c4_2 : Code := itemAt (flat (bodyOf Tryz.f4)) 2
noncomputable def c4_3 : Code := itemAt (flat (bodyOf Tryz.f4)) 3
noncomputable def c4_4 : Code := itemAt (flat (bodyOf Tryz.f4)) 4
noncomputable def c4_5 : Code := itemAt (flat (bodyOf Tryz.f4)) 5
noncomputable def c4_6 : Code := itemAt (flat (bodyOf Tryz.f4)) 6
def F4_q1 (R : Rt) : EQ := endQ Tryz.prog Tryz.f4.results.toList R
def F4_1 (R : Rt) (b4 : Bool) (ds : Ds) (w : World) : Prop :=
 runD Tryz.prog ds w fun w1 =>
 R (.returned (.bool b4)) w1
def F4_k2 (R : Rt) : EP := (fun ρ ds w => dBl (ρ 4) fun b4 => F4_1 R b4 ds w)
def F4_2 (R : Rt) (s1 : ByteArray) (p5 : Option Addr) (n7 : Int) (n9 : Int) (n11 : Int) (ds : Ds) (w : World) : Prop :=
 Calls Tryz.prog 16 #[.pointer p5, .string s1] w fun e w2 =>
 ∃ n33 : Int, e = .returned (.int .i64 n33) ∧
 Br (n33 == 9) (
 Br (n7 == 9) (
 Br (n9 == 9) (
 Br (n11 == 9) (
 Calls Tryz.prog 17 #[.pointer p5] w2 fun e w3 =>
 ∃ l49 : SV, e = .returned (.slice l49.a l49.len l49.cap) ∧
 Br (((l49.len : Nat) : Int) == 0) (
 Calls Tryz.prog 18 #[.pointer p5] w3 fun e w4 =>
 ∃ l55 : SV, e = .returned (.slice l55.a l55.len l55.cap) ∧
 Br (((l55.len : Nat) : Int) == 0) (
 Calls Tryz.prog 20 #[.pointer p5] w4 fun e w5 =>
 ∃ p62 : Option Addr, e = .returned (.pointer p62) ∧
 Calls Tryz.prog 19 #[.pointer p5, .pointer p62] w5 fun e w6 =>
 ∃ b63 : Bool, e = .returned (.bool b63) ∧
 Br b63 (
 Calls Tryz.prog 8 #[] w6 fun e w7 =>
 ∃ b66 : Bool, e = .returned (.bool b66) ∧
 F4_1 R b66 ds w7) (
 F4_1 R false ds w6)) (
 F4_1 R false ds w4)) (
 F4_1 R false ds w3)) (
 F4_1 R false ds w2)) (
 F4_1 R false ds w2)) (
 F4_1 R false ds w2)) (
 F4_1 R false ds w2)
def F4_k3 (R : Rt) : EP := (fun ρ ds w => dStr (ρ 1) fun s1 => dPtr (ρ 5) fun p5 => dInt .i64 (ρ 7) fun n7 => dInt .i64 (ρ 9) fun n9 => dInt .i64 (ρ 11) fun n11 => F4_2 R s1 p5 n7 n9 n11 ds w)
def F4_3 (R : Rt) (n0 : Int) (s1 : ByteArray) (ds : Ds) (w : World) : Prop :=
 Calls Tryz.prog 13 #[.pointer none, .int .i64 n0, .string s1, .int .i64 0, .int .i64 0] w fun e w8 =>
 ∃ l16_0 : SV, ∃ n16_1 : Int, e = .returned (.tuple #[.slice l16_0.a l16_0.len l16_0.cap, .int .i64 n16_1]) ∧
 Calls Tryz.prog 14 #[.pointer none, .int .i64 n0] w8 fun e w9 =>
 ∃ n22_0 : Int, ∃ n22_1 : Int, e = .returned (.tuple #[.int .i64 n22_0, .int .i64 n22_1]) ∧
 Calls Tryz.prog 15 #[.pointer none, .string s1] w9 fun e w10 =>
 ∃ l28_0 : SV, ∃ n28_1 : Int, e = .returned (.tuple #[.slice l28_0.a l28_0.len l28_0.cap, .int .i64 n28_1]) ∧
 F4_2 R s1 none n16_1 n22_1 n28_1 ds w10
theorem c4_l : flat (bodyOf Tryz.f4) = [c4_0, c4_1, c4_2, c4_3, c4_4, c4_5, c4_6] := by kernel_rfl
theorem F4_1_ok (R : Rt) (b4 : Bool) (ds : Ds) (w : World) (ρ : Env) (e4 : ρ 4 = .bool b4) (h : F4_1 R b4 ds w) :
    TrL Tryz.prog Tryz.f4.ntmps [c4_6] (F4_q1 R) ρ ds w :=
  TrL_leaf (X := F4_1 R b4 ds w) (setAll_cons e4 setAll_nil) (by kernel_rfl) (by kernel_rfl) h
theorem F4_2_ok (R : Rt) (s1 : ByteArray) (p5 : Option Addr) (n7 : Int) (n9 : Int) (n11 : Int) (ds : Ds) (w : World) (ρ : Env) (e1 : ρ 1 = .string s1) (e5 : ρ 5 = .pointer p5) (e7 : ρ 7 = .int .i64 n7) (e9 : ρ 9 = .int .i64 n9) (e11 : ρ 11 = .int .i64 n11) (h : F4_2 R s1 p5 n7 n9 n11 ds w) :
    TrL Tryz.prog Tryz.f4.ntmps [c4_5, c4_6] (F4_q1 R) ρ ds w :=
  TrL_piece (pre := [c4_5]) (K := (F4_k2 R)) (X := F4_2 R s1 p5 n7 n9 n11 ds w) (setAll_cons e1 (setAll_cons e5 (setAll_cons e7 (setAll_cons e9 (setAll_cons e11 setAll_nil))))) (by kernel_rfl) (by kernel_rfl)
    (fun ρ' ds' w' hD => by
      obtain ⟨b4, e4, hD⟩ := dBl_elim hD; exact F4_1_ok R b4 ds' w' ρ' e4 hD) h
theorem F4_3_ok (R : Rt) (n0 : Int) (s1 : ByteArray) (ds : Ds) (w : World) (ρ : Env) (e0 : ρ 0 = .int .i64 n0) (e1 : ρ 1 = .string s1) (h : F4_3 R n0 s1 ds w) :
    TrL Tryz.prog Tryz.f4.ntmps [c4_0, c4_1, c4_2, c4_3, c4_4, c4_5, c4_6] (F4_q1 R) ρ ds w :=
  TrL_piece (pre := [c4_0, c4_1, c4_2, c4_3, c4_4]) (K := (F4_k3 R)) (X := F4_3 R n0 s1 ds w) (setAll_cons e0 (setAll_cons e1 setAll_nil)) (by kernel_rfl) (by kernel_rfl)
    (fun ρ' ds' w' hD => by
      obtain ⟨s1, e1, hD⟩ := dStr_elim hD; obtain ⟨p5, e5, hD⟩ := dPtr_elim hD; obtain ⟨n7, e7, hD⟩ := dInt_elim hD; obtain ⟨n9, e9, hD⟩ := dInt_elim hD; obtain ⟨n11, e11, hD⟩ := dInt_elim hD; exact F4_2_ok R s1 p5 n7 n9 n11 ds' w' ρ' e1 e5 e7 e9 e11 hD) h
theorem F4_calls (n0 : Int) (s1 : ByteArray) (w : World) (R : Rt) (h : F4_3 R n0 s1 [] w) : Calls Tryz.prog 4 #[.int .i64 n0, .string s1] w R :=
  calls_of_L (l := [c4_0, c4_1, c4_2, c4_3, c4_4, c4_5, c4_6]) Tryz.func4 (by kernel_rfl) (by rw [Tryz.ntmps4]; exact Nat.le_of_ble_eq_true (by kernel_rfl)) c4_l
    (F4_3_ok R n0 s1 [] w _ rfl rfl h)
theorem F4_callsD (n0 : Int) (s1 : ByteArray) (w : World) (R : Rt) (u : FrameMode) (h : F4_3 R n0 s1 [] w) : CallsD Tryz.prog 4 #[.int .i64 n0, .string s1] u w fun e u' w' => u' = u ∧ R e w' :=
  callsD_of_L (l := [c4_0, c4_1, c4_2, c4_3, c4_4, c4_5, c4_6]) Tryz.func4 (by kernel_rfl) (by rw [Tryz.ntmps4]; exact Nat.le_of_ble_eq_true (by kernel_rfl)) (by kernel_rfl) c4_l
    (F4_3_ok R n0 s1 [] w _ rfl rfl h) u

end Go.Proofs.YtnigfiljenfgjaaGreat
