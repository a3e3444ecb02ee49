import Derived.Test.YtecmfdfhpldmmaaGreatDoorProg
import Derived.Test.YtecmfdfhpldmmaaGreatDoorShEight
/- Shallow texts of functions, printed by program, each checked by the kernel against the loaded code. No condition. -/
set_option maxRecDepth 100000
set_option linter.unusedVariables false
namespace Go.Proofs.YtecmfdfhpldmmaaGreatDoor
open Go.Sh
open Tryz
@[reducible] noncomputable def cI0 (f : Func) (i : Nat) : Code := itemAt (flat (bodyOf f)) i
noncomputable def c49_0 := cI0 f49 0
noncomputable def c49_1 := cI0 f49 1
noncomputable def c49_2 := cI0 f49 2
noncomputable def c49_3 := cI0 f49 3
noncomputable def c49_4 := cI0 f49 4
noncomputable def c49_5 := cI0 f49 5
noncomputable def c49_6 := cI0 f49 6
def F49_q1 (R : Rt) : EQ := endQ prog f49.results.toList R
def F49_1 (R : Rt) (n0_0 n0_1 : Int) (s0_2 : ByteArray) (ds : Ds) (w : World) : Prop :=
 alE (.cells #[.int .i64 n0_0, .int .i64 n0_1, .string s0_2] 25) w fun r1 w1 =>
 ∃ s4 : ByteArray, w1.cell? ((⟨r1, 0, none⟩ : Addr).add 2) = some (.string s4) /\
 Br (decide ((s4.size : Int) > 2048)) (
 runD prog ds w1 fun w2 =>
 R (.returned (.int .i64 3)) w2) (
 ∃ n7_0 : Int, w1.cell? ((⟨r1, 0, none⟩ : Addr).add 0) = some (.int .i64 n7_0) /\
 ∃ n7_1 : Int, w1.cell? ((⟨r1, 0, none⟩ : Addr).add 1) = some (.int .i64 n7_1) /\
 ∃ s7_2 : ByteArray, w1.cell? ((⟨r1, 0, none⟩ : Addr).add 2) = some (.string s7_2) /\
 Calls prog 91 #[.agg #[.int .i64 n7_0, .int .i64 n7_1, .string s7_2]] w1 fun e w3 =>
 ∃ b8 : Bool, e = .returned (.bool b8) /\
 Br (!b8) (
 runD prog ds w3 fun w4 =>
 R (.returned (.int .i64 1)) w4) (
 runD prog ds w3 fun w5 =>
 R (.returned (.int .i64 0)) w5))
theorem c49_l : flat (bodyOf f49) = [c49_0, c49_1, c49_2, c49_3, c49_4, c49_5, c49_6] := by kernel_rfl
theorem F49_1_ok (R : Rt) (n0_0 n0_1 : Int) (s0_2 : ByteArray) (ds : Ds) (w : World) (E : Env) (e0 : E 0 = .agg #[.int .i64 n0_0, .int .i64 n0_1, .string s0_2]) (h : F49_1 R n0_0 n0_1 s0_2 ds w) :
    TrL prog f49.ntmps [c49_0, c49_1, c49_2, c49_3, c49_4, c49_5, c49_6] (F49_q1 R) E ds w :=
  TrL_leaf (X := F49_1 R n0_0 n0_1 s0_2 ds w) (setAll_cons e0 setAll_nil) (by kernel_rfl) (by kernel_rfl) h
theorem F49_calls (n0_0 n0_1 : Int) (s0_2 : ByteArray) (w : World) (R : Rt) (h : F49_1 R n0_0 n0_1 s0_2 [] w) : Calls prog 49 #[.agg #[.int .i64 n0_0, .int .i64 n0_1, .string s0_2]] w R :=
  calls_of_L (l := [c49_0, c49_1, c49_2, c49_3, c49_4, c49_5, c49_6]) func49 (by kernel_rfl) (by rw [ntmps49]; exact Nat.le_of_ble_eq_true (by kernel_rfl)) c49_l
    (F49_1_ok R n0_0 n0_1 s0_2 [] w _ rfl h)
noncomputable def c91_0 := cI0 f91 0
noncomputable def c91_1 := cI0 f91 1
noncomputable def c91_2 := cI0 f91 2
noncomputable def c91_3 := cI0 f91 3
noncomputable def c91_4 := cI0 f91 4
noncomputable def c91_5 := cI0 f91 5
noncomputable def c91_6 := cI0 f91 6
def F91_q1 (R : Rt) : EQ := endQ prog f91.results.toList R
def F91_1 (R : Rt) (p1 : Option Addr) (n22 : Int) (ds : Ds) (w : World) : Prop :=
 Br (n22 == 0) (
 ptrE p1 fun a1 =>
 ∃ n26 : Int, w.cell? (a1.add 1) = some (.int .i64 n26) /\
 runD prog ds w fun w2 =>
 R (.returned (.bool (n26 == 0))) w2) (
 Br (n22 == 1) (
 ptrE p1 fun a3 =>
 ∃ n31 : Int, w.cell? (a3.add 1) = some (.int .i64 n31) /\
 Br (n31 == 0) (
 runD prog ds w fun w4 =>
 R (.returned (.bool true)) w4) (
 ptrE p1 fun a5 =>
 ∃ n35 : Int, w.cell? (a5.add 1) = some (.int .i64 n35) /\
 runD prog ds w fun w6 =>
 R (.returned (.bool (n35 == 1))) w6)) (
 Br (n22 == 2) (
 ptrE p1 fun a7 =>
 ∃ n41 : Int, w.cell? (a7.add 1) = some (.int .i64 n41) /\
 Calls prog 97 #[.int .i64 n41] w fun e w8 =>
 ∃ b42 : Bool, e = .returned (.bool b42) /\
 runD prog ds w8 fun w9 =>
 R (.returned (.bool b42)) w9) (
 Br (n22 == 3) (
 ptrE p1 fun a10 =>
 ∃ n46 : Int, w.cell? (a10.add 1) = some (.int .i64 n46) /\
 Calls prog 136 #[.int .i64 n46] w fun e w11 =>
 ∃ b47 : Bool, e = .returned (.bool b47) /\
 runD prog ds w11 fun w12 =>
 R (.returned (.bool b47)) w12) (
 ptrE p1 fun a13 =>
 ∃ n49 : Int, w.cell? a13 = some (.int .i64 n49) /\
 runD prog ds w fun w14 =>
 R (.returned (.bool (n49 == 4))) w14))))
def F91_k2 (R : Rt) : EP := (fun E ds w => dPtr (E 1) fun p1 => dInt .i64 (E 22) fun n22 => F91_1 R p1 n22 ds w)
def F91_2 (R : Rt) (n0_0 n0_1 : Int) (s0_2 : ByteArray) (ds : Ds) (w : World) : Prop :=
 alE (.cells #[.int .i64 n0_0, .int .i64 n0_1, .string s0_2] 25) w fun r1 w15 =>
 ∃ n4 : Int, w15.cell? (⟨r1, 0, none⟩ : Addr) = some (.int .i64 n4) /\
 Br (n4 != 4) (
 ∃ s8 : ByteArray, w15.cell? ((⟨r1, 0, none⟩ : Addr).add 2) = some (.string s8) /\
 Br (!(s8.toList == (⟨#[]⟩ : ByteArray).toList)) (
 runD prog ds w15 fun w16 =>
 R (.returned (.bool false)) w16) (
 ∃ n13 : Int, w15.cell? (⟨r1, 0, none⟩ : Addr) = some (.int .i64 n13) /\
 Br (n13 == 4) (
 ∃ n17 : Int, w15.cell? ((⟨r1, 0, none⟩ : Addr).add 1) = some (.int .i64 n17) /\
 Br (n17 != 0) (
 runD prog ds w15 fun w17 =>
 R (.returned (.bool false)) w17) (
 ∃ n22 : Int, w15.cell? (⟨r1, 0, none⟩ : Addr) = some (.int .i64 n22) /\
 F91_1 R (some (⟨r1, 0, none⟩ : Addr)) n22 ds w15)) (
 ∃ n22 : Int, w15.cell? (⟨r1, 0, none⟩ : Addr) = some (.int .i64 n22) /\
 F91_1 R (some (⟨r1, 0, none⟩ : Addr)) n22 ds w15))) (
 ∃ n13 : Int, w15.cell? (⟨r1, 0, none⟩ : Addr) = some (.int .i64 n13) /\
 Br (n13 == 4) (
 ∃ n17 : Int, w15.cell? ((⟨r1, 0, none⟩ : Addr).add 1) = some (.int .i64 n17) /\
 Br (n17 != 0) (
 runD prog ds w15 fun w18 =>
 R (.returned (.bool false)) w18) (
 ∃ n22 : Int, w15.cell? (⟨r1, 0, none⟩ : Addr) = some (.int .i64 n22) /\
 F91_1 R (some (⟨r1, 0, none⟩ : Addr)) n22 ds w15)) (
 ∃ n22 : Int, w15.cell? (⟨r1, 0, none⟩ : Addr) = some (.int .i64 n22) /\
 F91_1 R (some (⟨r1, 0, none⟩ : Addr)) n22 ds w15))
theorem c91_l : flat (bodyOf f91) = [c91_0, c91_1, c91_2, c91_3, c91_4, c91_5, c91_6] := by kernel_rfl
theorem F91_1_ok (R : Rt) (p1 : Option Addr) (n22 : Int) (ds : Ds) (w : World) (E : Env) (e1 : E 1 = .pointer p1) (e22 : E 22 = .int .i64 n22) (h : F91_1 R p1 n22 ds w) :
    TrL prog f91.ntmps [c91_4, c91_5, c91_6] (F91_q1 R) E ds w :=
  TrL_leaf (X := F91_1 R p1 n22 ds w) (setAll_cons e1 (setAll_cons e22 setAll_nil)) (by kernel_rfl) (by kernel_rfl) h
theorem F91_2_ok (R : Rt) (n0_0 n0_1 : Int) (s0_2 : ByteArray) (ds : Ds) (w : World) (E : Env) (e0 : E 0 = .agg #[.int .i64 n0_0, .int .i64 n0_1, .string s0_2]) (h : F91_2 R n0_0 n0_1 s0_2 ds w) :
    TrL prog f91.ntmps [c91_0, c91_1, c91_2, c91_3, c91_4, c91_5, c91_6] (F91_q1 R) E ds w :=
  TrL_piece (pre := [c91_0, c91_1, c91_2, c91_3]) (K := (F91_k2 R)) (X := F91_2 R n0_0 n0_1 s0_2 ds w) (setAll_cons e0 setAll_nil) (by kernel_rfl) (by kernel_rfl)
    (fun E' ds' w' hD => by
      obtain ⟨p1, e1, hD⟩ := dPtr_elim hD; obtain ⟨n22, e22, hD⟩ := dInt_elim hD; exact F91_1_ok R p1 n22 ds' w' E' e1 e22 hD) h
theorem F91_calls (n0_0 n0_1 : Int) (s0_2 : ByteArray) (w : World) (R : Rt) (h : F91_2 R n0_0 n0_1 s0_2 [] w) : Calls prog 91 #[.agg #[.int .i64 n0_0, .int .i64 n0_1, .string s0_2]] w R :=
  calls_of_L (l := [c91_0, c91_1, c91_2, c91_3, c91_4, c91_5, c91_6]) func91 (by kernel_rfl) (by rw [ntmps91]; exact Nat.le_of_ble_eq_true (by kernel_rfl)) c91_l
    (F91_2_ok R n0_0 n0_1 s0_2 [] w _ rfl h)
noncomputable def c97_0 := cI0 f97 0
noncomputable def c97_1 := cI0 f97 1
noncomputable def c97_2 := cI0 f97 2
def F97_q1 (R : Rt) : EQ := endQ prog f97.results.toList R
def F97_1 (R : Rt) (n0 : Int) (ds : Ds) (w : World) : Prop :=
 Br (decide (n0 ≥ (-1000000000000000))) (
 runD prog ds w fun w1 =>
 R (.returned (.bool (decide (n0 ≤ 1000000000000000)))) w1) (
 runD prog ds w fun w2 =>
 R (.returned (.bool false)) w2)
theorem c97_l : flat (bodyOf f97) = [c97_0, c97_1, c97_2] := by kernel_rfl
theorem F97_1_ok (R : Rt) (n0 : Int) (ds : Ds) (w : World) (E : Env) (e0 : E 0 = .int .i64 n0) (h : F97_1 R n0 ds w) :
    TrL prog f97.ntmps [c97_0, c97_1, c97_2] (F97_q1 R) E ds w :=
  TrL_leaf (X := F97_1 R n0 ds w) (setAll_cons e0 setAll_nil) (by kernel_rfl) (by kernel_rfl) h
theorem F97_calls (n0 : Int) (w : World) (R : Rt) (h : F97_1 R n0 [] w) : Calls prog 97 #[.int .i64 n0] w R :=
  calls_of_L (l := [c97_0, c97_1, c97_2]) func97 (by kernel_rfl) (by rw [ntmps97]; exact Nat.le_of_ble_eq_true (by kernel_rfl)) c97_l
    (F97_1_ok R n0 [] w _ rfl h)
noncomputable def c136_0 := cI0 f136 0
noncomputable def c136_1 := cI0 f136 1
noncomputable def c136_2 := cI0 f136 2
def F136_q1 (R : Rt) : EQ := endQ prog f136.results.toList R
def F136_1 (R : Rt) (n0 : Int) (ds : Ds) (w : World) : Prop :=
 Br (decide (n0 ≥ 0)) (
 runD prog ds w fun w1 =>
 R (.returned (.bool (decide (n0 ≤ 3652059)))) w1) (
 runD prog ds w fun w2 =>
 R (.returned (.bool false)) w2)
theorem c136_l : flat (bodyOf f136) = [c136_0, c136_1, c136_2] := by kernel_rfl
theorem F136_1_ok (R : Rt) (n0 : Int) (ds : Ds) (w : World) (E : Env) (e0 : E 0 = .int .i64 n0) (h : F136_1 R n0 ds w) :
    TrL prog f136.ntmps [c136_0, c136_1, c136_2] (F136_q1 R) E ds w :=
  TrL_leaf (X := F136_1 R n0 ds w) (setAll_cons e0 setAll_nil) (by kernel_rfl) (by kernel_rfl) h
theorem F136_calls (n0 : Int) (w : World) (R : Rt) (h : F136_1 R n0 [] w) : Calls prog 136 #[.int .i64 n0] w R :=
  calls_of_L (l := [c136_0, c136_1, c136_2]) func136 (by kernel_rfl) (by rw [ntmps136]; exact Nat.le_of_ble_eq_true (by kernel_rfl)) c136_l
    (F136_1_ok R n0 [] w _ rfl h)
noncomputable def c57_0 := cI0 f57 0
noncomputable def c57_1 := cI0 f57 1
noncomputable def c57_2 := cI0 f57 2
noncomputable def c57_3 := cI0 f57 3
noncomputable def c57_4 := cI0 f57 4
noncomputable def c57_5 := cI0 f57 5
noncomputable def c57_6 := cI0 f57 6
noncomputable def c57_7 := cI0 f57 7
noncomputable def c57_8 := cI0 f57 8
noncomputable def c57_9 := cI0 f57 9
def F57_q1 (R : Rt) : EQ := endQ prog f57.results.toList R
def F57_1 (R : Rt) (p1 : Option Addr) (b3 : Bool) (ds : Ds) (w : World) : Prop :=
 Br (!b3) (
 runD prog ds w fun w1 =>
 R (.returned (.int .i64 1)) w1) (
 ptrE p1 fun a2 =>
 ∃ n49 : Int, w.cell? a2 = some (.int .i64 n49) /\
 Br (n49 != 4) (
 ptrE p1 fun a3 =>
 ∃ s53 : ByteArray, w.cell? (a3.add 2) = some (.string s53) /\
 Br (!(s53.toList == (⟨#[]⟩ : ByteArray).toList)) (
 runD prog ds w fun w4 =>
 R (.returned (.int .i64 1)) w4) (
 runD prog ds w fun w5 =>
 R (.returned (.int .i64 0)) w5)) (
 runD prog ds w fun w6 =>
 R (.returned (.int .i64 0)) w6))
def F57_k2 (R : Rt) : EP := (fun E ds w => dPtr (E 1) fun p1 => dBl (E 3) fun b3 => F57_1 R p1 b3 ds w)
def F57_2 (R : Rt) (n0_0 n0_1 : Int) (s0_2 : ByteArray) (ds : Ds) (w : World) : Prop :=
 alE (.cells #[.int .i64 n0_0, .int .i64 n0_1, .string s0_2] 25) w fun r1 w7 =>
 ∃ s5 : ByteArray, w7.cell? ((⟨r1, 0, none⟩ : Addr).add 2) = some (.string s5) /\
 Br (decide ((s5.size : Int) > 2048)) (
 runD prog ds w7 fun w8 =>
 R (.returned (.int .i64 3)) w8) (
 ∃ n9 : Int, w7.cell? (⟨r1, 0, none⟩ : Addr) = some (.int .i64 n9) /\
 Br (n9 == 0) (
 ∃ n13 : Int, w7.cell? ((⟨r1, 0, none⟩ : Addr).add 1) = some (.int .i64 n13) /\
 F57_1 R (some (⟨r1, 0, none⟩ : Addr)) (n13 == 0) ds w7) (
 Br (n9 == 1) (
 ∃ n18 : Int, w7.cell? ((⟨r1, 0, none⟩ : Addr).add 1) = some (.int .i64 n18) /\
 Br (n18 == 0) (
 F57_1 R (some (⟨r1, 0, none⟩ : Addr)) true ds w7) (
 ∃ n22 : Int, w7.cell? ((⟨r1, 0, none⟩ : Addr).add 1) = some (.int .i64 n22) /\
 F57_1 R (some (⟨r1, 0, none⟩ : Addr)) (n22 == 1) ds w7)) (
 Br (n9 == 2) (
 ∃ n28 : Int, w7.cell? ((⟨r1, 0, none⟩ : Addr).add 1) = some (.int .i64 n28) /\
 Calls prog 102 #[.int .i64 n28] w7 fun e w9 =>
 ∃ b29 : Bool, e = .returned (.bool b29) /\
 F57_1 R (some (⟨r1, 0, none⟩ : Addr)) b29 ds w9) (
 Br (n9 == 3) (
 ∃ n33 : Int, w7.cell? ((⟨r1, 0, none⟩ : Addr).add 1) = some (.int .i64 n33) /\
 Br (decide (n33 ≥ 0)) (
 ∃ n37 : Int, w7.cell? ((⟨r1, 0, none⟩ : Addr).add 1) = some (.int .i64 n37) /\
 F57_1 R (some (⟨r1, 0, none⟩ : Addr)) (decide (n37 ≤ 3652059)) ds w7) (
 F57_1 R (some (⟨r1, 0, none⟩ : Addr)) false ds w7)) (
 Br (n9 == 4) (
 ∃ n43 : Int, w7.cell? ((⟨r1, 0, none⟩ : Addr).add 1) = some (.int .i64 n43) /\
 F57_1 R (some (⟨r1, 0, none⟩ : Addr)) (n43 == 0) ds w7) (
 F57_1 R (some (⟨r1, 0, none⟩ : Addr)) false ds w7))))))
theorem c57_l : flat (bodyOf f57) = [c57_0, c57_1, c57_2, c57_3, c57_4, c57_5, c57_6, c57_7, c57_8, c57_9] := by kernel_rfl
theorem F57_1_ok (R : Rt) (p1 : Option Addr) (b3 : Bool) (ds : Ds) (w : World) (E : Env) (e1 : E 1 = .pointer p1) (e3 : E 3 = .bool b3) (h : F57_1 R p1 b3 ds w) :
    TrL prog f57.ntmps [c57_6, c57_7, c57_8, c57_9] (F57_q1 R) E ds w :=
  TrL_leaf (X := F57_1 R p1 b3 ds w) (setAll_cons e1 (setAll_cons e3 setAll_nil)) (by kernel_rfl) (by kernel_rfl) h
theorem F57_2_ok (R : Rt) (n0_0 n0_1 : Int) (s0_2 : ByteArray) (ds : Ds) (w : World) (E : Env) (e0 : E 0 = .agg #[.int .i64 n0_0, .int .i64 n0_1, .string s0_2]) (h : F57_2 R n0_0 n0_1 s0_2 ds w) :
    TrL prog f57.ntmps [c57_0, c57_1, c57_2, c57_3, c57_4, c57_5, c57_6, c57_7, c57_8, c57_9] (F57_q1 R) E ds w :=
  TrL_piece (pre := [c57_0, c57_1, c57_2, c57_3, c57_4, c57_5]) (K := (F57_k2 R)) (X := F57_2 R n0_0 n0_1 s0_2 ds w) (setAll_cons e0 setAll_nil) (by kernel_rfl) (by kernel_rfl)
    (fun E' ds' w' hD => by
      obtain ⟨p1, e1, hD⟩ := dPtr_elim hD; obtain ⟨b3, e3, hD⟩ := dBl_elim hD; exact F57_1_ok R p1 b3 ds' w' E' e1 e3 hD) h
theorem F57_calls (n0_0 n0_1 : Int) (s0_2 : ByteArray) (w : World) (R : Rt) (h : F57_2 R n0_0 n0_1 s0_2 [] w) : Calls prog 57 #[.agg #[.int .i64 n0_0, .int .i64 n0_1, .string s0_2]] w R :=
  calls_of_L (l := [c57_0, c57_1, c57_2, c57_3, c57_4, c57_5, c57_6, c57_7, c57_8, c57_9]) func57 (by kernel_rfl) (by rw [ntmps57]; exact Nat.le_of_ble_eq_true (by kernel_rfl)) c57_l
    (F57_2_ok R n0_0 n0_1 s0_2 [] w _ rfl h)
noncomputable def c102_0 := cI0 f102 0
noncomputable def c102_1 := cI0 f102 1
noncomputable def c102_2 := cI0 f102 2
def F102_q1 (R : Rt) : EQ := endQ prog f102.results.toList R
def F102_1 (R : Rt) (n0 : Int) (ds : Ds) (w : World) : Prop :=
 Br (decide (n0 ≥ (-1000000000000000))) (
 runD prog ds w fun w1 =>
 R (.returned (.bool (decide (n0 ≤ 1000000000000000)))) w1) (
 runD prog ds w fun w2 =>
 R (.returned (.bool false)) w2)
theorem c102_l : flat (bodyOf f102) = [c102_0, c102_1, c102_2] := by kernel_rfl
theorem F102_1_ok (R : Rt) (n0 : Int) (ds : Ds) (w : World) (E : Env) (e0 : E 0 = .int .i64 n0) (h : F102_1 R n0 ds w) :
    TrL prog f102.ntmps [c102_0, c102_1, c102_2] (F102_q1 R) E ds w :=
  TrL_leaf (X := F102_1 R n0 ds w) (setAll_cons e0 setAll_nil) (by kernel_rfl) (by kernel_rfl) h
theorem F102_calls (n0 : Int) (w : World) (R : Rt) (h : F102_1 R n0 [] w) : Calls prog 102 #[.int .i64 n0] w R :=
  calls_of_L (l := [c102_0, c102_1, c102_2]) func102 (by kernel_rfl) (by rw [ntmps102]; exact Nat.le_of_ble_eq_true (by kernel_rfl)) c102_l
    (F102_1_ok R n0 [] w _ rfl h)
end Go.Proofs.YtecmfdfhpldmmaaGreatDoor

/- Shallow texts of functions, printed by program, each checked by the kernel against the loaded code. No condition. -/
set_option maxRecDepth 100000
set_option linter.unusedVariables false
namespace Go.Proofs.YtecmfdfhpldmmaaGreatDoor
open Go.Sh
open Tryz
@[reducible] noncomputable def cI1 (f : Func) (i : Nat) : Code := itemAt (flat (bodyOf f)) i
@[reducible] noncomputable def cJ1 (c : Code) (i : Nat) : Code := itemAt (flat (innerC c)) i
noncomputable def c47_0 := cI1 f47 0
noncomputable def c47_1 := cI1 f47 1
noncomputable def c47_2 := cI1 f47 2
noncomputable def c47_3 := cI1 f47 3
def F47_q1 (R : Rt) : EQ := endQ prog f47.results.toList R
def F47_1 (R : Rt) (p1 p3 : Option Addr) (b4 : Bool) (ds : Ds) (w : World) : Prop :=
 Br b4 (
 ptrE p1 fun a1 =>
 ∃ s15 : ByteArray, w.cell? a1 = some (.string s15) /\
 Calls prog 90 #[.string s15] w fun e w2 =>
 ∃ b16 : Bool, e = .returned (.bool b16) /\
 Br b16 (
 ptrE p1 fun a3 =>
 ∃ n20 : Int, w2.cell? (a3.add 2) = some (.int .i64 n20) /\
 ptrE p3 fun a4 =>
 ∃ n22 : Int, w2.cell? (a4.add 1) = some (.int .i64 n22) /\
 Br (decide (n20 ≥ n22)) (
 ptrE p1 fun a5 =>
 ∃ n27 : Int, w2.cell? (a5.add 2) = some (.int .i64 n27) /\
 ptrE p3 fun a6 =>
 ∃ n29 : Int, w2.cell? (a6.add 2) = some (.int .i64 n29) /\
 runD prog ds w2 fun w7 =>
 R (.returned (.bool (decide (n27 ≤ n29)))) w7) (
 runD prog ds w2 fun w8 =>
 R (.returned (.bool false)) w8)) (
 runD prog ds w2 fun w9 =>
 R (.returned (.bool false)) w9)) (
 runD prog ds w fun w10 =>
 R (.returned (.bool false)) w10)
def F47_k2 (R : Rt) : EP := (fun E ds w => dPtr (E 1) fun p1 => dPtr (E 3) fun p3 => dBl (E 4) fun b4 => F47_1 R p1 p3 b4 ds w)
def F47_2 (R : Rt) (s0_0 : ByteArray) (n0_1 n0_2 : Int) (b0_3 : Bool) (ds : Ds) (w : World) : Prop :=
 alE (.cells #[.string s0_0, .int .i64 n0_1, .int .i64 n0_2, .bool b0_3] 23) w fun r1 w11 =>
 dwE w11 fun w12 =>
 ∃ S1 : World -> Prop, S1 w12 /\
 ∃ n8 : Int, (∀ w', S1 w' -> w'.cell? ((⟨r1, 0, none⟩ : Addr).add 1) = some (.int .i64 n8)) /\
 (
 Calls prog 89 #[] w12 fun e w13 =>
 ∃ m6 : Option Nat, e = .returned (.map m6) /\
 ∃ S2 : World -> Prop, S2 w13 /\ (∀ u, S2 u -> S1 u) /\
 ∃ n9_0_0 : Int, ∃ n9_0_1 : Int, ∃ n9_0_2 : Int, ∃ v9_0_3 : Value, ∃ v9_0_4 : Value, ∃ b9_1 : Bool, (∀ w', S2 w' -> (Instr.lookup 104 (.map m6) (.int .i64 n8) true).run prog w' = .ok (.tuple #[.agg #[.int .u8 n9_0_0, .int .i64 n9_0_1, .int .i64 n9_0_2, v9_0_3, v9_0_4], .bool b9_1]) w') /\
 alE (.cells #[.int .u8 0, .int .i64 0, .int .i64 0, .nilFunc, .nilFunc] 102) w13 fun r3 w14 =>
 ∃ S3 : World -> Prop, S3 w14 /\ (∀ u, S3 u -> S2 u) /\
 stA prog 102 (⟨r3, 0, none⟩ : Addr) #[.int .u8 n9_0_0, .int .i64 n9_0_1, .int .i64 n9_0_2, v9_0_3, v9_0_4] w14 fun w15 =>
 F47_1 R (some (⟨r1, 0, none⟩ : Addr)) (some (⟨r3, 0, none⟩ : Addr)) b9_1 ds w15) /\ (
 alE (.cells #[.int .u8 0, .int .i64 0, .int .i64 0, .nilFunc, .nilFunc] 102) w12 fun r3 w16 =>
 ∃ S4 : World -> Prop, S4 w16 /\ (∀ u, S4 u -> S1 u) /\
 Calls prog 89 #[] w16 fun e w17 =>
 ∃ m6 : Option Nat, e = .returned (.map m6) /\
 ∃ S5 : World -> Prop, S5 w17 /\ (∀ u, S5 u -> S4 u) /\
 ∃ n9_0_0 : Int, ∃ n9_0_1 : Int, ∃ n9_0_2 : Int, ∃ v9_0_3 : Value, ∃ v9_0_4 : Value, ∃ b9_1 : Bool, (∀ w', S5 w' -> (Instr.lookup 104 (.map m6) (.int .i64 n8) true).run prog w' = .ok (.tuple #[.agg #[.int .u8 n9_0_0, .int .i64 n9_0_1, .int .i64 n9_0_2, v9_0_3, v9_0_4], .bool b9_1]) w') /\
 stA prog 102 (⟨r3, 0, none⟩ : Addr) #[.int .u8 n9_0_0, .int .i64 n9_0_1, .int .i64 n9_0_2, v9_0_3, v9_0_4] w17 fun w18 =>
 F47_1 R (some (⟨r1, 0, none⟩ : Addr)) (some (⟨r3, 0, none⟩ : Addr)) b9_1 ds w18)
theorem c47_l : flat (bodyOf f47) = [c47_0, c47_1, c47_2, c47_3] := by kernel_rfl
theorem F47_1_ok (R : Rt) (p1 p3 : Option Addr) (b4 : Bool) (ds : Ds) (w : World) (E : Env) (e1 : E 1 = .pointer p1) (e3 : E 3 = .pointer p3) (e4 : E 4 = .bool b4) (h : F47_1 R p1 p3 b4 ds w) :
    TrL prog f47.ntmps [c47_2, c47_3] (F47_q1 R) E ds w :=
  TrL_leaf (X := F47_1 R p1 p3 b4 ds w) (setAll_cons e1 (setAll_cons e3 (setAll_cons e4 setAll_nil))) (by kernel_rfl) (by kernel_rfl) h
theorem F47_2_ok (R : Rt) (s0_0 : ByteArray) (n0_1 n0_2 : Int) (b0_3 : Bool) (ds : Ds) (w : World) (E : Env) (e0 : E 0 = .agg #[.string s0_0, .int .i64 n0_1, .int .i64 n0_2, .bool b0_3]) (h : F47_2 R s0_0 n0_1 n0_2 b0_3 ds w) :
    TrL prog f47.ntmps [c47_0, c47_1, c47_2, c47_3] (F47_q1 R) E ds w :=
  TrL_piece (pre := [c47_0, c47_1]) (K := (F47_k2 R)) (X := F47_2 R s0_0 n0_1 n0_2 b0_3 ds w) (setAll_cons e0 setAll_nil) (by kernel_rfl) (by kernel_rfl)
    (fun E' ds' w' hD => by
      obtain ⟨p1, e1, hD⟩ := dPtr_elim hD; obtain ⟨p3, e3, hD⟩ := dPtr_elim hD; obtain ⟨b4, e4, hD⟩ := dBl_elim hD; exact F47_1_ok R p1 p3 b4 ds' w' E' e1 e3 e4 hD) h
theorem F47_calls (s0_0 : ByteArray) (n0_1 n0_2 : Int) (b0_3 : Bool) (w : World) (R : Rt) (h : F47_2 R s0_0 n0_1 n0_2 b0_3 [] w) : Calls prog 47 #[.agg #[.string s0_0, .int .i64 n0_1, .int .i64 n0_2, .bool b0_3]] w R :=
  calls_of_L (l := [c47_0, c47_1, c47_2, c47_3]) func47 (by kernel_rfl) (by rw [ntmps47]; exact Nat.le_of_ble_eq_true (by kernel_rfl)) c47_l
    (F47_2_ok R s0_0 n0_1 n0_2 b0_3 [] w _ rfl h)
noncomputable def c90_0 := cI1 f90 0
noncomputable def c90_1 := cI1 f90 1
noncomputable def c90_2 := cI1 f90 2
def F90_q1 (R : Rt) : EQ := endQ prog f90.results.toList R
def F90_1 (R : Rt) (s0 : ByteArray) (ds : Ds) (w : World) : Prop :=
 Br (!(s0.toList == (⟨#[]⟩ : ByteArray).toList)) (
 Br (decide ((s0.size : Int) ≤ 10)) (
 Calls prog 135 #[.string s0, .string (⟨#[65, 66, 67, 68, 69, 70, 71, 72, 73, 74, 75, 76, 77, 78, 79, 80, 81, 82, 83, 84, 85, 86, 87, 88, 89, 90, 48, 49, 50, 51, 52, 53, 54, 55, 56, 57, 95]⟩ : ByteArray)] w fun e w1 =>
 ∃ s12 : ByteArray, e = .returned (.string s12) /\
 Br (s12.toList == (⟨#[]⟩ : ByteArray).toList) (
 ∃ b17 : UInt8, 0 ≤ (0 : Int) /\ s0[(0 : Int).toNat]? = some b17 /\
 Br (decide ((b17.toNat : Int) ≥ 65)) (
 ∃ b22 : UInt8, 0 ≤ (0 : Int) /\ s0[(0 : Int).toNat]? = some b22 /\
 runD prog ds w1 fun w2 =>
 R (.returned (.bool (decide ((b22.toNat : Int) ≤ 90)))) w2) (
 runD prog ds w1 fun w3 =>
 R (.returned (.bool false)) w3)) (
 runD prog ds w1 fun w4 =>
 R (.returned (.bool false)) w4)) (
 runD prog ds w fun w5 =>
 R (.returned (.bool false)) w5)) (
 runD prog ds w fun w6 =>
 R (.returned (.bool false)) w6)
theorem c90_l : flat (bodyOf f90) = [c90_0, c90_1, c90_2] := by kernel_rfl
theorem F90_1_ok (R : Rt) (s0 : ByteArray) (ds : Ds) (w : World) (E : Env) (e0 : E 0 = .string s0) (h : F90_1 R s0 ds w) :
    TrL prog f90.ntmps [c90_0, c90_1, c90_2] (F90_q1 R) E ds w :=
  TrL_leaf (X := F90_1 R s0 ds w) (setAll_cons e0 setAll_nil) (by kernel_rfl) (by kernel_rfl) h
theorem F90_calls (s0 : ByteArray) (w : World) (R : Rt) (h : F90_1 R s0 [] w) : Calls prog 90 #[.string s0] w R :=
  calls_of_L (l := [c90_0, c90_1, c90_2]) func90 (by kernel_rfl) (by rw [ntmps90]; exact Nat.le_of_ble_eq_true (by kernel_rfl)) c90_l
    (F90_1_ok R s0 [] w _ rfl h)
noncomputable def c89_0 := cI1 f89 0
noncomputable def c89_1 := cI1 f89 1
noncomputable def c89_2 := cI1 f89 2
def F89_q1 (R : Rt) : EQ := endQ prog f89.results.toList R
def F89_1 (R : Rt) (ds : Ds) (w : World) : Prop :=
 alE (.map #[] 0) w fun r1 w1 =>
 doE prog (Instr.mapUpdate 104 (.map (some r1)) (.int .i64 1) (.agg #[.int .u8 76, .int .i64 1, .int .i64 1, .func (.func 125) #[] #[], .func (.func 126) #[] #[]])) w1 fun w2 =>
 doE prog (Instr.mapUpdate 104 (.map (some r1)) (.int .i64 2) (.agg #[.int .u8 78, .int .i64 1, .int .i64 15, .func (.func 127) #[] #[], .func (.func 128) #[] #[]])) w2 fun w3 =>
 doE prog (Instr.mapUpdate 104 (.map (some r1)) (.int .i64 3) (.agg #[.int .u8 68, .int .i64 8, .int .i64 8, .func (.func 129) #[] #[], .func (.func 130) #[] #[]])) w3 fun w4 =>
 doE prog (Instr.mapUpdate 104 (.map (some r1)) (.int .i64 4) (.agg #[.int .u8 67, .int .i64 1, .int .i64 254, .func (.func 131) #[] #[], .func (.func 132) #[] #[]])) w4 fun w5 =>
 doE prog (Instr.mapUpdate 104 (.map (some r1)) (.int .i64 5) (.agg #[.int .u8 77, .int .i64 8, .int .i64 8, .func (.func 133) #[] #[], .func (.func 134) #[] #[]])) w5 fun w6 =>
 runD prog ds w6 fun w7 =>
 R (.returned (.map (some r1))) w7
theorem c89_l : flat (bodyOf f89) = [c89_0, c89_1, c89_2] := by kernel_rfl
theorem F89_1_ok (R : Rt) (ds : Ds) (w : World) (E : Env) (h : F89_1 R ds w) :
    TrL prog f89.ntmps [c89_0, c89_1, c89_2] (F89_q1 R) E ds w :=
  TrL_leaf (X := F89_1 R ds w) setAll_nil (by kernel_rfl) (by kernel_rfl) h
theorem F89_calls  (w : World) (R : Rt) (h : F89_1 R [] w) : Calls prog 89 #[] w R :=
  calls_of_L (l := [c89_0, c89_1, c89_2]) func89 (by kernel_rfl) (by rw [ntmps89]; exact Nat.le_of_ble_eq_true (by kernel_rfl)) c89_l
    (F89_1_ok R [] w _  h)
noncomputable def c48_0 := cI1 f48 0
noncomputable def c48_1 := cI1 f48 1
noncomputable def c48_2 := cI1 f48 2
def F48_q1 (R : Rt) : EQ := endQ prog f48.results.toList R
def F48_1 (R : Rt) (n0 : Int) (ds : Ds) (w : World) : Prop :=
 Br (decide (n0 ≥ 0)) (
 runD prog ds w fun w1 =>
 R (.returned (.bool (decide (n0 ≤ 2)))) w1) (
 runD prog ds w fun w2 =>
 R (.returned (.bool false)) w2)
theorem c48_l : flat (bodyOf f48) = [c48_0, c48_1, c48_2] := by kernel_rfl
theorem F48_1_ok (R : Rt) (n0 : Int) (ds : Ds) (w : World) (E : Env) (e0 : E 0 = .int .i64 n0) (h : F48_1 R n0 ds w) :
    TrL prog f48.ntmps [c48_0, c48_1, c48_2] (F48_q1 R) E ds w :=
  TrL_leaf (X := F48_1 R n0 ds w) (setAll_cons e0 setAll_nil) (by kernel_rfl) (by kernel_rfl) h
theorem F48_calls (n0 : Int) (w : World) (R : Rt) (h : F48_1 R n0 [] w) : Calls prog 48 #[.int .i64 n0] w R :=
  calls_of_L (l := [c48_0, c48_1, c48_2]) func48 (by kernel_rfl) (by rw [ntmps48]; exact Nat.le_of_ble_eq_true (by kernel_rfl)) c48_l
    (F48_1_ok R n0 [] w _ rfl h)
noncomputable def c55_0 := cI1 f55 0
noncomputable def c55_1 := cI1 f55 1
noncomputable def c55_2 := cI1 f55 2
noncomputable def c55_3 := cI1 f55 3
noncomputable def c55_4 := cI1 f55 4
noncomputable def c55_5 := cI1 f55 5
noncomputable def c55_6 := cI1 f55 6
def F55_q1 (R : Rt) : EQ := endQ prog f55.results.toList R
def F55_1 (R : Rt) (s0_0 : ByteArray) (n0_1 n0_2 : Int) (b0_3 : Bool) (ds : Ds) (w : World) : Prop :=
 alE (.cells #[.string s0_0, .int .i64 n0_1, .int .i64 n0_2, .bool b0_3] 23) w fun r1 w1 =>
 ∃ s4 : ByteArray, w1.cell? (⟨r1, 0, none⟩ : Addr) = some (.string s4) /\
 Calls prog 101 #[.string s4] w1 fun e w2 =>
 ∃ b5 : Bool, e = .returned (.bool b5) /\
 Br (!b5) (
 runD prog ds w2 fun w3 =>
 R (.returned (.bool false)) w3) (
 ∃ n8 : Int, w2.cell? ((⟨r1, 0, none⟩ : Addr).add 1) = some (.int .i64 n8) /\
 Br (n8 == 1) (
 ∃ n12 : Int, w2.cell? ((⟨r1, 0, none⟩ : Addr).add 2) = some (.int .i64 n12) /\
 runD prog ds w2 fun w4 =>
 R (.returned (.bool (n12 == 1))) w4) (
 Br (n8 == 2) (
 ∃ n17 : Int, w2.cell? ((⟨r1, 0, none⟩ : Addr).add 2) = some (.int .i64 n17) /\
 Br (decide (n17 ≥ 1)) (
 ∃ n21 : Int, w2.cell? ((⟨r1, 0, none⟩ : Addr).add 2) = some (.int .i64 n21) /\
 runD prog ds w2 fun w5 =>
 R (.returned (.bool (decide (n21 ≤ 15)))) w5) (
 runD prog ds w2 fun w6 =>
 R (.returned (.bool false)) w6)) (
 Br (n8 == 3) (
 Br (n8 == 3) (
 ∃ n28 : Int, w2.cell? ((⟨r1, 0, none⟩ : Addr).add 2) = some (.int .i64 n28) /\
 runD prog ds w2 fun w7 =>
 R (.returned (.bool (n28 == 8))) w7) (
 Br (n8 == 4) (
 ∃ n33 : Int, w2.cell? ((⟨r1, 0, none⟩ : Addr).add 2) = some (.int .i64 n33) /\
 Br (decide (n33 ≥ 1)) (
 ∃ n37 : Int, w2.cell? ((⟨r1, 0, none⟩ : Addr).add 2) = some (.int .i64 n37) /\
 runD prog ds w2 fun w8 =>
 R (.returned (.bool (decide (n37 ≤ 254)))) w8) (
 runD prog ds w2 fun w9 =>
 R (.returned (.bool false)) w9)) (
 runD prog ds w2 fun w10 =>
 R (.returned (.bool false)) w10))) (
 Br (n8 == 5) (
 ∃ n28 : Int, w2.cell? ((⟨r1, 0, none⟩ : Addr).add 2) = some (.int .i64 n28) /\
 runD prog ds w2 fun w11 =>
 R (.returned (.bool (n28 == 8))) w11) (
 Br (n8 == 4) (
 ∃ n33 : Int, w2.cell? ((⟨r1, 0, none⟩ : Addr).add 2) = some (.int .i64 n33) /\
 Br (decide (n33 ≥ 1)) (
 ∃ n37 : Int, w2.cell? ((⟨r1, 0, none⟩ : Addr).add 2) = some (.int .i64 n37) /\
 runD prog ds w2 fun w12 =>
 R (.returned (.bool (decide (n37 ≤ 254)))) w12) (
 runD prog ds w2 fun w13 =>
 R (.returned (.bool false)) w13)) (
 runD prog ds w2 fun w14 =>
 R (.returned (.bool false)) w14))))))
theorem c55_l : flat (bodyOf f55) = [c55_0, c55_1, c55_2, c55_3, c55_4, c55_5, c55_6] := by kernel_rfl
theorem F55_1_ok (R : Rt) (s0_0 : ByteArray) (n0_1 n0_2 : Int) (b0_3 : Bool) (ds : Ds) (w : World) (E : Env) (e0 : E 0 = .agg #[.string s0_0, .int .i64 n0_1, .int .i64 n0_2, .bool b0_3]) (h : F55_1 R s0_0 n0_1 n0_2 b0_3 ds w) :
    TrL prog f55.ntmps [c55_0, c55_1, c55_2, c55_3, c55_4, c55_5, c55_6] (F55_q1 R) E ds w :=
  TrL_leaf (X := F55_1 R s0_0 n0_1 n0_2 b0_3 ds w) (setAll_cons e0 setAll_nil) (by kernel_rfl) (by kernel_rfl) h
theorem F55_calls (s0_0 : ByteArray) (n0_1 n0_2 : Int) (b0_3 : Bool) (w : World) (R : Rt) (h : F55_1 R s0_0 n0_1 n0_2 b0_3 [] w) : Calls prog 55 #[.agg #[.string s0_0, .int .i64 n0_1, .int .i64 n0_2, .bool b0_3]] w R :=
  calls_of_L (l := [c55_0, c55_1, c55_2, c55_3, c55_4, c55_5, c55_6]) func55 (by kernel_rfl) (by rw [ntmps55]; exact Nat.le_of_ble_eq_true (by kernel_rfl)) c55_l
    (F55_1_ok R s0_0 n0_1 n0_2 b0_3 [] w _ rfl h)
noncomputable def c56_0 := cI1 f56 0
noncomputable def c56_1 := cI1 f56 1
noncomputable def c56_2 := cI1 f56 2
def F56_q1 (R : Rt) : EQ := endQ prog f56.results.toList R
def F56_1 (R : Rt) (n0 : Int) (ds : Ds) (w : World) : Prop :=
 Br (decide (n0 ≥ 0)) (
 runD prog ds w fun w1 =>
 R (.returned (.bool (decide (n0 ≤ 2)))) w1) (
 runD prog ds w fun w2 =>
 R (.returned (.bool false)) w2)
theorem c56_l : flat (bodyOf f56) = [c56_0, c56_1, c56_2] := by kernel_rfl
theorem F56_1_ok (R : Rt) (n0 : Int) (ds : Ds) (w : World) (E : Env) (e0 : E 0 = .int .i64 n0) (h : F56_1 R n0 ds w) :
    TrL prog f56.ntmps [c56_0, c56_1, c56_2] (F56_q1 R) E ds w :=
  TrL_leaf (X := F56_1 R n0 ds w) (setAll_cons e0 setAll_nil) (by kernel_rfl) (by kernel_rfl) h
theorem F56_calls (n0 : Int) (w : World) (R : Rt) (h : F56_1 R n0 [] w) : Calls prog 56 #[.int .i64 n0] w R :=
  calls_of_L (l := [c56_0, c56_1, c56_2]) func56 (by kernel_rfl) (by rw [ntmps56]; exact Nat.le_of_ble_eq_true (by kernel_rfl)) c56_l
    (F56_1_ok R n0 [] w _ rfl h)
noncomputable def c101_0 := cI1 f101 0
noncomputable def c101_1 := cI1 f101 1
noncomputable def c101_2 := cI1 f101 2
noncomputable def c101_3 := cI1 f101 3
noncomputable def c101_4 := cI1 f101 4
noncomputable def c101_5 := cI1 f101 5
noncomputable def c101_6 := cI1 f101 6
noncomputable def c101_4_0 := cJ1 c101_4 0
noncomputable def c101_4_0_0 := cJ1 c101_4_0 0
noncomputable def c101_4_0_1 := cJ1 c101_4_0 1
noncomputable def c101_4_0_2 := cJ1 c101_4_0 2
noncomputable def c101_4_0_3 := cJ1 c101_4_0 3
def F101_q1 (R : Rt) : EQ := endQ prog f101.results.toList R
def F101_1 (R : Rt) (ds : Ds) (w : World) : Prop :=
 runD prog ds w fun w1 =>
 R (.returned (.bool true)) w1
def F101_k2 (R : Rt) : EP := (fun E ds w => F101_1 R ds w)
def F101_q3 (R : Rt) : EQ := (thenQ (F101_k2 R) (F101_q1 R))
def F101_q4 (R : Rt) : EQ := (blockQ 0 (F101_q3 R))
def F101_q5 (R : Rt) (J1 : (Int) -> World -> Prop) : EQ := (thenQ (fun E _ w => dInt .i64 (E 3) fun n3 => J1 n3 w) (F101_q4 R))
def F101_2 (R : Rt) (J1 : (Int) -> World -> Prop) (s0 : ByteArray) (n3 : Int) (ds : Ds) (w : World) : Prop :=
 J1 (IntKind.i64.wrap (n3 + 1)) w
def F101_k6 (R : Rt) (J1 : (Int) -> World -> Prop) : EP := (fun E ds w => dStr (E 0) fun s0 => dInt .i64 (E 3) fun n3 => F101_2 R J1 s0 n3 ds w)
def F101_3 (R : Rt) (J1 : (Int) -> World -> Prop) (s0 : ByteArray) (n3 : Int) (ds : Ds) (w : World) : Prop :=
 ∃ b22 : UInt8, 0 ≤ n3 /\ s0[n3.toNat]? = some b22 /\
 Br (decide ((b22.toNat : Int) ≥ 65)) (
 Br (!(decide ((b22.toNat : Int) ≤ 90))) (
 Br (n3 == 0) (
 runD prog ds w fun w2 =>
 R (.returned (.bool false)) w2) (
 Br ((b22.toNat : Int) != 95) (
 Calls prog 145 #[.int .u8 (b22.toNat : Int)] w fun e w3 =>
 ∃ b39 : Bool, e = .returned (.bool b39) /\
 Br (!b39) (
 runD prog ds w3 fun w4 =>
 R (.returned (.bool false)) w4) (
 F101_2 R J1 s0 n3 ds w3)) (
 F101_2 R J1 s0 n3 ds w))) (
 F101_2 R J1 s0 n3 ds w)) (
 Br (n3 == 0) (
 runD prog ds w fun w5 =>
 R (.returned (.bool false)) w5) (
 Br ((b22.toNat : Int) != 95) (
 Calls prog 145 #[.int .u8 (b22.toNat : Int)] w fun e w6 =>
 ∃ b39 : Bool, e = .returned (.bool b39) /\
 Br (!b39) (
 runD prog ds w6 fun w7 =>
 R (.returned (.bool false)) w7) (
 F101_2 R J1 s0 n3 ds w6)) (
 F101_2 R J1 s0 n3 ds w)))
def F101_k7 (R : Rt) (J1 : (Int) -> World -> Prop) : EP := (fun E ds w => dStr (E 0) fun s0 => dInt .i64 (E 3) fun n3 => F101_3 R J1 s0 n3 ds w)
def F101_4 (R : Rt) (J1 : (Int) -> World -> Prop) (s0 : ByteArray) (n3 : Int) (ds : Ds) (w : World) : Prop :=
 Br (decide (n3 < (s0.size : Int))) (
 F101_3 R J1 s0 n3 ds w) (
 F101_1 R ds w)
def F101_5 (R : Rt) (s0 : ByteArray) (n3 : Int) (ds : Ds) (w : World) : Prop :=
 loopT (fun (J1 : (Int) -> World -> Prop) (s : Int) (w : World) => F101_4 R J1 s0 s ds w) n3 w
abbrev F101_6 (R : Rt) (s0 : ByteArray) (n3 : Int) (ds : Ds) (w : World) : Prop := F101_5 R s0 n3 ds w
def F101_k8 (R : Rt) : EP := (fun E ds w => dStr (E 0) fun s0 => dInt .i64 (E 3) fun n3 => F101_6 R s0 n3 ds w)
def F101_7 (R : Rt) (s0 : ByteArray) (ds : Ds) (w : World) : Prop :=
 Br (decide ((s0.size : Int) < 1)) (
 runD prog ds w fun w8 =>
 R (.returned (.bool false)) w8) (
 Br (decide ((s0.size : Int) > 10)) (
 runD prog ds w fun w9 =>
 R (.returned (.bool false)) w9) (
 F101_6 R s0 0 ds w))
theorem c101_l : flat (bodyOf f101) = [c101_0, c101_1, c101_2, c101_3, c101_4, c101_5, c101_6] := by kernel_rfl
theorem c101_4_l : flat (innerC c101_4) = [c101_4_0] := by kernel_rfl
theorem c101_4_0_l : flat (innerC c101_4_0) = [c101_4_0_0, c101_4_0_1, c101_4_0_2, c101_4_0_3] := by kernel_rfl
theorem F101_1_ok (R : Rt) (ds : Ds) (w : World) (E : Env) (h : F101_1 R ds w) :
    TrL prog f101.ntmps [c101_5, c101_6] (F101_q1 R) E ds w :=
  TrL_leaf (X := F101_1 R ds w) setAll_nil (by kernel_rfl) (by kernel_rfl) h
theorem F101_2_ok (R : Rt) (J1 : (Int) -> World -> Prop) (s0 : ByteArray) (n3 : Int) (ds : Ds) (w : World) (E : Env) (e0 : E 0 = .string s0) (e3 : E 3 = .int .i64 n3) (h : F101_2 R J1 s0 n3 ds w) :
    TrL prog f101.ntmps [c101_4_0_3] (F101_q5 R J1) E ds w :=
  TrL_leaf (X := F101_2 R J1 s0 n3 ds w) (setAll_cons e0 (setAll_cons e3 setAll_nil)) (by kernel_rfl) (by kernel_rfl) h
theorem F101_3_ok (R : Rt) (J1 : (Int) -> World -> Prop) (s0 : ByteArray) (n3 : Int) (ds : Ds) (w : World) (E : Env) (e0 : E 0 = .string s0) (e3 : E 3 = .int .i64 n3) (h : F101_3 R J1 s0 n3 ds w) :
    TrL prog f101.ntmps [c101_4_0_2, c101_4_0_3] (F101_q5 R J1) E ds w :=
  TrL_piece (pre := [c101_4_0_2]) (K := (F101_k6 R J1)) (X := F101_3 R J1 s0 n3 ds w) (setAll_cons e0 (setAll_cons e3 setAll_nil)) (by kernel_rfl) (by kernel_rfl)
    (fun E' ds' w' hD => by
      obtain ⟨s0, e0, hD⟩ := dStr_elim hD; obtain ⟨n3, e3, hD⟩ := dInt_elim hD; exact F101_2_ok R J1 s0 n3 ds' w' E' e0 e3 hD) h
theorem F101_4_ok (R : Rt) (J1 : (Int) -> World -> Prop) (s0 : ByteArray) (n3 : Int) (ds : Ds) (w : World) (E : Env) (e0 : E 0 = .string s0) (e3 : E 3 = .int .i64 n3) (h : F101_4 R J1 s0 n3 ds w) :
    TrL prog f101.ntmps [c101_4_0_0, c101_4_0_1, c101_4_0_2, c101_4_0_3] (F101_q5 R J1) E ds w :=
  TrL_piece (pre := [c101_4_0_0, c101_4_0_1]) (K := (F101_k7 R J1)) (X := F101_4 R J1 s0 n3 ds w) (setAll_cons e0 (setAll_cons e3 setAll_nil)) (by kernel_rfl) (by kernel_rfl)
    (fun E' ds' w' hD => by
      obtain ⟨s0, e0, hD⟩ := dStr_elim hD; obtain ⟨n3, e3, hD⟩ := dInt_elim hD; exact F101_3_ok R J1 s0 n3 ds' w' E' e0 e3 hD) h
theorem F101_5_ok (R : Rt) (s0 : ByteArray) (n3 : Int) (ds : Ds) (w : World) (E : Env) (e0 : E 0 = .string s0) (e3 : E 3 = .int .i64 n3) (h : F101_5 R s0 n3 ds w) :
    TrL prog f101.ntmps [c101_4_0] (F101_q4 R) E ds w :=
  TrL_one (Tr_loop' (c := innerC c101_4_0) (σ := Int) (enc := (fun (s : Int) (E : Env) => E 3 = .int .i64 s)) (D := (fun E K => dInt .i64 (E 3) fun n3 => K n3)) (F := (fun (J1 : (Int) -> World -> Prop) (s : Int) (w : World) => F101_4 R J1 s0 s ds w)) (s0 := n3) (by kernel_rfl) c101_4_0_l e3 (by kernel_rfl) (fun E K hD => by obtain ⟨n3, e3, hD⟩ := dInt_elim hD; exact ⟨n3, e3, hD⟩)
      (fun J1 s E' w' he ha hF => by
      have e3' := he
      exact F101_4_ok R J1 s0 s ds w' E' ((ha 0 (by kernel_rfl)).trans e0) e3' hF) h)
theorem F101_6_ok (R : Rt) (s0 : ByteArray) (n3 : Int) (ds : Ds) (w : World) (E : Env) (e0 : E 0 = .string s0) (e3 : E 3 = .int .i64 n3) (h : F101_6 R s0 n3 ds w) :
    TrL prog f101.ntmps [c101_4, c101_5, c101_6] (F101_q1 R) E ds w :=
  TrL_head (K := (F101_k2 R)) (Tr_block' (c := innerC c101_4) (by kernel_rfl) c101_4_l (F101_5_ok R s0 n3 ds w E e0 e3 h))
    (fun E' ds' w' hD => by
      exact F101_1_ok R ds' w' E'  hD)
theorem F101_7_ok (R : Rt) (s0 : ByteArray) (ds : Ds) (w : World) (E : Env) (e0 : E 0 = .string s0) (h : F101_7 R s0 ds w) :
    TrL prog f101.ntmps [c101_0, c101_1, c101_2, c101_3, c101_4, c101_5, c101_6] (F101_q1 R) E ds w :=
  TrL_piece (pre := [c101_0, c101_1, c101_2, c101_3]) (K := (F101_k8 R)) (X := F101_7 R s0 ds w) (setAll_cons e0 setAll_nil) (by kernel_rfl) (by kernel_rfl)
    (fun E' ds' w' hD => by
      obtain ⟨s0, e0, hD⟩ := dStr_elim hD; obtain ⟨n3, e3, hD⟩ := dInt_elim hD; exact F101_6_ok R s0 n3 ds' w' E' e0 e3 hD) h
theorem F101_calls (s0 : ByteArray) (w : World) (R : Rt) (h : F101_7 R s0 [] w) : Calls prog 101 #[.string s0] w R :=
  calls_of_L (l := [c101_0, c101_1, c101_2, c101_3, c101_4, c101_5, c101_6]) func101 (by kernel_rfl) (by rw [ntmps101]; exact Nat.le_of_ble_eq_true (by kernel_rfl)) c101_l
    (F101_7_ok R s0 [] w _ rfl h)
noncomputable def c145_0 := cI1 f145 0
noncomputable def c145_1 := cI1 f145 1
noncomputable def c145_2 := cI1 f145 2
def F145_q1 (R : Rt) : EQ := endQ prog f145.results.toList R
def F145_1 (R : Rt) (n0 : Int) (ds : Ds) (w : World) : Prop :=
 Br (decide (n0 ≥ 48)) (
 runD prog ds w fun w1 =>
 R (.returned (.bool (decide (n0 ≤ 57)))) w1) (
 runD prog ds w fun w2 =>
 R (.returned (.bool false)) w2)
theorem c145_l : flat (bodyOf f145) = [c145_0, c145_1, c145_2] := by kernel_rfl
theorem F145_1_ok (R : Rt) (n0 : Int) (ds : Ds) (w : World) (E : Env) (e0 : E 0 = .int .u8 n0) (h : F145_1 R n0 ds w) :
    TrL prog f145.ntmps [c145_0, c145_1, c145_2] (F145_q1 R) E ds w :=
  TrL_leaf (X := F145_1 R n0 ds w) (setAll_cons e0 setAll_nil) (by kernel_rfl) (by kernel_rfl) h
theorem F145_calls (n0 : Int) (w : World) (R : Rt) (h : F145_1 R n0 [] w) : Calls prog 145 #[.int .u8 n0] w R :=
  calls_of_L (l := [c145_0, c145_1, c145_2]) func145 (by kernel_rfl) (by rw [ntmps145]; exact Nat.le_of_ble_eq_true (by kernel_rfl)) c145_l
    (F145_1_ok R n0 [] w _ rfl h)
noncomputable def c50_0 := cI1 f50 0
noncomputable def c50_1 := cI1 f50 1
noncomputable def c50_2 := cI1 f50 2
noncomputable def c50_3 := cI1 f50 3
noncomputable def c50_4 := cI1 f50 4
def F50_q1 (R : Rt) : EQ := endQ prog f50.results.toList R
def F50_1 (R : Rt) (s0_0 : ByteArray) (n0_1 n0_2 : Int) (b0_3 : Bool) (ds : Ds) (w : World) : Prop :=
 alE (.cells #[.string s0_0, .int .i64 n0_1, .int .i64 n0_2, .bool b0_3] 23) w fun r1 w1 =>
 alE (.cells #[.int .i64 0, .int .i64 0, .string (⟨#[]⟩ : ByteArray)] 25) w1 fun r2 w2 =>
 ∃ n4 : Int, w2.cell? ((⟨r1, 0, none⟩ : Addr).add 1) = some (.int .i64 n4) /\
 Br (n4 == 5) (
 stA prog 25 (⟨r2, 0, none⟩ : Addr) #[.int .i64 2, .int .i64 0, .string (⟨#[]⟩ : ByteArray)] w2 fun w3 =>
 runD prog ds w3 fun w4 =>
 ∃ nR0_0 : Int, w4.cell? ((⟨r2, 0, none⟩ : Addr).add 0) = some (.int .i64 nR0_0) /\
 ∃ nR0_1 : Int, w4.cell? ((⟨r2, 0, none⟩ : Addr).add 1) = some (.int .i64 nR0_1) /\
 ∃ sR0_2 : ByteArray, w4.cell? ((⟨r2, 0, none⟩ : Addr).add 2) = some (.string sR0_2) /\
 R (.returned (.agg #[.int .i64 nR0_0, .int .i64 nR0_1, .string sR0_2])) w4) (
 ∃ n8 : Int, w2.cell? ((⟨r1, 0, none⟩ : Addr).add 1) = some (.int .i64 n8) /\
 stA prog 25 (⟨r2, 0, none⟩ : Addr) #[.int .i64 n8, .int .i64 0, .string (⟨#[]⟩ : ByteArray)] w2 fun w5 =>
 runD prog ds w5 fun w6 =>
 ∃ nR0_0 : Int, w6.cell? ((⟨r2, 0, none⟩ : Addr).add 0) = some (.int .i64 nR0_0) /\
 ∃ nR0_1 : Int, w6.cell? ((⟨r2, 0, none⟩ : Addr).add 1) = some (.int .i64 nR0_1) /\
 ∃ sR0_2 : ByteArray, w6.cell? ((⟨r2, 0, none⟩ : Addr).add 2) = some (.string sR0_2) /\
 R (.returned (.agg #[.int .i64 nR0_0, .int .i64 nR0_1, .string sR0_2])) w6)
theorem c50_l : flat (bodyOf f50) = [c50_0, c50_1, c50_2, c50_3, c50_4] := by kernel_rfl
theorem F50_1_ok (R : Rt) (s0_0 : ByteArray) (n0_1 n0_2 : Int) (b0_3 : Bool) (ds : Ds) (w : World) (E : Env) (e0 : E 0 = .agg #[.string s0_0, .int .i64 n0_1, .int .i64 n0_2, .bool b0_3]) (h : F50_1 R s0_0 n0_1 n0_2 b0_3 ds w) :
    TrL prog f50.ntmps [c50_0, c50_1, c50_2, c50_3, c50_4] (F50_q1 R) E ds w :=
  TrL_leaf (X := F50_1 R s0_0 n0_1 n0_2 b0_3 ds w) (setAll_cons e0 setAll_nil) (by kernel_rfl) (by kernel_rfl) h
theorem F50_calls (s0_0 : ByteArray) (n0_1 n0_2 : Int) (b0_3 : Bool) (w : World) (R : Rt) (h : F50_1 R s0_0 n0_1 n0_2 b0_3 [] w) : Calls prog 50 #[.agg #[.string s0_0, .int .i64 n0_1, .int .i64 n0_2, .bool b0_3]] w R :=
  calls_of_L (l := [c50_0, c50_1, c50_2, c50_3, c50_4]) func50 (by kernel_rfl) (by rw [ntmps50]; exact Nat.le_of_ble_eq_true (by kernel_rfl)) c50_l
    (F50_1_ok R s0_0 n0_1 n0_2 b0_3 [] w _ rfl h)
noncomputable def c87_0 := cI1 f87 0
noncomputable def c87_1 := cI1 f87 1
noncomputable def c87_2 := cI1 f87 2
noncomputable def c87_3 := cI1 f87 3
noncomputable def c87_4 := cI1 f87 4
def F87_q1 (R : Rt) : EQ := endQ prog f87.results.toList R
def F87_1 (R : Rt) (s0_0 : ByteArray) (n0_1 n0_2 : Int) (b0_3 : Bool) (ds : Ds) (w : World) : Prop :=
 alE (.cells #[.string s0_0, .int .i64 n0_1, .int .i64 n0_2, .bool b0_3] 23) w fun r1 w1 =>
 alE (.cells #[.int .i64 0, .int .i64 0, .string (⟨#[]⟩ : ByteArray)] 25) w1 fun r2 w2 =>
 ∃ n4 : Int, w2.cell? ((⟨r1, 0, none⟩ : Addr).add 1) = some (.int .i64 n4) /\
 Br (n4 == 5) (
 Calls prog 118 #[.int .i64 0] w2 fun e w3 =>
 ∃ n6_0 : Int, ∃ n6_1 : Int, ∃ s6_2 : ByteArray, e = .returned (.agg #[.int .i64 n6_0, .int .i64 n6_1, .string s6_2]) /\
 stA prog 25 (⟨r2, 0, none⟩ : Addr) #[.int .i64 n6_0, .int .i64 n6_1, .string s6_2] w3 fun w4 =>
 runD prog ds w4 fun w5 =>
 ∃ nR0_0 : Int, w5.cell? ((⟨r2, 0, none⟩ : Addr).add 0) = some (.int .i64 nR0_0) /\
 ∃ nR0_1 : Int, w5.cell? ((⟨r2, 0, none⟩ : Addr).add 1) = some (.int .i64 nR0_1) /\
 ∃ sR0_2 : ByteArray, w5.cell? ((⟨r2, 0, none⟩ : Addr).add 2) = some (.string sR0_2) /\
 R (.returned (.agg #[.int .i64 nR0_0, .int .i64 nR0_1, .string sR0_2])) w5) (
 ∃ n8 : Int, w2.cell? ((⟨r1, 0, none⟩ : Addr).add 1) = some (.int .i64 n8) /\
 stA prog 25 (⟨r2, 0, none⟩ : Addr) #[.int .i64 n8, .int .i64 0, .string (⟨#[]⟩ : ByteArray)] w2 fun w6 =>
 runD prog ds w6 fun w7 =>
 ∃ nR0_0 : Int, w7.cell? ((⟨r2, 0, none⟩ : Addr).add 0) = some (.int .i64 nR0_0) /\
 ∃ nR0_1 : Int, w7.cell? ((⟨r2, 0, none⟩ : Addr).add 1) = some (.int .i64 nR0_1) /\
 ∃ sR0_2 : ByteArray, w7.cell? ((⟨r2, 0, none⟩ : Addr).add 2) = some (.string sR0_2) /\
 R (.returned (.agg #[.int .i64 nR0_0, .int .i64 nR0_1, .string sR0_2])) w7)
theorem c87_l : flat (bodyOf f87) = [c87_0, c87_1, c87_2, c87_3, c87_4] := by kernel_rfl
theorem F87_1_ok (R : Rt) (s0_0 : ByteArray) (n0_1 n0_2 : Int) (b0_3 : Bool) (ds : Ds) (w : World) (E : Env) (e0 : E 0 = .agg #[.string s0_0, .int .i64 n0_1, .int .i64 n0_2, .bool b0_3]) (h : F87_1 R s0_0 n0_1 n0_2 b0_3 ds w) :
    TrL prog f87.ntmps [c87_0, c87_1, c87_2, c87_3, c87_4] (F87_q1 R) E ds w :=
  TrL_leaf (X := F87_1 R s0_0 n0_1 n0_2 b0_3 ds w) (setAll_cons e0 setAll_nil) (by kernel_rfl) (by kernel_rfl) h
theorem F87_calls (s0_0 : ByteArray) (n0_1 n0_2 : Int) (b0_3 : Bool) (w : World) (R : Rt) (h : F87_1 R s0_0 n0_1 n0_2 b0_3 [] w) : Calls prog 87 #[.agg #[.string s0_0, .int .i64 n0_1, .int .i64 n0_2, .bool b0_3]] w R :=
  calls_of_L (l := [c87_0, c87_1, c87_2, c87_3, c87_4]) func87 (by kernel_rfl) (by rw [ntmps87]; exact Nat.le_of_ble_eq_true (by kernel_rfl)) c87_l
    (F87_1_ok R s0_0 n0_1 n0_2 b0_3 [] w _ rfl h)
end Go.Proofs.YtecmfdfhpldmmaaGreatDoor

/- Shallow texts of functions, printed by program, each checked by the kernel against the loaded code. No condition. -/
set_option maxRecDepth 100000
set_option linter.unusedVariables false
namespace Go.Proofs.YtecmfdfhpldmmaaGreatDoor
open Go.Sh
open Tryz
@[reducible] noncomputable def cI2 (f : Func) (i : Nat) : Code := itemAt (flat (bodyOf f)) i
@[reducible] noncomputable def cJ2 (c : Code) (i : Nat) : Code := itemAt (flat (innerC c)) i
noncomputable def c53_0 := cI2 f53 0
noncomputable def c53_1 := cI2 f53 1
noncomputable def c53_2 := cI2 f53 2
noncomputable def c53_3 := cI2 f53 3
noncomputable def c53_4 := cI2 f53 4
noncomputable def c53_5 := cI2 f53 5
noncomputable def c53_6 := cI2 f53 6
noncomputable def c53_7 := cI2 f53 7
def F53_q1 (R : Rt) : EQ := endQ prog f53.results.toList R
def F53_1 (R : Rt) (n1 : Int) (s6 : ByteArray) (ds : Ds) (w : World) : Prop :=
 Calls prog 99 #[.string (⟨#[32]⟩ : ByteArray), .int .i64 (IntKind.i64.wrap (n1 - (s6.size : Int)))] w fun e w1 =>
 ∃ s30 : ByteArray, e = .returned (.string s30) /\
 ((s30.size + s6.size : Nat) : Int) ≤ 9223372036854775807 /\
 runD prog ds w1 fun w2 =>
 R (.returned (.tuple #[.string (s30 ++ s6), .int .i64 0])) w2
def F53_k2 (R : Rt) : EP := (fun E ds w => dInt .i64 (E 1) fun n1 => dStr (E 6) fun s6 => F53_1 R n1 s6 ds w)
def F53_2 (R : Rt) (n0 n1 : Int) (ds : Ds) (w : World) : Prop :=
 Calls prog 97 #[.int .i64 n0] w fun e w3 =>
 ∃ b8 : Bool, e = .returned (.bool b8) /\
 Br (!b8) (
 runD prog ds w3 fun w4 =>
 R (.returned (.tuple #[.string (⟨#[]⟩ : ByteArray), .int .i64 1])) w4) (
 Br (decide (n1 < 1)) (
 runD prog ds w3 fun w5 =>
 R (.returned (.tuple #[.string (⟨#[]⟩ : ByteArray), .int .i64 1])) w5) (
 Br (decide (n1 > 254)) (
 runD prog ds w3 fun w6 =>
 R (.returned (.tuple #[.string (⟨#[]⟩ : ByteArray), .int .i64 1])) w6) (
 Calls prog 98 #[.int .i64 n0] w3 fun e w7 =>
 ∃ s19 : ByteArray, e = .returned (.string s19) /\
 Br (decide ((s19.size : Int) > n1)) (
 Calls prog 99 #[.string (⟨#[42]⟩ : ByteArray), .int .i64 n1] w7 fun e w8 =>
 ∃ s25 : ByteArray, e = .returned (.string s25) /\
 runD prog ds w8 fun w9 =>
 R (.returned (.tuple #[.string s25, .int .i64 0])) w9) (
 F53_1 R n1 s19 ds w7))))
theorem c53_l : flat (bodyOf f53) = [c53_0, c53_1, c53_2, c53_3, c53_4, c53_5, c53_6, c53_7] := by kernel_rfl
theorem F53_1_ok (R : Rt) (n1 : Int) (s6 : ByteArray) (ds : Ds) (w : World) (E : Env) (e1 : E 1 = .int .i64 n1) (e6 : E 6 = .string s6) (h : F53_1 R n1 s6 ds w) :
    TrL prog f53.ntmps [c53_6, c53_7] (F53_q1 R) E ds w :=
  TrL_leaf (X := F53_1 R n1 s6 ds w) (setAll_cons e1 (setAll_cons e6 setAll_nil)) (by kernel_rfl) (by kernel_rfl) h
theorem F53_2_ok (R : Rt) (n0 n1 : Int) (ds : Ds) (w : World) (E : Env) (e0 : E 0 = .int .i64 n0) (e1 : E 1 = .int .i64 n1) (h : F53_2 R n0 n1 ds w) :
    TrL prog f53.ntmps [c53_0, c53_1, c53_2, c53_3, c53_4, c53_5, c53_6, c53_7] (F53_q1 R) E ds w :=
  TrL_piece (pre := [c53_0, c53_1, c53_2, c53_3, c53_4, c53_5]) (K := (F53_k2 R)) (X := F53_2 R n0 n1 ds w) (setAll_cons e0 (setAll_cons e1 setAll_nil)) (by kernel_rfl) (by kernel_rfl)
    (fun E' ds' w' hD => by
      obtain ⟨n1, e1, hD⟩ := dInt_elim hD; obtain ⟨s6, e6, hD⟩ := dStr_elim hD; exact F53_1_ok R n1 s6 ds' w' E' e1 e6 hD) h
theorem F53_calls (n0 n1 : Int) (w : World) (R : Rt) (h : F53_2 R n0 n1 [] w) : Calls prog 53 #[.int .i64 n0, .int .i64 n1] w R :=
  calls_of_L (l := [c53_0, c53_1, c53_2, c53_3, c53_4, c53_5, c53_6, c53_7]) func53 (by kernel_rfl) (by rw [ntmps53]; exact Nat.le_of_ble_eq_true (by kernel_rfl)) c53_l
    (F53_2_ok R n0 n1 [] w _ rfl rfl h)
noncomputable def c98_0 := cI2 f98 0
noncomputable def c98_1 := cI2 f98 1
noncomputable def c98_2 := cI2 f98 2
noncomputable def c98_3 := cI2 f98 3
noncomputable def c98_4 := cI2 f98 4
noncomputable def c98_5 := cI2 f98 5
noncomputable def c98_6 := cI2 f98 6
noncomputable def c98_7 := cI2 f98 7
def F98_q1 (R : Rt) : EQ := endQ prog f98.results.toList R
def F98_1 (R : Rt) (n0 : Int) (ds : Ds) (w : World) : Prop :=
 Br (decide (n0 < 0)) (
 Calls prog 98 #[.int .i64 (IntKind.i64.wrap (0 - n0))] w fun e w1 =>
 ∃ s8 : ByteArray, e = .returned (.string s8) /\
 (((⟨#[45]⟩ : ByteArray).size + s8.size : Nat) : Int) ≤ 9223372036854775807 /\
 runD prog ds w1 fun w2 =>
 R (.returned (.string ((⟨#[45]⟩ : ByteArray) ++ s8))) w2) (
 Br (decide (n0 < 10)) (
 0 ≤ (IntKind.i64.wrap (n0 + 1)) /\ (IntKind.i64.wrap (n0 + 1)).toNat ≤ (⟨#[48, 49, 50, 51, 52, 53, 54, 55, 56, 57]⟩ : ByteArray).size /\ 0 ≤ n0 /\ n0.toNat ≤ (IntKind.i64.wrap (n0 + 1)).toNat /\
 runD prog ds w fun w3 =>
 R (.returned (.string ((⟨#[48, 49, 50, 51, 52, 53, 54, 55, 56, 57]⟩ : ByteArray).extract n0.toNat ((IntKind.i64.wrap (n0 + 1)).toNat)))) w3) (
 dwE w fun w4 =>
 IntKind.i64 = IntKind.i64 /\ (10 : Int) ≠ 0 /\
 IntKind.i64 = IntKind.i64 /\ (10 : Int) ≠ 0 /\
 IntKind.i64 = IntKind.i64 /\ (10 : Int) ≠ 0 /\
 0 ≤ (IntKind.i64.wrap ((n0.tmod 10) + 1)) /\ (IntKind.i64.wrap ((n0.tmod 10) + 1)).toNat ≤ (⟨#[48, 49, 50, 51, 52, 53, 54, 55, 56, 57]⟩ : ByteArray).size /\ 0 ≤ (n0.tmod 10) /\ (n0.tmod 10).toNat ≤ (IntKind.i64.wrap ((n0.tmod 10) + 1)).toNat /\
 Calls prog 98 #[.int .i64 (IntKind.i64.wrap (n0.tdiv 10))] w4 fun e w5 =>
 ∃ s19 : ByteArray, e = .returned (.string s19) /\
 ((s19.size + ((⟨#[48, 49, 50, 51, 52, 53, 54, 55, 56, 57]⟩ : ByteArray).extract ((n0.tmod 10).toNat) ((IntKind.i64.wrap ((n0.tmod 10) + 1)).toNat)).size : Nat) : Int) ≤ 9223372036854775807 /\
 runD prog ds w5 fun w6 =>
 R (.returned (.string (s19 ++ ((⟨#[48, 49, 50, 51, 52, 53, 54, 55, 56, 57]⟩ : ByteArray).extract ((n0.tmod 10).toNat) ((IntKind.i64.wrap ((n0.tmod 10) + 1)).toNat))))) w6))
theorem c98_l : flat (bodyOf f98) = [c98_0, c98_1, c98_2, c98_3, c98_4, c98_5, c98_6, c98_7] := by kernel_rfl
theorem F98_1_ok (R : Rt) (n0 : Int) (ds : Ds) (w : World) (E : Env) (e0 : E 0 = .int .i64 n0) (h : F98_1 R n0 ds w) :
    TrL prog f98.ntmps [c98_0, c98_1, c98_2, c98_3, c98_4, c98_5, c98_6, c98_7] (F98_q1 R) E ds w :=
  TrL_leaf (X := F98_1 R n0 ds w) (setAll_cons e0 setAll_nil) (by kernel_rfl) (by kernel_rfl) h
theorem F98_calls (n0 : Int) (w : World) (R : Rt) (h : F98_1 R n0 [] w) : Calls prog 98 #[.int .i64 n0] w R :=
  calls_of_L (l := [c98_0, c98_1, c98_2, c98_3, c98_4, c98_5, c98_6, c98_7]) func98 (by kernel_rfl) (by rw [ntmps98]; exact Nat.le_of_ble_eq_true (by kernel_rfl)) c98_l
    (F98_1_ok R n0 [] w _ rfl h)
noncomputable def c119_0 := cI2 f119 0
noncomputable def c119_1 := cI2 f119 1
noncomputable def c119_2 := cI2 f119 2
noncomputable def c119_3 := cI2 f119 3
noncomputable def c119_4 := cI2 f119 4
noncomputable def c119_5 := cI2 f119 5
noncomputable def c119_6 := cI2 f119 6
def F119_q1 (R : Rt) : EQ := endQ prog f119.results.toList R
def F119_1 (R : Rt) (n0 : Int) (ds : Ds) (w : World) : Prop :=
 Br (decide (n0 < 0)) (
 Br (n0 == (-9223372036854775808)) (
 runD prog ds w fun w1 =>
 R (.returned (.string (⟨#[45, 57, 50, 50, 51, 51, 55, 50, 48, 51, 54, 56, 53, 52, 55, 55, 53, 56, 48, 56]⟩ : ByteArray))) w1) (
 Calls prog 119 #[.int .i64 (IntKind.i64.wrap (0 - n0))] w fun e w2 =>
 ∃ s9 : ByteArray, e = .returned (.string s9) /\
 (((⟨#[45]⟩ : ByteArray).size + s9.size : Nat) : Int) ≤ 9223372036854775807 /\
 runD prog ds w2 fun w3 =>
 R (.returned (.string ((⟨#[45]⟩ : ByteArray) ++ s9))) w3)) (
 Br (decide (n0 < 10)) (
 0 ≤ (IntKind.i64.wrap (n0 + 1)) /\ (IntKind.i64.wrap (n0 + 1)).toNat ≤ (⟨#[48, 49, 50, 51, 52, 53, 54, 55, 56, 57]⟩ : ByteArray).size /\ 0 ≤ n0 /\ n0.toNat ≤ (IntKind.i64.wrap (n0 + 1)).toNat /\
 runD prog ds w fun w4 =>
 R (.returned (.string ((⟨#[48, 49, 50, 51, 52, 53, 54, 55, 56, 57]⟩ : ByteArray).extract n0.toNat ((IntKind.i64.wrap (n0 + 1)).toNat)))) w4) (
 IntKind.i64 = IntKind.i64 /\ (10 : Int) ≠ 0 /\
 Calls prog 119 #[.int .i64 (IntKind.i64.wrap (n0.tdiv 10))] w fun e w5 =>
 ∃ s19 : ByteArray, e = .returned (.string s19) /\
 IntKind.i64 = IntKind.i64 /\ (10 : Int) ≠ 0 /\
 Calls prog 119 #[.int .i64 (n0.tmod 10)] w5 fun e w6 =>
 ∃ s22 : ByteArray, e = .returned (.string s22) /\
 ((s19.size + s22.size : Nat) : Int) ≤ 9223372036854775807 /\
 runD prog ds w6 fun w7 =>
 R (.returned (.string (s19 ++ s22))) w7))
theorem c119_l : flat (bodyOf f119) = [c119_0, c119_1, c119_2, c119_3, c119_4, c119_5, c119_6] := by kernel_rfl
theorem F119_1_ok (R : Rt) (n0 : Int) (ds : Ds) (w : World) (E : Env) (e0 : E 0 = .int .i64 n0) (h : F119_1 R n0 ds w) :
    TrL prog f119.ntmps [c119_0, c119_1, c119_2, c119_3, c119_4, c119_5, c119_6] (F119_q1 R) E ds w :=
  TrL_leaf (X := F119_1 R n0 ds w) (setAll_cons e0 setAll_nil) (by kernel_rfl) (by kernel_rfl) h
theorem F119_calls (n0 : Int) (w : World) (R : Rt) (h : F119_1 R n0 [] w) : Calls prog 119 #[.int .i64 n0] w R :=
  calls_of_L (l := [c119_0, c119_1, c119_2, c119_3, c119_4, c119_5, c119_6]) func119 (by kernel_rfl) (by rw [ntmps119]; exact Nat.le_of_ble_eq_true (by kernel_rfl)) c119_l
    (F119_1_ok R n0 [] w _ rfl h)
noncomputable def c103_0 := cI2 f103 0
noncomputable def c103_1 := cI2 f103 1
noncomputable def c103_2 := cI2 f103 2
noncomputable def c103_3 := cI2 f103 3
noncomputable def c103_4 := cI2 f103 4
noncomputable def c103_2_0 := cJ2 c103_2 0
noncomputable def c103_2_0_0 := cJ2 c103_2_0 0
noncomputable def c103_2_0_1 := cJ2 c103_2_0 1
noncomputable def c103_2_0_2 := cJ2 c103_2_0 2
def F103_q1 (R : Rt) : EQ := endQ prog f103.results.toList R
def F103_1 (R : Rt) (s0 : ByteArray) (n3 : Int) (ds : Ds) (w : World) : Prop :=
 0 ≤ n3 /\ n3.toNat ≤ s0.size /\ 0 ≤ n3.toNat /\
 runD prog ds w fun w1 =>
 R (.returned (.string (s0.extract 0 n3.toNat))) w1
def F103_k2 (R : Rt) : EP := (fun E ds w => dStr (E 0) fun s0 => dInt .i64 (E 3) fun n3 => F103_1 R s0 n3 ds w)
def F103_q3 (R : Rt) : EQ := (thenQ (F103_k2 R) (F103_q1 R))
def F103_q4 (R : Rt) : EQ := (blockQ 0 (F103_q3 R))
def F103_q5 (R : Rt) (J1 : (Int) -> World -> Prop) : EQ := (thenQ (fun E _ w => dInt .i64 (E 3) fun n3 => J1 n3 w) (F103_q4 R))
def F103_2 (R : Rt) (J1 : (Int) -> World -> Prop) (s0 : ByteArray) (n3 : Int) (ds : Ds) (w : World) : Prop :=
 Br (decide (n3 > 0)) (
 ∃ b12 : UInt8, 0 ≤ (IntKind.i64.wrap (n3 - 1)) /\ s0[(IntKind.i64.wrap (n3 - 1)).toNat]? = some b12 /\
 Br ((b12.toNat : Int) == 32) (
 J1 (IntKind.i64.wrap (n3 - 1)) w) (
 F103_1 R s0 n3 ds w)) (
 F103_1 R s0 n3 ds w)
def F103_3 (R : Rt) (s0 : ByteArray) (n3 : Int) (ds : Ds) (w : World) : Prop :=
 loopT (fun (J1 : (Int) -> World -> Prop) (s : Int) (w : World) => F103_2 R J1 s0 s ds w) n3 w
abbrev F103_4 (R : Rt) (s0 : ByteArray) (n3 : Int) (ds : Ds) (w : World) : Prop := F103_3 R s0 n3 ds w
def F103_k6 (R : Rt) : EP := (fun E ds w => dStr (E 0) fun s0 => dInt .i64 (E 3) fun n3 => F103_4 R s0 n3 ds w)
def F103_5 (R : Rt) (s0 : ByteArray) (ds : Ds) (w : World) : Prop :=
 F103_4 R s0 (s0.size : Int) ds w
theorem c103_l : flat (bodyOf f103) = [c103_0, c103_1, c103_2, c103_3, c103_4] := by kernel_rfl
theorem c103_2_l : flat (innerC c103_2) = [c103_2_0] := by kernel_rfl
theorem c103_2_0_l : flat (innerC c103_2_0) = [c103_2_0_0, c103_2_0_1, c103_2_0_2] := by kernel_rfl
theorem F103_1_ok (R : Rt) (s0 : ByteArray) (n3 : Int) (ds : Ds) (w : World) (E : Env) (e0 : E 0 = .string s0) (e3 : E 3 = .int .i64 n3) (h : F103_1 R s0 n3 ds w) :
    TrL prog f103.ntmps [c103_3, c103_4] (F103_q1 R) E ds w :=
  TrL_leaf (X := F103_1 R s0 n3 ds w) (setAll_cons e0 (setAll_cons e3 setAll_nil)) (by kernel_rfl) (by kernel_rfl) h
theorem F103_2_ok (R : Rt) (J1 : (Int) -> World -> Prop) (s0 : ByteArray) (n3 : Int) (ds : Ds) (w : World) (E : Env) (e0 : E 0 = .string s0) (e3 : E 3 = .int .i64 n3) (h : F103_2 R J1 s0 n3 ds w) :
    TrL prog f103.ntmps [c103_2_0_0, c103_2_0_1, c103_2_0_2] (F103_q5 R J1) E ds w :=
  TrL_leaf (X := F103_2 R J1 s0 n3 ds w) (setAll_cons e0 (setAll_cons e3 setAll_nil)) (by kernel_rfl) (by kernel_rfl) h
theorem F103_3_ok (R : Rt) (s0 : ByteArray) (n3 : Int) (ds : Ds) (w : World) (E : Env) (e0 : E 0 = .string s0) (e3 : E 3 = .int .i64 n3) (h : F103_3 R s0 n3 ds w) :
    TrL prog f103.ntmps [c103_2_0] (F103_q4 R) E ds w :=
  TrL_one (Tr_loop' (c := innerC c103_2_0) (σ := Int) (enc := (fun (s : Int) (E : Env) => E 3 = .int .i64 s)) (D := (fun E K => dInt .i64 (E 3) fun n3 => K n3)) (F := (fun (J1 : (Int) -> World -> Prop) (s : Int) (w : World) => F103_2 R J1 s0 s ds w)) (s0 := n3) (by kernel_rfl) c103_2_0_l e3 (by kernel_rfl) (fun E K hD => by obtain ⟨n3, e3, hD⟩ := dInt_elim hD; exact ⟨n3, e3, hD⟩)
      (fun J1 s E' w' he ha hF => by
      have e3' := he
      exact F103_2_ok R J1 s0 s ds w' E' ((ha 0 (by kernel_rfl)).trans e0) e3' hF) h)
theorem F103_4_ok (R : Rt) (s0 : ByteArray) (n3 : Int) (ds : Ds) (w : World) (E : Env) (e0 : E 0 = .string s0) (e3 : E 3 = .int .i64 n3) (h : F103_4 R s0 n3 ds w) :
    TrL prog f103.ntmps [c103_2, c103_3, c103_4] (F103_q1 R) E ds w :=
  TrL_head (K := (F103_k2 R)) (Tr_block' (c := innerC c103_2) (by kernel_rfl) c103_2_l (F103_3_ok R s0 n3 ds w E e0 e3 h))
    (fun E' ds' w' hD => by
      obtain ⟨s0, e0, hD⟩ := dStr_elim hD; obtain ⟨n3, e3, hD⟩ := dInt_elim hD; exact F103_1_ok R s0 n3 ds' w' E' e0 e3 hD)
theorem F103_5_ok (R : Rt) (s0 : ByteArray) (ds : Ds) (w : World) (E : Env) (e0 : E 0 = .string s0) (h : F103_5 R s0 ds w) :
    TrL prog f103.ntmps [c103_0, c103_1, c103_2, c103_3, c103_4] (F103_q1 R) E ds w :=
  TrL_piece (pre := [c103_0, c103_1]) (K := (F103_k6 R)) (X := F103_5 R s0 ds w) (setAll_cons e0 setAll_nil) (by kernel_rfl) (by kernel_rfl)
    (fun E' ds' w' hD => by
      obtain ⟨s0, e0, hD⟩ := dStr_elim hD; obtain ⟨n3, e3, hD⟩ := dInt_elim hD; exact F103_4_ok R s0 n3 ds' w' E' e0 e3 hD) h
theorem F103_calls (s0 : ByteArray) (w : World) (R : Rt) (h : F103_5 R s0 [] w) : Calls prog 103 #[.string s0] w R :=
  calls_of_L (l := [c103_0, c103_1, c103_2, c103_3, c103_4]) func103 (by kernel_rfl) (by rw [ntmps103]; exact Nat.le_of_ble_eq_true (by kernel_rfl)) c103_l
    (F103_5_ok R s0 [] w _ rfl h)
noncomputable def c46_0 := cI2 f46 0
noncomputable def c46_1 := cI2 f46 1
noncomputable def c46_2 := cI2 f46 2
def F46_q1 (R : Rt) : EQ := endQ prog f46.results.toList R
def F46_1 (R : Rt) (s0 : ByteArray) (ds : Ds) (w : World) : Prop :=
 alE (.cells #[.int .i64 0, .int .i64 0, .string (⟨#[]⟩ : ByteArray)] 25) w fun r2 w1 =>
 stA prog 25 (⟨r2, 0, none⟩ : Addr) #[.int .i64 4, .int .i64 0, .string s0] w1 fun w2 =>
 runD prog ds w2 fun w3 =>
 ∃ nR0_0 : Int, w3.cell? ((⟨r2, 0, none⟩ : Addr).add 0) = some (.int .i64 nR0_0) /\
 ∃ nR0_1 : Int, w3.cell? ((⟨r2, 0, none⟩ : Addr).add 1) = some (.int .i64 nR0_1) /\
 ∃ sR0_2 : ByteArray, w3.cell? ((⟨r2, 0, none⟩ : Addr).add 2) = some (.string sR0_2) /\
 R (.returned (.agg #[.int .i64 nR0_0, .int .i64 nR0_1, .string sR0_2])) w3
theorem c46_l : flat (bodyOf f46) = [c46_0, c46_1, c46_2] := by kernel_rfl
theorem F46_1_ok (R : Rt) (s0 : ByteArray) (ds : Ds) (w : World) (E : Env) (e0 : E 0 = .string s0) (h : F46_1 R s0 ds w) :
    TrL prog f46.ntmps [c46_0, c46_1, c46_2] (F46_q1 R) E ds w :=
  TrL_leaf (X := F46_1 R s0 ds w) (setAll_cons e0 setAll_nil) (by kernel_rfl) (by kernel_rfl) h
theorem F46_calls (s0 : ByteArray) (w : World) (R : Rt) (h : F46_1 R s0 [] w) : Calls prog 46 #[.string s0] w R :=
  calls_of_L (l := [c46_0, c46_1, c46_2]) func46 (by kernel_rfl) (by rw [ntmps46]; exact Nat.le_of_ble_eq_true (by kernel_rfl)) c46_l
    (F46_1_ok R s0 [] w _ rfl h)
end Go.Proofs.YtecmfdfhpldmmaaGreatDoor

/- Shallow texts of functions, printed by program, each checked by the kernel against the loaded code. No condition. -/
set_option maxRecDepth 100000
set_option linter.unusedVariables false
namespace Go.Proofs.YtecmfdfhpldmmaaGreatDoor
open Go.Sh
open Tryz
@[reducible] noncomputable def cI3 (f : Func) (i : Nat) : Code := itemAt (flat (bodyOf f)) i
@[reducible] noncomputable def cJ3 (c : Code) (i : Nat) : Code := itemAt (flat (innerC c)) i
noncomputable def c52_0 := cI3 f52 0
noncomputable def c52_1 := cI3 f52 1
noncomputable def c52_2 := cI3 f52 2
noncomputable def c52_3 := cI3 f52 3
def F52_q1 (R : Rt) : EQ := endQ prog f52.results.toList R
def F52_1 (R : Rt) (s0 : ByteArray) (n1 : Int) (ds : Ds) (w : World) : Prop :=
 Calls prog 96 #[.string s0, .int .i64 n1] w fun e w1 =>
 ∃ b10_0 : Bool, ∃ n10_1 : Int, e = .returned (.tuple #[.bool b10_0, .int .i64 n10_1]) /\
 Br b10_0 (
 runD prog ds w1 fun w2 =>
 R (.returned (.bool (n10_1 == 0))) w2) (
 runD prog ds w1 fun w3 =>
 R (.returned (.bool false)) w3)
theorem c52_l : flat (bodyOf f52) = [c52_0, c52_1, c52_2, c52_3] := by kernel_rfl
theorem F52_1_ok (R : Rt) (s0 : ByteArray) (n1 : Int) (ds : Ds) (w : World) (E : Env) (e0 : E 0 = .string s0) (e1 : E 1 = .int .i64 n1) (h : F52_1 R s0 n1 ds w) :
    TrL prog f52.ntmps [c52_0, c52_1, c52_2, c52_3] (F52_q1 R) E ds w :=
  TrL_leaf (X := F52_1 R s0 n1 ds w) (setAll_cons e0 (setAll_cons e1 setAll_nil)) (by kernel_rfl) (by kernel_rfl) h
theorem F52_calls (s0 : ByteArray) (n1 : Int) (w : World) (R : Rt) (h : F52_1 R s0 n1 [] w) : Calls prog 52 #[.string s0, .int .i64 n1] w R :=
  calls_of_L (l := [c52_0, c52_1, c52_2, c52_3]) func52 (by kernel_rfl) (by rw [ntmps52]; exact Nat.le_of_ble_eq_true (by kernel_rfl)) c52_l
    (F52_1_ok R s0 n1 [] w _ rfl rfl h)
noncomputable def c96_0 := cI3 f96 0
noncomputable def c96_1 := cI3 f96 1
noncomputable def c96_2 := cI3 f96 2
noncomputable def c96_3 := cI3 f96 3
noncomputable def c96_4 := cI3 f96 4
noncomputable def c96_5 := cI3 f96 5
noncomputable def c96_6 := cI3 f96 6
noncomputable def c96_7 := cI3 f96 7
noncomputable def c96_8 := cI3 f96 8
noncomputable def c96_6_0 := cJ3 c96_6 0
noncomputable def c96_6_0_0 := cJ3 c96_6_0 0
noncomputable def c96_6_0_1 := cJ3 c96_6_0 1
noncomputable def c96_6_0_2 := cJ3 c96_6_0 2
noncomputable def c96_6_0_3 := cJ3 c96_6_0 3
def F96_q1 (R : Rt) : EQ := endQ prog f96.results.toList R
def F96_1 (R : Rt) (ds : Ds) (w : World) : Prop :=
 runD prog ds w fun w1 =>
 R (.returned (.tuple #[.bool true, .int .i64 0])) w1
def F96_k2 (R : Rt) : EP := (fun E ds w => F96_1 R ds w)
def F96_q3 (R : Rt) : EQ := (thenQ (F96_k2 R) (F96_q1 R))
def F96_q4 (R : Rt) : EQ := (blockQ 0 (F96_q3 R))
def F96_q5 (R : Rt) (J1 : (Int) -> World -> Prop) : EQ := (thenQ (fun E _ w => dInt .i64 (E 23) fun n23 => J1 n23 w) (F96_q4 R))
def F96_2 (R : Rt) (J1 : (Int) -> World -> Prop) (p7 : Option Addr) (l21 : SV) (n22 n23 : Int) (ds : Ds) (w : World) : Prop :=
 Br (decide (n23 < n22)) (
 ∃ a2 : Addr, l21.a = some a2 /\ 0 ≤ n23 /\ n23 < (l21.len : Int) /\
 ∃ n26 : Int, w.cell? (a2.add (n23.toNat * 1)) = some (.int .u8 n26) /\
 ptrE p7 fun a3 =>
 0 ≤ n26 /\ n26 < (256 : Int) /\
 ∃ n29 : Int, w.cell? (a3.add (n26.toNat * 1)) = some (.int .i32 n29) /\
 Br (decide (n29 < 0)) (
 runD prog ds w fun w4 =>
 R (.returned (.tuple #[.bool false, .int .i64 0])) w4) (
 J1 (IntKind.i64.wrap (n23 + 1)) w)) (
 F96_1 R ds w)
def F96_3 (R : Rt) (p7 : Option Addr) (l21 : SV) (n22 n23 : Int) (ds : Ds) (w : World) : Prop :=
 loopT (fun (J1 : (Int) -> World -> Prop) (s : Int) (w : World) => F96_2 R J1 p7 l21 n22 s ds w) n23 w
abbrev F96_4 (R : Rt) (p7 : Option Addr) (l21 : SV) (n22 n23 : Int) (ds : Ds) (w : World) : Prop := F96_3 R p7 l21 n22 n23 ds w
def F96_k6 (R : Rt) : EP := (fun E ds w => dPtr (E 7) fun p7 => dSl (E 21) fun l21 => dInt .i64 (E 22) fun n22 => dInt .i64 (E 23) fun n23 => F96_4 R p7 l21 n22 n23 ds w)
def F96_5 (R : Rt) (s0 : ByteArray) (n1 : Int) (ds : Ds) (w : World) : Prop :=
 alE (.cells #[.string s0] 9) w fun r12 w5 =>
 Calls prog 140 #[.int .i64 n1, .slice (some ⟨r12, 0, none⟩) 1 1] w5 fun e w6 =>
 ∃ n13 : Int, e = .returned (.int .i64 n13) /\
 Br (n13 != 0) (
 runD prog ds w6 fun w7 =>
 R (.returned (.tuple #[.bool false, .int .i64 n13])) w7) (
 Calls prog 141 #[] w6 fun e w8 =>
 ∃ c17 : Array Value, c17.size = 768 /\ e = .returned (.agg c17) /\
 ∃ c19 : Array Value, c19.size = 256 /\ ∃ w9 : World, (Instr.index 149 (.agg c17) (.int .i64 n1)).run prog w8 = .ok (.agg c19) w9 /\
 alE (.cells (zc prog 148) 148) w9 fun r7 w10 =>
 stA prog 148 (⟨r7, 0, none⟩ : Addr) c19 w10 fun w11 =>
 ∃ l21 : SV, ∃ w12 : World, (convert 9 37 (.string s0)).run prog w11 = .ok (.slice l21.a l21.len l21.cap) w12 /\
 F96_4 R (some (⟨r7, 0, none⟩ : Addr)) l21 (l21.len : Int) 0 ds w12)
theorem c96_l : flat (bodyOf f96) = [c96_0, c96_1, c96_2, c96_3, c96_4, c96_5, c96_6, c96_7, c96_8] := by kernel_rfl
theorem c96_6_l : flat (innerC c96_6) = [c96_6_0] := by kernel_rfl
theorem c96_6_0_l : flat (innerC c96_6_0) = [c96_6_0_0, c96_6_0_1, c96_6_0_2, c96_6_0_3] := by kernel_rfl
theorem F96_1_ok (R : Rt) (ds : Ds) (w : World) (E : Env) (h : F96_1 R ds w) :
    TrL prog f96.ntmps [c96_7, c96_8] (F96_q1 R) E ds w :=
  TrL_leaf (X := F96_1 R ds w) setAll_nil (by kernel_rfl) (by kernel_rfl) h
theorem F96_2_ok (R : Rt) (J1 : (Int) -> World -> Prop) (p7 : Option Addr) (l21 : SV) (n22 n23 : Int) (ds : Ds) (w : World) (E : Env) (e7 : E 7 = .pointer p7) (e21 : E 21 = .slice l21.a l21.len l21.cap) (e22 : E 22 = .int .i64 n22) (e23 : E 23 = .int .i64 n23) (h : F96_2 R J1 p7 l21 n22 n23 ds w) :
    TrL prog f96.ntmps [c96_6_0_0, c96_6_0_1, c96_6_0_2, c96_6_0_3] (F96_q5 R J1) E ds w :=
  TrL_leaf (X := F96_2 R J1 p7 l21 n22 n23 ds w) (setAll_cons e7 (setAll_cons e21 (setAll_cons e22 (setAll_cons e23 setAll_nil)))) (by kernel_rfl) (by kernel_rfl) h
theorem F96_3_ok (R : Rt) (p7 : Option Addr) (l21 : SV) (n22 n23 : Int) (ds : Ds) (w : World) (E : Env) (e7 : E 7 = .pointer p7) (e21 : E 21 = .slice l21.a l21.len l21.cap) (e22 : E 22 = .int .i64 n22) (e23 : E 23 = .int .i64 n23) (h : F96_3 R p7 l21 n22 n23 ds w) :
    TrL prog f96.ntmps [c96_6_0] (F96_q4 R) E ds w :=
  TrL_one (Tr_loop' (c := innerC c96_6_0) (σ := Int) (enc := (fun (s : Int) (E : Env) => E 23 = .int .i64 s)) (D := (fun E K => dInt .i64 (E 23) fun n23 => K n23)) (F := (fun (J1 : (Int) -> World -> Prop) (s : Int) (w : World) => F96_2 R J1 p7 l21 n22 s ds w)) (s0 := n23) (by kernel_rfl) c96_6_0_l e23 (by kernel_rfl) (fun E K hD => by obtain ⟨n23, e23, hD⟩ := dInt_elim hD; exact ⟨n23, e23, hD⟩)
      (fun J1 s E' w' he ha hF => by
      have e23' := he
      exact F96_2_ok R J1 p7 l21 n22 s ds w' E' ((ha 7 (by kernel_rfl)).trans e7) ((ha 21 (by kernel_rfl)).trans e21) ((ha 22 (by kernel_rfl)).trans e22) e23' hF) h)
theorem F96_4_ok (R : Rt) (p7 : Option Addr) (l21 : SV) (n22 n23 : Int) (ds : Ds) (w : World) (E : Env) (e7 : E 7 = .pointer p7) (e21 : E 21 = .slice l21.a l21.len l21.cap) (e22 : E 22 = .int .i64 n22) (e23 : E 23 = .int .i64 n23) (h : F96_4 R p7 l21 n22 n23 ds w) :
    TrL prog f96.ntmps [c96_6, c96_7, c96_8] (F96_q1 R) E ds w :=
  TrL_head (K := (F96_k2 R)) (Tr_block' (c := innerC c96_6) (by kernel_rfl) c96_6_l (F96_3_ok R p7 l21 n22 n23 ds w E e7 e21 e22 e23 h))
    (fun E' ds' w' hD => by
      exact F96_1_ok R ds' w' E'  hD)
theorem F96_5_ok (R : Rt) (s0 : ByteArray) (n1 : Int) (ds : Ds) (w : World) (E : Env) (e0 : E 0 = .string s0) (e1 : E 1 = .int .i64 n1) (h : F96_5 R s0 n1 ds w) :
    TrL prog f96.ntmps [c96_0, c96_1, c96_2, c96_3, c96_4, c96_5, c96_6, c96_7, c96_8] (F96_q1 R) E ds w :=
  TrL_piece (pre := [c96_0, c96_1, c96_2, c96_3, c96_4, c96_5]) (K := (F96_k6 R)) (X := F96_5 R s0 n1 ds w) (setAll_cons e0 (setAll_cons e1 setAll_nil)) (by kernel_rfl) (by kernel_rfl)
    (fun E' ds' w' hD => by
      obtain ⟨p7, e7, hD⟩ := dPtr_elim hD; obtain ⟨l21, e21, hD⟩ := dSl_elim hD; obtain ⟨n22, e22, hD⟩ := dInt_elim hD; obtain ⟨n23, e23, hD⟩ := dInt_elim hD; exact F96_4_ok R p7 l21 n22 n23 ds' w' E' e7 e21 e22 e23 hD) h
theorem F96_calls (s0 : ByteArray) (n1 : Int) (w : World) (R : Rt) (h : F96_5 R s0 n1 [] w) : Calls prog 96 #[.string s0, .int .i64 n1] w R :=
  calls_of_L (l := [c96_0, c96_1, c96_2, c96_3, c96_4, c96_5, c96_6, c96_7, c96_8]) func96 (by kernel_rfl) (by rw [ntmps96]; exact Nat.le_of_ble_eq_true (by kernel_rfl)) c96_l
    (F96_5_ok R s0 n1 [] w _ rfl rfl h)
noncomputable def c140_0 := cI3 f140 0
noncomputable def c140_1 := cI3 f140 1
noncomputable def c140_2 := cI3 f140 2
noncomputable def c140_3 := cI3 f140 3
noncomputable def c140_4 := cI3 f140 4
noncomputable def c140_5 := cI3 f140 5
noncomputable def c140_6 := cI3 f140 6
noncomputable def c140_2_0 := cJ3 c140_2 0
noncomputable def c140_2_0_0 := cJ3 c140_2_0 0
noncomputable def c140_2_0_1 := cJ3 c140_2_0 1
noncomputable def c140_2_0_2 := cJ3 c140_2_0 2
noncomputable def c140_2_0_3 := cJ3 c140_2_0 3
def F140_q1 (R : Rt) : EQ := endQ prog f140.results.toList R
def F140_1 (R : Rt) (n0 : Int) (ds : Ds) (w : World) : Prop :=
 Br (decide (n0 < 0)) (
 runD prog ds w fun w1 =>
 R (.returned (.int .i64 1)) w1) (
 Br (decide (n0 > 2)) (
 runD prog ds w fun w2 =>
 R (.returned (.int .i64 1)) w2) (
 runD prog ds w fun w3 =>
 R (.returned (.int .i64 0)) w3))
def F140_k2 (R : Rt) : EP := (fun E ds w => dInt .i64 (E 0) fun n0 => F140_1 R n0 ds w)
def F140_q3 (R : Rt) : EQ := (thenQ (F140_k2 R) (F140_q1 R))
def F140_q4 (R : Rt) : EQ := (blockQ 0 (F140_q3 R))
def F140_q5 (R : Rt) (J1 : (Int) -> World -> Prop) : EQ := (thenQ (fun E _ w => dInt .i64 (E 9) fun n9 => J1 n9 w) (F140_q4 R))
def F140_2 (R : Rt) (J1 : (Int) -> World -> Prop) (n0 : Int) (l7 : SV) (n8 n9 : Int) (ds : Ds) (w : World) : Prop :=
 Br (decide (n9 < n8)) (
 ∃ a4 : Addr, l7.a = some a4 /\ 0 ≤ n9 /\ n9 < (l7.len : Int) /\
 ∃ s12 : ByteArray, w.cell? (a4.add (n9.toNat * 1)) = some (.string s12) /\
 Br (decide ((s12.size : Int) > 2048)) (
 runD prog ds w fun w5 =>
 R (.returned (.int .i64 3)) w5) (
 J1 (IntKind.i64.wrap (n9 + 1)) w)) (
 F140_1 R n0 ds w)
def F140_3 (R : Rt) (n0 : Int) (l7 : SV) (n8 n9 : Int) (ds : Ds) (w : World) : Prop :=
 loopT (fun (J1 : (Int) -> World -> Prop) (s : Int) (w : World) => F140_2 R J1 n0 l7 n8 s ds w) n9 w
abbrev F140_4 (R : Rt) (n0 : Int) (l7 : SV) (n8 n9 : Int) (ds : Ds) (w : World) : Prop := F140_3 R n0 l7 n8 n9 ds w
def F140_k6 (R : Rt) : EP := (fun E ds w => dInt .i64 (E 0) fun n0 => dSl (E 7) fun l7 => dInt .i64 (E 8) fun n8 => dInt .i64 (E 9) fun n9 => F140_4 R n0 l7 n8 n9 ds w)
def F140_5 (R : Rt) (n0 : Int) (l1 : SV) (ds : Ds) (w : World) : Prop :=
 F140_4 R n0 l1 (l1.len : Int) 0 ds w
theorem c140_l : flat (bodyOf f140) = [c140_0, c140_1, c140_2, c140_3, c140_4, c140_5, c140_6] := by kernel_rfl
theorem c140_2_l : flat (innerC c140_2) = [c140_2_0] := by kernel_rfl
theorem c140_2_0_l : flat (innerC c140_2_0) = [c140_2_0_0, c140_2_0_1, c140_2_0_2, c140_2_0_3] := by kernel_rfl
theorem F140_1_ok (R : Rt) (n0 : Int) (ds : Ds) (w : World) (E : Env) (e0 : E 0 = .int .i64 n0) (h : F140_1 R n0 ds w) :
    TrL prog f140.ntmps [c140_3, c140_4, c140_5, c140_6] (F140_q1 R) E ds w :=
  TrL_leaf (X := F140_1 R n0 ds w) (setAll_cons e0 setAll_nil) (by kernel_rfl) (by kernel_rfl) h
theorem F140_2_ok (R : Rt) (J1 : (Int) -> World -> Prop) (n0 : Int) (l7 : SV) (n8 n9 : Int) (ds : Ds) (w : World) (E : Env) (e0 : E 0 = .int .i64 n0) (e7 : E 7 = .slice l7.a l7.len l7.cap) (e8 : E 8 = .int .i64 n8) (e9 : E 9 = .int .i64 n9) (h : F140_2 R J1 n0 l7 n8 n9 ds w) :
    TrL prog f140.ntmps [c140_2_0_0, c140_2_0_1, c140_2_0_2, c140_2_0_3] (F140_q5 R J1) E ds w :=
  TrL_leaf (X := F140_2 R J1 n0 l7 n8 n9 ds w) (setAll_cons e0 (setAll_cons e7 (setAll_cons e8 (setAll_cons e9 setAll_nil)))) (by kernel_rfl) (by kernel_rfl) h
theorem F140_3_ok (R : Rt) (n0 : Int) (l7 : SV) (n8 n9 : Int) (ds : Ds) (w : World) (E : Env) (e0 : E 0 = .int .i64 n0) (e7 : E 7 = .slice l7.a l7.len l7.cap) (e8 : E 8 = .int .i64 n8) (e9 : E 9 = .int .i64 n9) (h : F140_3 R n0 l7 n8 n9 ds w) :
    TrL prog f140.ntmps [c140_2_0] (F140_q4 R) E ds w :=
  TrL_one (Tr_loop' (c := innerC c140_2_0) (σ := Int) (enc := (fun (s : Int) (E : Env) => E 9 = .int .i64 s)) (D := (fun E K => dInt .i64 (E 9) fun n9 => K n9)) (F := (fun (J1 : (Int) -> World -> Prop) (s : Int) (w : World) => F140_2 R J1 n0 l7 n8 s ds w)) (s0 := n9) (by kernel_rfl) c140_2_0_l e9 (by kernel_rfl) (fun E K hD => by obtain ⟨n9, e9, hD⟩ := dInt_elim hD; exact ⟨n9, e9, hD⟩)
      (fun J1 s E' w' he ha hF => by
      have e9' := he
      exact F140_2_ok R J1 n0 l7 n8 s ds w' E' ((ha 0 (by kernel_rfl)).trans e0) ((ha 7 (by kernel_rfl)).trans e7) ((ha 8 (by kernel_rfl)).trans e8) e9' hF) h)
theorem F140_4_ok (R : Rt) (n0 : Int) (l7 : SV) (n8 n9 : Int) (ds : Ds) (w : World) (E : Env) (e0 : E 0 = .int .i64 n0) (e7 : E 7 = .slice l7.a l7.len l7.cap) (e8 : E 8 = .int .i64 n8) (e9 : E 9 = .int .i64 n9) (h : F140_4 R n0 l7 n8 n9 ds w) :
    TrL prog f140.ntmps [c140_2, c140_3, c140_4, c140_5, c140_6] (F140_q1 R) E ds w :=
  TrL_head (K := (F140_k2 R)) (Tr_block' (c := innerC c140_2) (by kernel_rfl) c140_2_l (F140_3_ok R n0 l7 n8 n9 ds w E e0 e7 e8 e9 h))
    (fun E' ds' w' hD => by
      obtain ⟨n0, e0, hD⟩ := dInt_elim hD; exact F140_1_ok R n0 ds' w' E' e0 hD)
theorem F140_5_ok (R : Rt) (n0 : Int) (l1 : SV) (ds : Ds) (w : World) (E : Env) (e0 : E 0 = .int .i64 n0) (e1 : E 1 = .slice l1.a l1.len l1.cap) (h : F140_5 R n0 l1 ds w) :
    TrL prog f140.ntmps [c140_0, c140_1, c140_2, c140_3, c140_4, c140_5, c140_6] (F140_q1 R) E ds w :=
  TrL_piece (pre := [c140_0, c140_1]) (K := (F140_k6 R)) (X := F140_5 R n0 l1 ds w) (setAll_cons e0 (setAll_cons e1 setAll_nil)) (by kernel_rfl) (by kernel_rfl)
    (fun E' ds' w' hD => by
      obtain ⟨n0, e0, hD⟩ := dInt_elim hD; obtain ⟨l7, e7, hD⟩ := dSl_elim hD; obtain ⟨n8, e8, hD⟩ := dInt_elim hD; obtain ⟨n9, e9, hD⟩ := dInt_elim hD; exact F140_4_ok R n0 l7 n8 n9 ds' w' E' e0 e7 e8 e9 hD) h
theorem F140_calls (n0 : Int) (l1 : SV) (w : World) (R : Rt) (h : F140_5 R n0 l1 [] w) : Calls prog 140 #[.int .i64 n0, .slice l1.a l1.len l1.cap] w R :=
  calls_of_L (l := [c140_0, c140_1, c140_2, c140_3, c140_4, c140_5, c140_6]) func140 (by kernel_rfl) (by rw [ntmps140]; exact Nat.le_of_ble_eq_true (by kernel_rfl)) c140_l
    (F140_5_ok R n0 l1 [] w _ rfl rfl h)
noncomputable def c141_0 := cI3 f141 0
noncomputable def c141_1 := cI3 f141 1
noncomputable def c141_2 := cI3 f141 2
noncomputable def c141_3 := cI3 f141 3
noncomputable def c141_4 := cI3 f141 4
noncomputable def c141_5 := cI3 f141 5
noncomputable def c141_6 := cI3 f141 6
noncomputable def c141_7 := cI3 f141 7
noncomputable def c141_8 := cI3 f141 8
noncomputable def c141_9 := cI3 f141 9
noncomputable def c141_7_0 := cJ3 c141_7 0
noncomputable def c141_7_0_0 := cJ3 c141_7_0 0
noncomputable def c141_7_0_1 := cJ3 c141_7_0 1
noncomputable def c141_7_0_2 := cJ3 c141_7_0 2
noncomputable def c141_7_0_3 := cJ3 c141_7_0 3
noncomputable def c141_5_0 := cJ3 c141_5 0
noncomputable def c141_5_0_0 := cJ3 c141_5_0 0
noncomputable def c141_5_0_1 := cJ3 c141_5_0 1
noncomputable def c141_5_0_2 := cJ3 c141_5_0 2
noncomputable def c141_5_0_3 := cJ3 c141_5_0 3
noncomputable def c141_3_0 := cJ3 c141_3 0
noncomputable def c141_3_0_0 := cJ3 c141_3_0 0
noncomputable def c141_3_0_1 := cJ3 c141_3_0 1
noncomputable def c141_3_0_2 := cJ3 c141_3_0 2
noncomputable def c141_3_0_3 := cJ3 c141_3_0 3
def F141_q1 (R : Rt) : EQ := endQ prog f141.results.toList R
def F141_1 (R : Rt) (p0 p1 : Option Addr) (ds : Ds) (w : World) : Prop :=
 ptrE p1 fun a1 =>
 ∃ c48 : Array Value, c48.size = 768 /\ (∀ i, i < 768 -> w.cell? (a1.add i) = c48[i]?) /\
 ptrE p0 fun a2 =>
 stA prog 149 a2 c48 w fun w3 =>
 runD prog ds w3 fun w4 =>
 ptrE p0 fun a5 =>
 ∃ cR0 : Array Value, cR0.size = 768 /\ (∀ i, i < 768 -> w4.cell? (a5.add i) = cR0[i]?) /\
 R (.returned (.agg cR0)) w4
def F141_k2 (R : Rt) : EP := (fun E ds w => dPtr (E 0) fun p0 => dPtr (E 1) fun p1 => F141_1 R p0 p1 ds w)
def F141_q3 (R : Rt) : EQ := (thenQ (F141_k2 R) (F141_q1 R))
def F141_q4 (R : Rt) : EQ := (blockQ 4 (F141_q3 R))
def F141_q5 (R : Rt) (J1 : (Int) -> World -> Prop) : EQ := (thenQ (fun E _ w => dInt .i64 (E 5) fun n5 => J1 n5 w) (F141_q4 R))
def F141_2 (R : Rt) (J1 : (Int) -> World -> Prop) (p0 p1 : Option Addr) (n5 : Int) (ds : Ds) (w : World) : Prop :=
 Br (decide (n5 ≤ 239)) (
 ptrE p1 fun a6 =>
 0 ≤ (2 : Int) /\ (2 : Int) < (3 : Int) /\
 0 ≤ n5 /\ n5 < (256 : Int) /\
 st1 ((a6.add ((2 : Int).toNat * 256)).add (n5.toNat * 1)) (.int .i32 (IntKind.i32.wrap ((1088 : Int) + (IntKind.i32.wrap (IntKind.i64.wrap (n5 - 224)))))) w fun w7 =>
 J1 (IntKind.i64.wrap (n5 + 1)) w7) (
 F141_1 R p0 p1 ds w)
def F141_3 (R : Rt) (p0 p1 : Option Addr) (n5 : Int) (ds : Ds) (w : World) : Prop :=
 loopT (fun (J1 : (Int) -> World -> Prop) (s : Int) (w : World) => F141_2 R J1 p0 p1 s ds w) n5 w
abbrev F141_4 (R : Rt) (p0 p1 : Option Addr) (n5 : Int) (ds : Ds) (w : World) : Prop := F141_3 R p0 p1 n5 ds w
def F141_k6 (R : Rt) : EP := (fun E ds w => dPtr (E 0) fun p0 => dPtr (E 1) fun p1 => dInt .i64 (E 5) fun n5 => F141_4 R p0 p1 n5 ds w)
def F141_5 (R : Rt) (p0 p1 : Option Addr) (ds : Ds) (w : World) : Prop :=
 F141_4 R p0 p1 224 ds w
def F141_k7 (R : Rt) : EP := (fun E ds w => dPtr (E 0) fun p0 => dPtr (E 1) fun p1 => F141_5 R p0 p1 ds w)
def F141_q8 (R : Rt) : EQ := (thenQ (F141_k7 R) (F141_q1 R))
def F141_q9 (R : Rt) : EQ := (blockQ 2 (F141_q8 R))
def F141_q10 (R : Rt) (J1 : (Int) -> World -> Prop) : EQ := (thenQ (fun E _ w => dInt .i64 (E 4) fun n4 => J1 n4 w) (F141_q9 R))
def F141_6 (R : Rt) (J1 : (Int) -> World -> Prop) (p0 p1 : Option Addr) (n4 : Int) (ds : Ds) (w : World) : Prop :=
 Br (decide (n4 ≤ 175)) (
 ptrE p1 fun a8 =>
 0 ≤ (2 : Int) /\ (2 : Int) < (3 : Int) /\
 0 ≤ n4 /\ n4 < (256 : Int) /\
 st1 ((a8.add ((2 : Int).toNat * 256)).add (n4.toNat * 1)) (.int .i32 (IntKind.i32.wrap ((1040 : Int) + (IntKind.i32.wrap (IntKind.i64.wrap (n4 - 128)))))) w fun w9 =>
 J1 (IntKind.i64.wrap (n4 + 1)) w9) (
 F141_5 R p0 p1 ds w)
def F141_7 (R : Rt) (p0 p1 : Option Addr) (n4 : Int) (ds : Ds) (w : World) : Prop :=
 loopT (fun (J1 : (Int) -> World -> Prop) (s : Int) (w : World) => F141_6 R J1 p0 p1 s ds w) n4 w
abbrev F141_8 (R : Rt) (p0 p1 : Option Addr) (n4 : Int) (ds : Ds) (w : World) : Prop := F141_7 R p0 p1 n4 ds w
def F141_k11 (R : Rt) : EP := (fun E ds w => dPtr (E 0) fun p0 => dPtr (E 1) fun p1 => dInt .i64 (E 4) fun n4 => F141_8 R p0 p1 n4 ds w)
def F141_9 (R : Rt) (p0 p1 : Option Addr) (ds : Ds) (w : World) : Prop :=
 F141_8 R p0 p1 128 ds w
def F141_k12 (R : Rt) : EP := (fun E ds w => dPtr (E 0) fun p0 => dPtr (E 1) fun p1 => F141_9 R p0 p1 ds w)
def F141_q13 (R : Rt) : EQ := (thenQ (F141_k12 R) (F141_q1 R))
def F141_q14 (R : Rt) : EQ := (blockQ 0 (F141_q13 R))
def F141_q15 (R : Rt) (J1 : (Int) -> World -> Prop) : EQ := (thenQ (fun E _ w => dInt .i64 (E 6) fun n6 => J1 n6 w) (F141_q14 R))
def F141_10 (R : Rt) (J1 : (Int) -> World -> Prop) (p0 p1 : Option Addr) (n6 : Int) (ds : Ds) (w : World) : Prop :=
 Br (decide (n6 < 256)) (
 ptrE p1 fun a10 =>
 0 ≤ (1 : Int) /\ (1 : Int) < (3 : Int) /\
 0 ≤ n6 /\ n6 < (256 : Int) /\
 st1 ((a10.add ((1 : Int).toNat * 256)).add (n6.toNat * 1)) (.int .i32 (IntKind.i32.wrap n6)) w fun w11 =>
 Br (decide (n6 ≥ 128)) (
 ptrE p1 fun a12 =>
 0 ≤ (0 : Int) /\ (0 : Int) < (3 : Int) /\
 0 ≤ n6 /\ n6 < (256 : Int) /\
 st1 ((a12.add ((0 : Int).toNat * 256)).add (n6.toNat * 1)) (.int .i32 (-1)) w11 fun w13 =>
 ptrE p1 fun a14 =>
 0 ≤ (2 : Int) /\ (2 : Int) < (3 : Int) /\
 0 ≤ n6 /\ n6 < (256 : Int) /\
 st1 ((a14.add ((2 : Int).toNat * 256)).add (n6.toNat * 1)) (.int .i32 (-1)) w13 fun w15 =>
 J1 (IntKind.i64.wrap (n6 + 1)) w15) (
 ptrE p1 fun a16 =>
 0 ≤ (0 : Int) /\ (0 : Int) < (3 : Int) /\
 0 ≤ n6 /\ n6 < (256 : Int) /\
 st1 ((a16.add ((0 : Int).toNat * 256)).add (n6.toNat * 1)) (.int .i32 (IntKind.i32.wrap n6)) w11 fun w17 =>
 ptrE p1 fun a18 =>
 0 ≤ (2 : Int) /\ (2 : Int) < (3 : Int) /\
 0 ≤ n6 /\ n6 < (256 : Int) /\
 st1 ((a18.add ((2 : Int).toNat * 256)).add (n6.toNat * 1)) (.int .i32 (IntKind.i32.wrap n6)) w17 fun w19 =>
 J1 (IntKind.i64.wrap (n6 + 1)) w19)) (
 F141_9 R p0 p1 ds w)
def F141_11 (R : Rt) (p0 p1 : Option Addr) (n6 : Int) (ds : Ds) (w : World) : Prop :=
 loopT (fun (J1 : (Int) -> World -> Prop) (s : Int) (w : World) => F141_10 R J1 p0 p1 s ds w) n6 w
abbrev F141_12 (R : Rt) (p0 p1 : Option Addr) (n6 : Int) (ds : Ds) (w : World) : Prop := F141_11 R p0 p1 n6 ds w
def F141_k16 (R : Rt) : EP := (fun E ds w => dPtr (E 0) fun p0 => dPtr (E 1) fun p1 => dInt .i64 (E 6) fun n6 => F141_12 R p0 p1 n6 ds w)
def F141_13 (R : Rt) (ds : Ds) (w : World) : Prop :=
 alE (.cells (zc prog 149) 149) w fun r0 w20 =>
 alE (.cells (zc prog 149) 149) w20 fun r1 w21 =>
 F141_12 R (some (⟨r0, 0, none⟩ : Addr)) (some (⟨r1, 0, none⟩ : Addr)) 0 ds w21
theorem c141_l : flat (bodyOf f141) = [c141_0, c141_1, c141_2, c141_3, c141_4, c141_5, c141_6, c141_7, c141_8, c141_9] := by kernel_rfl
theorem c141_7_l : flat (innerC c141_7) = [c141_7_0] := by kernel_rfl
theorem c141_7_0_l : flat (innerC c141_7_0) = [c141_7_0_0, c141_7_0_1, c141_7_0_2, c141_7_0_3] := by kernel_rfl
theorem c141_5_l : flat (innerC c141_5) = [c141_5_0] := by kernel_rfl
theorem c141_5_0_l : flat (innerC c141_5_0) = [c141_5_0_0, c141_5_0_1, c141_5_0_2, c141_5_0_3] := by kernel_rfl
theorem c141_3_l : flat (innerC c141_3) = [c141_3_0] := by kernel_rfl
theorem c141_3_0_l : flat (innerC c141_3_0) = [c141_3_0_0, c141_3_0_1, c141_3_0_2, c141_3_0_3] := by kernel_rfl
theorem F141_1_ok (R : Rt) (p0 p1 : Option Addr) (ds : Ds) (w : World) (E : Env) (e0 : E 0 = .pointer p0) (e1 : E 1 = .pointer p1) (h : F141_1 R p0 p1 ds w) :
    TrL prog f141.ntmps [c141_8, c141_9] (F141_q1 R) E ds w :=
  TrL_leaf (X := F141_1 R p0 p1 ds w) (setAll_cons e0 (setAll_cons e1 setAll_nil)) (by kernel_rfl) (by kernel_rfl) h
theorem F141_2_ok (R : Rt) (J1 : (Int) -> World -> Prop) (p0 p1 : Option Addr) (n5 : Int) (ds : Ds) (w : World) (E : Env) (e0 : E 0 = .pointer p0) (e1 : E 1 = .pointer p1) (e5 : E 5 = .int .i64 n5) (h : F141_2 R J1 p0 p1 n5 ds w) :
    TrL prog f141.ntmps [c141_7_0_0, c141_7_0_1, c141_7_0_2, c141_7_0_3] (F141_q5 R J1) E ds w :=
  TrL_leaf (X := F141_2 R J1 p0 p1 n5 ds w) (setAll_cons e0 (setAll_cons e1 (setAll_cons e5 setAll_nil))) (by kernel_rfl) (by kernel_rfl) h
theorem F141_3_ok (R : Rt) (p0 p1 : Option Addr) (n5 : Int) (ds : Ds) (w : World) (E : Env) (e0 : E 0 = .pointer p0) (e1 : E 1 = .pointer p1) (e5 : E 5 = .int .i64 n5) (h : F141_3 R p0 p1 n5 ds w) :
    TrL prog f141.ntmps [c141_7_0] (F141_q4 R) E ds w :=
  TrL_one (Tr_loop' (c := innerC c141_7_0) (σ := Int) (enc := (fun (s : Int) (E : Env) => E 5 = .int .i64 s)) (D := (fun E K => dInt .i64 (E 5) fun n5 => K n5)) (F := (fun (J1 : (Int) -> World -> Prop) (s : Int) (w : World) => F141_2 R J1 p0 p1 s ds w)) (s0 := n5) (by kernel_rfl) c141_7_0_l e5 (by kernel_rfl) (fun E K hD => by obtain ⟨n5, e5, hD⟩ := dInt_elim hD; exact ⟨n5, e5, hD⟩)
      (fun J1 s E' w' he ha hF => by
      have e5' := he
      exact F141_2_ok R J1 p0 p1 s ds w' E' ((ha 0 (by kernel_rfl)).trans e0) ((ha 1 (by kernel_rfl)).trans e1) e5' hF) h)
theorem F141_4_ok (R : Rt) (p0 p1 : Option Addr) (n5 : Int) (ds : Ds) (w : World) (E : Env) (e0 : E 0 = .pointer p0) (e1 : E 1 = .pointer p1) (e5 : E 5 = .int .i64 n5) (h : F141_4 R p0 p1 n5 ds w) :
    TrL prog f141.ntmps [c141_7, c141_8, c141_9] (F141_q1 R) E ds w :=
  TrL_head (K := (F141_k2 R)) (Tr_block' (c := innerC c141_7) (by kernel_rfl) c141_7_l (F141_3_ok R p0 p1 n5 ds w E e0 e1 e5 h))
    (fun E' ds' w' hD => by
      obtain ⟨p0, e0, hD⟩ := dPtr_elim hD; obtain ⟨p1, e1, hD⟩ := dPtr_elim hD; exact F141_1_ok R p0 p1 ds' w' E' e0 e1 hD)
theorem F141_5_ok (R : Rt) (p0 p1 : Option Addr) (ds : Ds) (w : World) (E : Env) (e0 : E 0 = .pointer p0) (e1 : E 1 = .pointer p1) (h : F141_5 R p0 p1 ds w) :
    TrL prog f141.ntmps [c141_6, c141_7, c141_8, c141_9] (F141_q1 R) E ds w :=
  TrL_piece (pre := [c141_6]) (K := (F141_k6 R)) (X := F141_5 R p0 p1 ds w) (setAll_cons e0 (setAll_cons e1 setAll_nil)) (by kernel_rfl) (by kernel_rfl)
    (fun E' ds' w' hD => by
      obtain ⟨p0, e0, hD⟩ := dPtr_elim hD; obtain ⟨p1, e1, hD⟩ := dPtr_elim hD; obtain ⟨n5, e5, hD⟩ := dInt_elim hD; exact F141_4_ok R p0 p1 n5 ds' w' E' e0 e1 e5 hD) h
theorem F141_6_ok (R : Rt) (J1 : (Int) -> World -> Prop) (p0 p1 : Option Addr) (n4 : Int) (ds : Ds) (w : World) (E : Env) (e0 : E 0 = .pointer p0) (e1 : E 1 = .pointer p1) (e4 : E 4 = .int .i64 n4) (h : F141_6 R J1 p0 p1 n4 ds w) :
    TrL prog f141.ntmps [c141_5_0_0, c141_5_0_1, c141_5_0_2, c141_5_0_3] (F141_q10 R J1) E ds w :=
  TrL_leaf (X := F141_6 R J1 p0 p1 n4 ds w) (setAll_cons e0 (setAll_cons e1 (setAll_cons e4 setAll_nil))) (by kernel_rfl) (by kernel_rfl) h
theorem F141_7_ok (R : Rt) (p0 p1 : Option Addr) (n4 : Int) (ds : Ds) (w : World) (E : Env) (e0 : E 0 = .pointer p0) (e1 : E 1 = .pointer p1) (e4 : E 4 = .int .i64 n4) (h : F141_7 R p0 p1 n4 ds w) :
    TrL prog f141.ntmps [c141_5_0] (F141_q9 R) E ds w :=
  TrL_one (Tr_loop' (c := innerC c141_5_0) (σ := Int) (enc := (fun (s : Int) (E : Env) => E 4 = .int .i64 s)) (D := (fun E K => dInt .i64 (E 4) fun n4 => K n4)) (F := (fun (J1 : (Int) -> World -> Prop) (s : Int) (w : World) => F141_6 R J1 p0 p1 s ds w)) (s0 := n4) (by kernel_rfl) c141_5_0_l e4 (by kernel_rfl) (fun E K hD => by obtain ⟨n4, e4, hD⟩ := dInt_elim hD; exact ⟨n4, e4, hD⟩)
      (fun J1 s E' w' he ha hF => by
      have e4' := he
      exact F141_6_ok R J1 p0 p1 s ds w' E' ((ha 0 (by kernel_rfl)).trans e0) ((ha 1 (by kernel_rfl)).trans e1) e4' hF) h)
theorem F141_8_ok (R : Rt) (p0 p1 : Option Addr) (n4 : Int) (ds : Ds) (w : World) (E : Env) (e0 : E 0 = .pointer p0) (e1 : E 1 = .pointer p1) (e4 : E 4 = .int .i64 n4) (h : F141_8 R p0 p1 n4 ds w) :
    TrL prog f141.ntmps [c141_5, c141_6, c141_7, c141_8, c141_9] (F141_q1 R) E ds w :=
  TrL_head (K := (F141_k7 R)) (Tr_block' (c := innerC c141_5) (by kernel_rfl) c141_5_l (F141_7_ok R p0 p1 n4 ds w E e0 e1 e4 h))
    (fun E' ds' w' hD => by
      obtain ⟨p0, e0, hD⟩ := dPtr_elim hD; obtain ⟨p1, e1, hD⟩ := dPtr_elim hD; exact F141_5_ok R p0 p1 ds' w' E' e0 e1 hD)
theorem F141_9_ok (R : Rt) (p0 p1 : Option Addr) (ds : Ds) (w : World) (E : Env) (e0 : E 0 = .pointer p0) (e1 : E 1 = .pointer p1) (h : F141_9 R p0 p1 ds w) :
    TrL prog f141.ntmps [c141_4, c141_5, c141_6, c141_7, c141_8, c141_9] (F141_q1 R) E ds w :=
  TrL_piece (pre := [c141_4]) (K := (F141_k11 R)) (X := F141_9 R p0 p1 ds w) (setAll_cons e0 (setAll_cons e1 setAll_nil)) (by kernel_rfl) (by kernel_rfl)
    (fun E' ds' w' hD => by
      obtain ⟨p0, e0, hD⟩ := dPtr_elim hD; obtain ⟨p1, e1, hD⟩ := dPtr_elim hD; obtain ⟨n4, e4, hD⟩ := dInt_elim hD; exact F141_8_ok R p0 p1 n4 ds' w' E' e0 e1 e4 hD) h
theorem F141_10_ok (R : Rt) (J1 : (Int) -> World -> Prop) (p0 p1 : Option Addr) (n6 : Int) (ds : Ds) (w : World) (E : Env) (e0 : E 0 = .pointer p0) (e1 : E 1 = .pointer p1) (e6 : E 6 = .int .i64 n6) (h : F141_10 R J1 p0 p1 n6 ds w) :
    TrL prog f141.ntmps [c141_3_0_0, c141_3_0_1, c141_3_0_2, c141_3_0_3] (F141_q15 R J1) E ds w :=
  TrL_leaf (X := F141_10 R J1 p0 p1 n6 ds w) (setAll_cons e0 (setAll_cons e1 (setAll_cons e6 setAll_nil))) (by kernel_rfl) (by kernel_rfl) h
theorem F141_11_ok (R : Rt) (p0 p1 : Option Addr) (n6 : Int) (ds : Ds) (w : World) (E : Env) (e0 : E 0 = .pointer p0) (e1 : E 1 = .pointer p1) (e6 : E 6 = .int .i64 n6) (h : F141_11 R p0 p1 n6 ds w) :
    TrL prog f141.ntmps [c141_3_0] (F141_q14 R) E ds w :=
  TrL_one (Tr_loop' (c := innerC c141_3_0) (σ := Int) (enc := (fun (s : Int) (E : Env) => E 6 = .int .i64 s)) (D := (fun E K => dInt .i64 (E 6) fun n6 => K n6)) (F := (fun (J1 : (Int) -> World -> Prop) (s : Int) (w : World) => F141_10 R J1 p0 p1 s ds w)) (s0 := n6) (by kernel_rfl) c141_3_0_l e6 (by kernel_rfl) (fun E K hD => by obtain ⟨n6, e6, hD⟩ := dInt_elim hD; exact ⟨n6, e6, hD⟩)
      (fun J1 s E' w' he ha hF => by
      have e6' := he
      exact F141_10_ok R J1 p0 p1 s ds w' E' ((ha 0 (by kernel_rfl)).trans e0) ((ha 1 (by kernel_rfl)).trans e1) e6' hF) h)
theorem F141_12_ok (R : Rt) (p0 p1 : Option Addr) (n6 : Int) (ds : Ds) (w : World) (E : Env) (e0 : E 0 = .pointer p0) (e1 : E 1 = .pointer p1) (e6 : E 6 = .int .i64 n6) (h : F141_12 R p0 p1 n6 ds w) :
    TrL prog f141.ntmps [c141_3, c141_4, c141_5, c141_6, c141_7, c141_8, c141_9] (F141_q1 R) E ds w :=
  TrL_head (K := (F141_k12 R)) (Tr_block' (c := innerC c141_3) (by kernel_rfl) c141_3_l (F141_11_ok R p0 p1 n6 ds w E e0 e1 e6 h))
    (fun E' ds' w' hD => by
      obtain ⟨p0, e0, hD⟩ := dPtr_elim hD; obtain ⟨p1, e1, hD⟩ := dPtr_elim hD; exact F141_9_ok R p0 p1 ds' w' E' e0 e1 hD)
theorem F141_13_ok (R : Rt) (ds : Ds) (w : World) (E : Env) (h : F141_13 R ds w) :
    TrL prog f141.ntmps [c141_0, c141_1, c141_2, c141_3, c141_4, c141_5, c141_6, c141_7, c141_8, c141_9] (F141_q1 R) E ds w :=
  TrL_piece (pre := [c141_0, c141_1, c141_2]) (K := (F141_k16 R)) (X := F141_13 R ds w) setAll_nil (by kernel_rfl) (by kernel_rfl)
    (fun E' ds' w' hD => by
      obtain ⟨p0, e0, hD⟩ := dPtr_elim hD; obtain ⟨p1, e1, hD⟩ := dPtr_elim hD; obtain ⟨n6, e6, hD⟩ := dInt_elim hD; exact F141_12_ok R p0 p1 n6 ds' w' E' e0 e1 e6 hD) h
theorem F141_calls  (w : World) (R : Rt) (h : F141_13 R [] w) : Calls prog 141 #[] w R :=
  calls_of_L (l := [c141_0, c141_1, c141_2, c141_3, c141_4, c141_5, c141_6, c141_7, c141_8, c141_9]) func141 (by kernel_rfl) (by rw [ntmps141]; exact Nat.le_of_ble_eq_true (by kernel_rfl)) c141_l
    (F141_13_ok R [] w _  h)
noncomputable def c104_0 := cI3 f104 0
noncomputable def c104_1 := cI3 f104 1
noncomputable def c104_2 := cI3 f104 2
noncomputable def c104_3 := cI3 f104 3
noncomputable def c104_4 := cI3 f104 4
noncomputable def c104_2_0 := cJ3 c104_2 0
noncomputable def c104_2_0_0 := cJ3 c104_2_0 0
noncomputable def c104_2_0_1 := cJ3 c104_2_0 1
noncomputable def c104_2_0_2 := cJ3 c104_2_0 2
noncomputable def c104_2_0_3 := cJ3 c104_2_0 3
def F104_q1 (R : Rt) : EQ := endQ prog f104.results.toList R
def F104_1 (R : Rt) (ds : Ds) (w : World) : Prop :=
 runD prog ds w fun w1 =>
 R (.returned (.bool true)) w1
def F104_k2 (R : Rt) : EP := (fun E ds w => F104_1 R ds w)
def F104_q3 (R : Rt) : EQ := (thenQ (F104_k2 R) (F104_q1 R))
def F104_q4 (R : Rt) : EQ := (blockQ 0 (F104_q3 R))
def F104_q5 (R : Rt) (J1 : (Int) -> World -> Prop) : EQ := (thenQ (fun E _ w => dInt .i64 (E 5) fun n5 => J1 n5 w) (F104_q4 R))
def F104_2 (R : Rt) (J1 : (Int) -> World -> Prop) (s0 : ByteArray) (n1 n5 : Int) (ds : Ds) (w : World) : Prop :=
 Br (decide (n5 < (s0.size : Int))) (
 ∃ b14 : UInt8, 0 ≤ n5 /\ s0[n5.toNat]? = some b14 /\
 Calls prog 146 #[.int .u8 (b14.toNat : Int), .int .i64 n1] w fun e w2 =>
 ∃ b16 : Bool, e = .returned (.bool b16) /\
 Br (!b16) (
 runD prog ds w2 fun w3 =>
 R (.returned (.bool false)) w3) (
 J1 (IntKind.i64.wrap (n5 + 1)) w2)) (
 F104_1 R ds w)
def F104_3 (R : Rt) (s0 : ByteArray) (n1 n5 : Int) (ds : Ds) (w : World) : Prop :=
 loopT (fun (J1 : (Int) -> World -> Prop) (s : Int) (w : World) => F104_2 R J1 s0 n1 s ds w) n5 w
abbrev F104_4 (R : Rt) (s0 : ByteArray) (n1 n5 : Int) (ds : Ds) (w : World) : Prop := F104_3 R s0 n1 n5 ds w
def F104_k6 (R : Rt) : EP := (fun E ds w => dStr (E 0) fun s0 => dInt .i64 (E 1) fun n1 => dInt .i64 (E 5) fun n5 => F104_4 R s0 n1 n5 ds w)
def F104_5 (R : Rt) (s0 : ByteArray) (n1 : Int) (ds : Ds) (w : World) : Prop :=
 F104_4 R s0 n1 0 ds w
theorem c104_l : flat (bodyOf f104) = [c104_0, c104_1, c104_2, c104_3, c104_4] := by kernel_rfl
theorem c104_2_l : flat (innerC c104_2) = [c104_2_0] := by kernel_rfl
theorem c104_2_0_l : flat (innerC c104_2_0) = [c104_2_0_0, c104_2_0_1, c104_2_0_2, c104_2_0_3] := by kernel_rfl
theorem F104_1_ok (R : Rt) (ds : Ds) (w : World) (E : Env) (h : F104_1 R ds w) :
    TrL prog f104.ntmps [c104_3, c104_4] (F104_q1 R) E ds w :=
  TrL_leaf (X := F104_1 R ds w) setAll_nil (by kernel_rfl) (by kernel_rfl) h
theorem F104_2_ok (R : Rt) (J1 : (Int) -> World -> Prop) (s0 : ByteArray) (n1 n5 : Int) (ds : Ds) (w : World) (E : Env) (e0 : E 0 = .string s0) (e1 : E 1 = .int .i64 n1) (e5 : E 5 = .int .i64 n5) (h : F104_2 R J1 s0 n1 n5 ds w) :
    TrL prog f104.ntmps [c104_2_0_0, c104_2_0_1, c104_2_0_2, c104_2_0_3] (F104_q5 R J1) E ds w :=
  TrL_leaf (X := F104_2 R J1 s0 n1 n5 ds w) (setAll_cons e0 (setAll_cons e1 (setAll_cons e5 setAll_nil))) (by kernel_rfl) (by kernel_rfl) h
theorem F104_3_ok (R : Rt) (s0 : ByteArray) (n1 n5 : Int) (ds : Ds) (w : World) (E : Env) (e0 : E 0 = .string s0) (e1 : E 1 = .int .i64 n1) (e5 : E 5 = .int .i64 n5) (h : F104_3 R s0 n1 n5 ds w) :
    TrL prog f104.ntmps [c104_2_0] (F104_q4 R) E ds w :=
  TrL_one (Tr_loop' (c := innerC c104_2_0) (σ := Int) (enc := (fun (s : Int) (E : Env) => E 5 = .int .i64 s)) (D := (fun E K => dInt .i64 (E 5) fun n5 => K n5)) (F := (fun (J1 : (Int) -> World -> Prop) (s : Int) (w : World) => F104_2 R J1 s0 n1 s ds w)) (s0 := n5) (by kernel_rfl) c104_2_0_l e5 (by kernel_rfl) (fun E K hD => by obtain ⟨n5, e5, hD⟩ := dInt_elim hD; exact ⟨n5, e5, hD⟩)
      (fun J1 s E' w' he ha hF => by
      have e5' := he
      exact F104_2_ok R J1 s0 n1 s ds w' E' ((ha 0 (by kernel_rfl)).trans e0) ((ha 1 (by kernel_rfl)).trans e1) e5' hF) h)
theorem F104_4_ok (R : Rt) (s0 : ByteArray) (n1 n5 : Int) (ds : Ds) (w : World) (E : Env) (e0 : E 0 = .string s0) (e1 : E 1 = .int .i64 n1) (e5 : E 5 = .int .i64 n5) (h : F104_4 R s0 n1 n5 ds w) :
    TrL prog f104.ntmps [c104_2, c104_3, c104_4] (F104_q1 R) E ds w :=
  TrL_head (K := (F104_k2 R)) (Tr_block' (c := innerC c104_2) (by kernel_rfl) c104_2_l (F104_3_ok R s0 n1 n5 ds w E e0 e1 e5 h))
    (fun E' ds' w' hD => by
      exact F104_1_ok R ds' w' E'  hD)
theorem F104_5_ok (R : Rt) (s0 : ByteArray) (n1 : Int) (ds : Ds) (w : World) (E : Env) (e0 : E 0 = .string s0) (e1 : E 1 = .int .i64 n1) (h : F104_5 R s0 n1 ds w) :
    TrL prog f104.ntmps [c104_0, c104_1, c104_2, c104_3, c104_4] (F104_q1 R) E ds w :=
  TrL_piece (pre := [c104_0, c104_1]) (K := (F104_k6 R)) (X := F104_5 R s0 n1 ds w) (setAll_cons e0 (setAll_cons e1 setAll_nil)) (by kernel_rfl) (by kernel_rfl)
    (fun E' ds' w' hD => by
      obtain ⟨s0, e0, hD⟩ := dStr_elim hD; obtain ⟨n1, e1, hD⟩ := dInt_elim hD; obtain ⟨n5, e5, hD⟩ := dInt_elim hD; exact F104_4_ok R s0 n1 n5 ds' w' E' e0 e1 e5 hD) h
theorem F104_calls (s0 : ByteArray) (n1 : Int) (w : World) (R : Rt) (h : F104_5 R s0 n1 [] w) : Calls prog 104 #[.string s0, .int .i64 n1] w R :=
  calls_of_L (l := [c104_0, c104_1, c104_2, c104_3, c104_4]) func104 (by kernel_rfl) (by rw [ntmps104]; exact Nat.le_of_ble_eq_true (by kernel_rfl)) c104_l
    (F104_5_ok R s0 n1 [] w _ rfl rfl h)
noncomputable def c146_0 := cI3 f146 0
noncomputable def c146_1 := cI3 f146 1
noncomputable def c146_2 := cI3 f146 2
noncomputable def c146_3 := cI3 f146 3
noncomputable def c146_4 := cI3 f146 4
def F146_q1 (R : Rt) : EQ := endQ prog f146.results.toList R
def F146_1 (R : Rt) (n0 n1 : Int) (ds : Ds) (w : World) : Prop :=
 Br (n1 == 0) (
 runD prog ds w fun w1 =>
 R (.returned (.bool (decide (n0 < 128)))) w1) (
 Br (n1 == 1) (
 runD prog ds w fun w2 =>
 R (.returned (.bool true)) w2) (
 Br (decide (n0 < 176)) (
 runD prog ds w fun w3 =>
 R (.returned (.bool true)) w3) (
 Br (decide (n0 ≥ 224)) (
 runD prog ds w fun w4 =>
 R (.returned (.bool (decide (n0 < 240)))) w4) (
 runD prog ds w fun w5 =>
 R (.returned (.bool false)) w5))))
theorem c146_l : flat (bodyOf f146) = [c146_0, c146_1, c146_2, c146_3, c146_4] := by kernel_rfl
theorem F146_1_ok (R : Rt) (n0 n1 : Int) (ds : Ds) (w : World) (E : Env) (e0 : E 0 = .int .u8 n0) (e1 : E 1 = .int .i64 n1) (h : F146_1 R n0 n1 ds w) :
    TrL prog f146.ntmps [c146_0, c146_1, c146_2, c146_3, c146_4] (F146_q1 R) E ds w :=
  TrL_leaf (X := F146_1 R n0 n1 ds w) (setAll_cons e0 (setAll_cons e1 setAll_nil)) (by kernel_rfl) (by kernel_rfl) h
theorem F146_calls (n0 n1 : Int) (w : World) (R : Rt) (h : F146_1 R n0 n1 [] w) : Calls prog 146 #[.int .u8 n0, .int .i64 n1] w R :=
  calls_of_L (l := [c146_0, c146_1, c146_2, c146_3, c146_4]) func146 (by kernel_rfl) (by rw [ntmps146]; exact Nat.le_of_ble_eq_true (by kernel_rfl)) c146_l
    (F146_1_ok R n0 n1 [] w _ rfl rfl h)
end Go.Proofs.YtecmfdfhpldmmaaGreatDoor

/- Shallow texts of functions, printed by program, each checked by the kernel against the loaded code. No condition. -/
set_option maxRecDepth 100000
set_option linter.unusedVariables false
namespace Go.Proofs.YtecmfdfhpldmmaaGreatDoor
open Go.Sh
open Tryz
@[reducible] noncomputable def cI4 (f : Func) (i : Nat) : Code := itemAt (flat (bodyOf f)) i
noncomputable def c13_0 := cI4 f13 0
noncomputable def c13_1 := cI4 f13 1
noncomputable def c13_2 := cI4 f13 2
noncomputable def c13_3 := cI4 f13 3
noncomputable def c13_4 := cI4 f13 4
noncomputable def c13_5 := cI4 f13 5
noncomputable def c13_6 := cI4 f13 6
noncomputable def c13_7 := cI4 f13 7
noncomputable def c13_8 := cI4 f13 8
noncomputable def c13_9 := cI4 f13 9
noncomputable def c13_10 := cI4 f13 10
noncomputable def c13_11 := cI4 f13 11
noncomputable def c13_12 := cI4 f13 12
noncomputable def c13_13 := cI4 f13 13
def F13_q1 (R : Rt) : EQ := endQ prog f13.results.toList R
def F13_1 (R : Rt) (n1 : Int) (p3 p5 p6 : Option Addr) (n42 : Int) (ds : Ds) (w : World) : Prop :=
 Br (n42 == 4) (
 ptrE p5 fun a1 =>
 ∃ s46 : ByteArray, w.cell? (a1.add 2) = some (.string s46) /\
 ptrE p5 fun a2 =>
 ∃ s48 : ByteArray, w.cell? (a2.add 2) = some (.string s48) /\
 ptrE p3 fun a3 =>
 ∃ n51 : Int, w.cell? (a3.add 2) = some (.int .i64 n51) /\
 ∃ n52 : Int, ∃ w4 : World, (Builtin.min_ #[3, 3] 3 #[.int .i64 (s48.size : Int), .int .i64 n51]).run prog w = .ok (.int .i64 n52) w4 /\
 0 ≤ n52 /\ n52.toNat ≤ s46.size /\ 0 ≤ n52.toNat /\
 Calls prog 51 #[.string (s46.extract 0 n52.toNat), .string (⟨#[32]⟩ : ByteArray)] w4 fun e w5 =>
 ∃ s54 : ByteArray, e = .returned (.string s54) /\
 ptrE p5 fun a6 =>
 st1 (a6.add 2) (.string s54) w5 fun w7 =>
 ptrE p5 fun a8 =>
 ∃ s57 : ByteArray, w7.cell? (a8.add 2) = some (.string s57) /\
 Calls prog 52 #[.string s57, .int .i64 n1] w7 fun e w9 =>
 ∃ b59 : Bool, e = .returned (.bool b59) /\
 Br (!b59) (
 ptrE p6 fun a10 =>
 stA prog 25 a10 #[.int .i64 0, .int .i64 0, .string (⟨#[]⟩ : ByteArray)] w9 fun w11 =>
 runD prog ds w11 fun w12 =>
 ptrE p6 fun a13 =>
 ∃ nR0_0 : Int, w12.cell? (a13.add 0) = some (.int .i64 nR0_0) /\
 ∃ nR0_1 : Int, w12.cell? (a13.add 1) = some (.int .i64 nR0_1) /\
 ∃ sR0_2 : ByteArray, w12.cell? (a13.add 2) = some (.string sR0_2) /\
 R (.returned (.tuple #[.agg #[.int .i64 nR0_0, .int .i64 nR0_1, .string sR0_2], .int .i64 10])) w12) (
 ptrE p5 fun a14 =>
 ∃ n90_0 : Int, w9.cell? (a14.add 0) = some (.int .i64 n90_0) /\
 ∃ n90_1 : Int, w9.cell? (a14.add 1) = some (.int .i64 n90_1) /\
 ∃ s90_2 : ByteArray, w9.cell? (a14.add 2) = some (.string s90_2) /\
 ptrE p6 fun a15 =>
 stA prog 25 a15 #[.int .i64 n90_0, .int .i64 n90_1, .string s90_2] w9 fun w16 =>
 runD prog ds w16 fun w17 =>
 ptrE p6 fun a18 =>
 ∃ nR0_0 : Int, w17.cell? (a18.add 0) = some (.int .i64 nR0_0) /\
 ∃ nR0_1 : Int, w17.cell? (a18.add 1) = some (.int .i64 nR0_1) /\
 ∃ sR0_2 : ByteArray, w17.cell? (a18.add 2) = some (.string sR0_2) /\
 R (.returned (.tuple #[.agg #[.int .i64 nR0_0, .int .i64 nR0_1, .string sR0_2], .int .i64 0])) w17)) (
 Br (n42 == 2) (
 ptrE p5 fun a19 =>
 ∃ n66 : Int, w.cell? (a19.add 1) = some (.int .i64 n66) /\
 ptrE p3 fun a20 =>
 ∃ n68 : Int, w.cell? (a20.add 2) = some (.int .i64 n68) /\
 Calls prog 53 #[.int .i64 n66, .int .i64 n68] w fun e w21 =>
 ∃ s69_0 : ByteArray, ∃ n69_1 : Int, e = .returned (.tuple #[.string s69_0, .int .i64 n69_1]) /\
 Br (n69_1 != 0) (
 ptrE p6 fun a22 =>
 stA prog 25 a22 #[.int .i64 0, .int .i64 0, .string (⟨#[]⟩ : ByteArray)] w21 fun w23 =>
 runD prog ds w23 fun w24 =>
 ptrE p6 fun a25 =>
 ∃ nR0_0 : Int, w24.cell? (a25.add 0) = some (.int .i64 nR0_0) /\
 ∃ nR0_1 : Int, w24.cell? (a25.add 1) = some (.int .i64 nR0_1) /\
 ∃ sR0_2 : ByteArray, w24.cell? (a25.add 2) = some (.string sR0_2) /\
 R (.returned (.tuple #[.agg #[.int .i64 nR0_0, .int .i64 nR0_1, .string sR0_2], .int .i64 10])) w24) (
 Calls prog 54 #[.string s69_0, .string (⟨#[42]⟩ : ByteArray)] w21 fun e w26 =>
 ∃ b76 : Bool, e = .returned (.bool b76) /\
 Br b76 (
 ptrE p6 fun a27 =>
 stA prog 25 a27 #[.int .i64 0, .int .i64 0, .string (⟨#[]⟩ : ByteArray)] w26 fun w28 =>
 runD prog ds w28 fun w29 =>
 ptrE p6 fun a30 =>
 ∃ nR0_0 : Int, w29.cell? (a30.add 0) = some (.int .i64 nR0_0) /\
 ∃ nR0_1 : Int, w29.cell? (a30.add 1) = some (.int .i64 nR0_1) /\
 ∃ sR0_2 : ByteArray, w29.cell? (a30.add 2) = some (.string sR0_2) /\
 R (.returned (.tuple #[.agg #[.int .i64 nR0_0, .int .i64 nR0_1, .string sR0_2], .int .i64 10])) w29) (
 ptrE p5 fun a31 =>
 ∃ n90_0 : Int, w26.cell? (a31.add 0) = some (.int .i64 n90_0) /\
 ∃ n90_1 : Int, w26.cell? (a31.add 1) = some (.int .i64 n90_1) /\
 ∃ s90_2 : ByteArray, w26.cell? (a31.add 2) = some (.string s90_2) /\
 ptrE p6 fun a32 =>
 stA prog 25 a32 #[.int .i64 n90_0, .int .i64 n90_1, .string s90_2] w26 fun w33 =>
 runD prog ds w33 fun w34 =>
 ptrE p6 fun a35 =>
 ∃ nR0_0 : Int, w34.cell? (a35.add 0) = some (.int .i64 nR0_0) /\
 ∃ nR0_1 : Int, w34.cell? (a35.add 1) = some (.int .i64 nR0_1) /\
 ∃ sR0_2 : ByteArray, w34.cell? (a35.add 2) = some (.string sR0_2) /\
 R (.returned (.tuple #[.agg #[.int .i64 nR0_0, .int .i64 nR0_1, .string sR0_2], .int .i64 0])) w34))) (
 Br (n42 == 5) (
 ptrE p5 fun a36 =>
 ∃ n82 : Int, w.cell? (a36.add 1) = some (.int .i64 n82) /\
 Br (decide (n82 < 0)) (
 ptrE p6 fun a37 =>
 stA prog 25 a37 #[.int .i64 0, .int .i64 0, .string (⟨#[]⟩ : ByteArray)] w fun w38 =>
 runD prog ds w38 fun w39 =>
 ptrE p6 fun a40 =>
 ∃ nR0_0 : Int, w39.cell? (a40.add 0) = some (.int .i64 nR0_0) /\
 ∃ nR0_1 : Int, w39.cell? (a40.add 1) = some (.int .i64 nR0_1) /\
 ∃ sR0_2 : ByteArray, w39.cell? (a40.add 2) = some (.string sR0_2) /\
 R (.returned (.tuple #[.agg #[.int .i64 nR0_0, .int .i64 nR0_1, .string sR0_2], .int .i64 10])) w39) (
 ptrE p5 fun a41 =>
 ∃ n86 : Int, w.cell? (a41.add 1) = some (.int .i64 n86) /\
 Br (decide (n86 > 99999999)) (
 ptrE p6 fun a42 =>
 stA prog 25 a42 #[.int .i64 0, .int .i64 0, .string (⟨#[]⟩ : ByteArray)] w fun w43 =>
 runD prog ds w43 fun w44 =>
 ptrE p6 fun a45 =>
 ∃ nR0_0 : Int, w44.cell? (a45.add 0) = some (.int .i64 nR0_0) /\
 ∃ nR0_1 : Int, w44.cell? (a45.add 1) = some (.int .i64 nR0_1) /\
 ∃ sR0_2 : ByteArray, w44.cell? (a45.add 2) = some (.string sR0_2) /\
 R (.returned (.tuple #[.agg #[.int .i64 nR0_0, .int .i64 nR0_1, .string sR0_2], .int .i64 10])) w44) (
 ptrE p5 fun a46 =>
 ∃ n90_0 : Int, w.cell? (a46.add 0) = some (.int .i64 n90_0) /\
 ∃ n90_1 : Int, w.cell? (a46.add 1) = some (.int .i64 n90_1) /\
 ∃ s90_2 : ByteArray, w.cell? (a46.add 2) = some (.string s90_2) /\
 ptrE p6 fun a47 =>
 stA prog 25 a47 #[.int .i64 n90_0, .int .i64 n90_1, .string s90_2] w fun w48 =>
 runD prog ds w48 fun w49 =>
 ptrE p6 fun a50 =>
 ∃ nR0_0 : Int, w49.cell? (a50.add 0) = some (.int .i64 nR0_0) /\
 ∃ nR0_1 : Int, w49.cell? (a50.add 1) = some (.int .i64 nR0_1) /\
 ∃ sR0_2 : ByteArray, w49.cell? (a50.add 2) = some (.string sR0_2) /\
 R (.returned (.tuple #[.agg #[.int .i64 nR0_0, .int .i64 nR0_1, .string sR0_2], .int .i64 0])) w49))) (
 ptrE p5 fun a51 =>
 ∃ n90_0 : Int, w.cell? (a51.add 0) = some (.int .i64 n90_0) /\
 ∃ n90_1 : Int, w.cell? (a51.add 1) = some (.int .i64 n90_1) /\
 ∃ s90_2 : ByteArray, w.cell? (a51.add 2) = some (.string s90_2) /\
 ptrE p6 fun a52 =>
 stA prog 25 a52 #[.int .i64 n90_0, .int .i64 n90_1, .string s90_2] w fun w53 =>
 runD prog ds w53 fun w54 =>
 ptrE p6 fun a55 =>
 ∃ nR0_0 : Int, w54.cell? (a55.add 0) = some (.int .i64 nR0_0) /\
 ∃ nR0_1 : Int, w54.cell? (a55.add 1) = some (.int .i64 nR0_1) /\
 ∃ sR0_2 : ByteArray, w54.cell? (a55.add 2) = some (.string sR0_2) /\
 R (.returned (.tuple #[.agg #[.int .i64 nR0_0, .int .i64 nR0_1, .string sR0_2], .int .i64 0])) w54)))
def F13_k2 (R : Rt) : EP := (fun E ds w => dInt .i64 (E 1) fun n1 => dPtr (E 3) fun p3 => dPtr (E 5) fun p5 => dPtr (E 6) fun p6 => dInt .i64 (E 42) fun n42 => F13_1 R n1 p3 p5 p6 n42 ds w)
def F13_2 (R : Rt) (s0_0 : ByteArray) (n0_1 n0_2 : Int) (b0_3 : Bool) (n1 n2_0 n2_1 : Int) (s2_2 : ByteArray) (ds : Ds) (w : World) : Prop :=
 alE (.cells #[.string s0_0, .int .i64 n0_1, .int .i64 n0_2, .bool b0_3] 23) w fun r3 w56 =>
 alE (.cells #[.int .i64 n2_0, .int .i64 n2_1, .string s2_2] 25) w56 fun r5 w57 =>
 alE (.cells #[.int .i64 0, .int .i64 0, .string (⟨#[]⟩ : ByteArray)] 25) w57 fun r6 w58 =>
 ∃ s11_0 : ByteArray, w58.cell? ((⟨r3, 0, none⟩ : Addr).add 0) = some (.string s11_0) /\
 ∃ n11_1 : Int, w58.cell? ((⟨r3, 0, none⟩ : Addr).add 1) = some (.int .i64 n11_1) /\
 ∃ n11_2 : Int, w58.cell? ((⟨r3, 0, none⟩ : Addr).add 2) = some (.int .i64 n11_2) /\
 ∃ b11_3 : Bool, w58.cell? ((⟨r3, 0, none⟩ : Addr).add 3) = some (.bool b11_3) /\
 Calls prog 47 #[.agg #[.string s11_0, .int .i64 n11_1, .int .i64 n11_2, .bool b11_3]] w58 fun e w59 =>
 ∃ b12 : Bool, e = .returned (.bool b12) /\
 Br (!b12) (
 stA prog 25 (⟨r6, 0, none⟩ : Addr) #[.int .i64 0, .int .i64 0, .string (⟨#[]⟩ : ByteArray)] w59 fun w60 =>
 runD prog ds w60 fun w61 =>
 ∃ nR0_0 : Int, w61.cell? ((⟨r6, 0, none⟩ : Addr).add 0) = some (.int .i64 nR0_0) /\
 ∃ nR0_1 : Int, w61.cell? ((⟨r6, 0, none⟩ : Addr).add 1) = some (.int .i64 nR0_1) /\
 ∃ sR0_2 : ByteArray, w61.cell? ((⟨r6, 0, none⟩ : Addr).add 2) = some (.string sR0_2) /\
 R (.returned (.tuple #[.agg #[.int .i64 nR0_0, .int .i64 nR0_1, .string sR0_2], .int .i64 1])) w61) (
 Calls prog 48 #[.int .i64 n1] w59 fun e w62 =>
 ∃ b16 : Bool, e = .returned (.bool b16) /\
 Br (!b16) (
 stA prog 25 (⟨r6, 0, none⟩ : Addr) #[.int .i64 0, .int .i64 0, .string (⟨#[]⟩ : ByteArray)] w62 fun w63 =>
 runD prog ds w63 fun w64 =>
 ∃ nR0_0 : Int, w64.cell? ((⟨r6, 0, none⟩ : Addr).add 0) = some (.int .i64 nR0_0) /\
 ∃ nR0_1 : Int, w64.cell? ((⟨r6, 0, none⟩ : Addr).add 1) = some (.int .i64 nR0_1) /\
 ∃ sR0_2 : ByteArray, w64.cell? ((⟨r6, 0, none⟩ : Addr).add 2) = some (.string sR0_2) /\
 R (.returned (.tuple #[.agg #[.int .i64 nR0_0, .int .i64 nR0_1, .string sR0_2], .int .i64 1])) w64) (
 ∃ n20_0 : Int, w62.cell? ((⟨r5, 0, none⟩ : Addr).add 0) = some (.int .i64 n20_0) /\
 ∃ n20_1 : Int, w62.cell? ((⟨r5, 0, none⟩ : Addr).add 1) = some (.int .i64 n20_1) /\
 ∃ s20_2 : ByteArray, w62.cell? ((⟨r5, 0, none⟩ : Addr).add 2) = some (.string s20_2) /\
 Calls prog 49 #[.agg #[.int .i64 n20_0, .int .i64 n20_1, .string s20_2]] w62 fun e w65 =>
 ∃ n21 : Int, e = .returned (.int .i64 n21) /\
 Br (n21 != 0) (
 stA prog 25 (⟨r6, 0, none⟩ : Addr) #[.int .i64 0, .int .i64 0, .string (⟨#[]⟩ : ByteArray)] w65 fun w66 =>
 runD prog ds w66 fun w67 =>
 ∃ nR0_0 : Int, w67.cell? ((⟨r6, 0, none⟩ : Addr).add 0) = some (.int .i64 nR0_0) /\
 ∃ nR0_1 : Int, w67.cell? ((⟨r6, 0, none⟩ : Addr).add 1) = some (.int .i64 nR0_1) /\
 ∃ sR0_2 : ByteArray, w67.cell? ((⟨r6, 0, none⟩ : Addr).add 2) = some (.string sR0_2) /\
 R (.returned (.tuple #[.agg #[.int .i64 nR0_0, .int .i64 nR0_1, .string sR0_2], .int .i64 n21])) w67) (
 ∃ n27 : Int, w65.cell? (⟨r5, 0, none⟩ : Addr) = some (.int .i64 n27) /\
 Br (n27 == 0) (
 ∃ b30 : Bool, w65.cell? ((⟨r3, 0, none⟩ : Addr).add 3) = some (.bool b30) /\
 Br (!b30) (
 stA prog 25 (⟨r6, 0, none⟩ : Addr) #[.int .i64 0, .int .i64 0, .string (⟨#[]⟩ : ByteArray)] w65 fun w68 =>
 runD prog ds w68 fun w69 =>
 ∃ nR0_0 : Int, w69.cell? ((⟨r6, 0, none⟩ : Addr).add 0) = some (.int .i64 nR0_0) /\
 ∃ nR0_1 : Int, w69.cell? ((⟨r6, 0, none⟩ : Addr).add 1) = some (.int .i64 nR0_1) /\
 ∃ sR0_2 : ByteArray, w69.cell? ((⟨r6, 0, none⟩ : Addr).add 2) = some (.string sR0_2) /\
 R (.returned (.tuple #[.agg #[.int .i64 nR0_0, .int .i64 nR0_1, .string sR0_2], .int .i64 7])) w69) (
 ∃ n33_0 : Int, w65.cell? ((⟨r5, 0, none⟩ : Addr).add 0) = some (.int .i64 n33_0) /\
 ∃ n33_1 : Int, w65.cell? ((⟨r5, 0, none⟩ : Addr).add 1) = some (.int .i64 n33_1) /\
 ∃ s33_2 : ByteArray, w65.cell? ((⟨r5, 0, none⟩ : Addr).add 2) = some (.string s33_2) /\
 stA prog 25 (⟨r6, 0, none⟩ : Addr) #[.int .i64 n33_0, .int .i64 n33_1, .string s33_2] w65 fun w70 =>
 runD prog ds w70 fun w71 =>
 ∃ nR0_0 : Int, w71.cell? ((⟨r6, 0, none⟩ : Addr).add 0) = some (.int .i64 nR0_0) /\
 ∃ nR0_1 : Int, w71.cell? ((⟨r6, 0, none⟩ : Addr).add 1) = some (.int .i64 nR0_1) /\
 ∃ sR0_2 : ByteArray, w71.cell? ((⟨r6, 0, none⟩ : Addr).add 2) = some (.string sR0_2) /\
 R (.returned (.tuple #[.agg #[.int .i64 nR0_0, .int .i64 nR0_1, .string sR0_2], .int .i64 0])) w71)) (
 dwE w65 fun w72 =>
 ∃ S1 : World -> Prop, S1 w72 /\
 ∃ n35 : Int, (∀ w', S1 w' -> w'.cell? (⟨r5, 0, none⟩ : Addr) = some (.int .i64 n35)) /\
 ∃ s36_0 : ByteArray, (∀ w', S1 w' -> w'.cell? ((⟨r3, 0, none⟩ : Addr).add 0) = some (.string s36_0)) /\
 ∃ n36_1 : Int, (∀ w', S1 w' -> w'.cell? ((⟨r3, 0, none⟩ : Addr).add 1) = some (.int .i64 n36_1)) /\
 ∃ n36_2 : Int, (∀ w', S1 w' -> w'.cell? ((⟨r3, 0, none⟩ : Addr).add 2) = some (.int .i64 n36_2)) /\
 ∃ b36_3 : Bool, (∀ w', S1 w' -> w'.cell? ((⟨r3, 0, none⟩ : Addr).add 3) = some (.bool b36_3)) /\
 Calls prog 50 #[.agg #[.string s36_0, .int .i64 n36_1, .int .i64 n36_2, .bool b36_3]] w72 fun e w73 =>
 ∃ n37_0 : Int, ∃ n37_1 : Int, ∃ s37_2 : ByteArray, e = .returned (.agg #[.int .i64 n37_0, .int .i64 n37_1, .string s37_2]) /\
 S1 w73 /\
 Br (n35 != n37_0) (
 stA prog 25 (⟨r6, 0, none⟩ : Addr) #[.int .i64 0, .int .i64 0, .string (⟨#[]⟩ : ByteArray)] w73 fun w74 =>
 runD prog ds w74 fun w75 =>
 ∃ nR0_0 : Int, w75.cell? ((⟨r6, 0, none⟩ : Addr).add 0) = some (.int .i64 nR0_0) /\
 ∃ nR0_1 : Int, w75.cell? ((⟨r6, 0, none⟩ : Addr).add 1) = some (.int .i64 nR0_1) /\
 ∃ sR0_2 : ByteArray, w75.cell? ((⟨r6, 0, none⟩ : Addr).add 2) = some (.string sR0_2) /\
 R (.returned (.tuple #[.agg #[.int .i64 nR0_0, .int .i64 nR0_1, .string sR0_2], .int .i64 6])) w75) (
 ∃ n42 : Int, w73.cell? ((⟨r3, 0, none⟩ : Addr).add 1) = some (.int .i64 n42) /\
 F13_1 R n1 (some (⟨r3, 0, none⟩ : Addr)) (some (⟨r5, 0, none⟩ : Addr)) (some (⟨r6, 0, none⟩ : Addr)) n42 ds w73)))))
theorem c13_l : flat (bodyOf f13) = [c13_0, c13_1, c13_2, c13_3, c13_4, c13_5, c13_6, c13_7, c13_8, c13_9, c13_10, c13_11, c13_12, c13_13] := by kernel_rfl
theorem F13_1_ok (R : Rt) (n1 : Int) (p3 p5 p6 : Option Addr) (n42 : Int) (ds : Ds) (w : World) (E : Env) (e1 : E 1 = .int .i64 n1) (e3 : E 3 = .pointer p3) (e5 : E 5 = .pointer p5) (e6 : E 6 = .pointer p6) (e42 : E 42 = .int .i64 n42) (h : F13_1 R n1 p3 p5 p6 n42 ds w) :
    TrL prog f13.ntmps [c13_11, c13_12, c13_13] (F13_q1 R) E ds w :=
  TrL_leaf (X := F13_1 R n1 p3 p5 p6 n42 ds w) (setAll_cons e1 (setAll_cons e3 (setAll_cons e5 (setAll_cons e6 (setAll_cons e42 setAll_nil))))) (by kernel_rfl) (by kernel_rfl) h
theorem F13_2_ok (R : Rt) (s0_0 : ByteArray) (n0_1 n0_2 : Int) (b0_3 : Bool) (n1 n2_0 n2_1 : Int) (s2_2 : ByteArray) (ds : Ds) (w : World) (E : Env) (e0 : E 0 = .agg #[.string s0_0, .int .i64 n0_1, .int .i64 n0_2, .bool b0_3]) (e1 : E 1 = .int .i64 n1) (e2 : E 2 = .agg #[.int .i64 n2_0, .int .i64 n2_1, .string s2_2]) (h : F13_2 R s0_0 n0_1 n0_2 b0_3 n1 n2_0 n2_1 s2_2 ds w) :
    TrL prog f13.ntmps [c13_0, c13_1, c13_2, c13_3, c13_4, c13_5, c13_6, c13_7, c13_8, c13_9, c13_10, c13_11, c13_12, c13_13] (F13_q1 R) E ds w :=
  TrL_piece (pre := [c13_0, c13_1, c13_2, c13_3, c13_4, c13_5, c13_6, c13_7, c13_8, c13_9, c13_10]) (K := (F13_k2 R)) (X := F13_2 R s0_0 n0_1 n0_2 b0_3 n1 n2_0 n2_1 s2_2 ds w) (setAll_cons e0 (setAll_cons e1 (setAll_cons e2 setAll_nil))) (by kernel_rfl) (by kernel_rfl)
    (fun E' ds' w' hD => by
      obtain ⟨n1, e1, hD⟩ := dInt_elim hD; obtain ⟨p3, e3, hD⟩ := dPtr_elim hD; obtain ⟨p5, e5, hD⟩ := dPtr_elim hD; obtain ⟨p6, e6, hD⟩ := dPtr_elim hD; obtain ⟨n42, e42, hD⟩ := dInt_elim hD; exact F13_1_ok R n1 p3 p5 p6 n42 ds' w' E' e1 e3 e5 e6 e42 hD) h
theorem F13_calls (s0_0 : ByteArray) (n0_1 n0_2 : Int) (b0_3 : Bool) (n1 n2_0 n2_1 : Int) (s2_2 : ByteArray) (w : World) (R : Rt) (h : F13_2 R s0_0 n0_1 n0_2 b0_3 n1 n2_0 n2_1 s2_2 [] w) : Calls prog 13 #[.agg #[.string s0_0, .int .i64 n0_1, .int .i64 n0_2, .bool b0_3], .int .i64 n1, .agg #[.int .i64 n2_0, .int .i64 n2_1, .string s2_2]] w R :=
  calls_of_L (l := [c13_0, c13_1, c13_2, c13_3, c13_4, c13_5, c13_6, c13_7, c13_8, c13_9, c13_10, c13_11, c13_12, c13_13]) func13 (by kernel_rfl) (by rw [ntmps13]; exact Nat.le_of_ble_eq_true (by kernel_rfl)) c13_l
    (F13_2_ok R s0_0 n0_1 n0_2 b0_3 n1 n2_0 n2_1 s2_2 [] w _ rfl rfl rfl h)
noncomputable def c58_0 := cI4 f58 0
noncomputable def c58_1 := cI4 f58 1
noncomputable def c58_2 := cI4 f58 2
noncomputable def c58_3 := cI4 f58 3
noncomputable def c58_4 := cI4 f58 4
noncomputable def c58_5 := cI4 f58 5
noncomputable def c58_6 := cI4 f58 6
noncomputable def c58_7 := cI4 f58 7
noncomputable def c58_8 := cI4 f58 8
noncomputable def c58_9 := cI4 f58 9
noncomputable def c58_10 := cI4 f58 10
noncomputable def c58_11 := cI4 f58 11
noncomputable def c58_12 := cI4 f58 12
noncomputable def c58_13 := cI4 f58 13
def F58_q1 (R : Rt) : EQ := endQ prog f58.results.toList R
def F58_1 (R : Rt) (s0_0 : ByteArray) (n0_1 n0_2 : Int) (b0_3 : Bool) (n1 n2_0 n2_1 : Int) (s2_2 : ByteArray) (ds : Ds) (w : World) : Prop :=
 alE (.cells #[.string s0_0, .int .i64 n0_1, .int .i64 n0_2, .bool b0_3] 23) w fun r3 w1 =>
 alE (.cells #[.int .i64 n2_0, .int .i64 n2_1, .string s2_2] 25) w1 fun r5 w2 =>
 alE (.cells #[.int .i64 0, .int .i64 0, .string (⟨#[]⟩ : ByteArray)] 25) w2 fun r6 w3 =>
 ∃ n11 : Int, w3.cell? (⟨r5, 0, none⟩ : Addr) = some (.int .i64 n11) /\
 Br (n11 == 0) (
 ∃ b14 : Bool, w3.cell? ((⟨r3, 0, none⟩ : Addr).add 3) = some (.bool b14) /\
 Br (!b14) (
 stA prog 25 (⟨r6, 0, none⟩ : Addr) #[.int .i64 0, .int .i64 0, .string (⟨#[]⟩ : ByteArray)] w3 fun w4 =>
 runD prog ds w4 fun w5 =>
 ∃ nR0_0 : Int, w5.cell? ((⟨r6, 0, none⟩ : Addr).add 0) = some (.int .i64 nR0_0) /\
 ∃ nR0_1 : Int, w5.cell? ((⟨r6, 0, none⟩ : Addr).add 1) = some (.int .i64 nR0_1) /\
 ∃ sR0_2 : ByteArray, w5.cell? ((⟨r6, 0, none⟩ : Addr).add 2) = some (.string sR0_2) /\
 R (.returned (.tuple #[.agg #[.int .i64 nR0_0, .int .i64 nR0_1, .string sR0_2], .int .i64 7])) w5) (
 ∃ n17_0 : Int, w3.cell? ((⟨r5, 0, none⟩ : Addr).add 0) = some (.int .i64 n17_0) /\
 ∃ n17_1 : Int, w3.cell? ((⟨r5, 0, none⟩ : Addr).add 1) = some (.int .i64 n17_1) /\
 ∃ s17_2 : ByteArray, w3.cell? ((⟨r5, 0, none⟩ : Addr).add 2) = some (.string s17_2) /\
 stA prog 25 (⟨r6, 0, none⟩ : Addr) #[.int .i64 n17_0, .int .i64 n17_1, .string s17_2] w3 fun w6 =>
 runD prog ds w6 fun w7 =>
 ∃ nR0_0 : Int, w7.cell? ((⟨r6, 0, none⟩ : Addr).add 0) = some (.int .i64 nR0_0) /\
 ∃ nR0_1 : Int, w7.cell? ((⟨r6, 0, none⟩ : Addr).add 1) = some (.int .i64 nR0_1) /\
 ∃ sR0_2 : ByteArray, w7.cell? ((⟨r6, 0, none⟩ : Addr).add 2) = some (.string sR0_2) /\
 R (.returned (.tuple #[.agg #[.int .i64 nR0_0, .int .i64 nR0_1, .string sR0_2], .int .i64 0])) w7)) (
 ∃ n19 : Int, w3.cell? ((⟨r3, 0, none⟩ : Addr).add 1) = some (.int .i64 n19) /\
 Br (n19 == 5) (
 ∃ n23 : Int, w3.cell? (⟨r5, 0, none⟩ : Addr) = some (.int .i64 n23) /\
 Br (n23 != 2) (
 stA prog 25 (⟨r6, 0, none⟩ : Addr) #[.int .i64 0, .int .i64 0, .string (⟨#[]⟩ : ByteArray)] w3 fun w8 =>
 runD prog ds w8 fun w9 =>
 ∃ nR0_0 : Int, w9.cell? ((⟨r6, 0, none⟩ : Addr).add 0) = some (.int .i64 nR0_0) /\
 ∃ nR0_1 : Int, w9.cell? ((⟨r6, 0, none⟩ : Addr).add 1) = some (.int .i64 nR0_1) /\
 ∃ sR0_2 : ByteArray, w9.cell? ((⟨r6, 0, none⟩ : Addr).add 2) = some (.string sR0_2) /\
 R (.returned (.tuple #[.agg #[.int .i64 nR0_0, .int .i64 nR0_1, .string sR0_2], .int .i64 6])) w9) (
 ∃ n28 : Int, w3.cell? ((⟨r3, 0, none⟩ : Addr).add 1) = some (.int .i64 n28) /\
 Br (n28 == 4) (
 ∃ s31 : ByteArray, w3.cell? ((⟨r5, 0, none⟩ : Addr).add 2) = some (.string s31) /\
 ∃ s33 : ByteArray, w3.cell? ((⟨r5, 0, none⟩ : Addr).add 2) = some (.string s33) /\
 ∃ n36 : Int, w3.cell? ((⟨r3, 0, none⟩ : Addr).add 2) = some (.int .i64 n36) /\
 ∃ n37 : Int, ∃ w10 : World, (Builtin.min_ #[3, 3] 3 #[.int .i64 (s33.size : Int), .int .i64 n36]).run prog w3 = .ok (.int .i64 n37) w10 /\
 0 ≤ n37 /\ n37.toNat ≤ s31.size /\ 0 ≤ n37.toNat /\
 Calls prog 103 #[.string (s31.extract 0 n37.toNat)] w10 fun e w11 =>
 ∃ s39 : ByteArray, e = .returned (.string s39) /\
 Calls prog 104 #[.string s39, .int .i64 n1] w11 fun e w12 =>
 ∃ b42 : Bool, e = .returned (.bool b42) /\
 Br (!b42) (
 stA prog 25 (⟨r6, 0, none⟩ : Addr) #[.int .i64 0, .int .i64 0, .string (⟨#[]⟩ : ByteArray)] w12 fun w13 =>
 runD prog ds w13 fun w14 =>
 ∃ nR0_0 : Int, w14.cell? ((⟨r6, 0, none⟩ : Addr).add 0) = some (.int .i64 nR0_0) /\
 ∃ nR0_1 : Int, w14.cell? ((⟨r6, 0, none⟩ : Addr).add 1) = some (.int .i64 nR0_1) /\
 ∃ sR0_2 : ByteArray, w14.cell? ((⟨r6, 0, none⟩ : Addr).add 2) = some (.string sR0_2) /\
 R (.returned (.tuple #[.agg #[.int .i64 nR0_0, .int .i64 nR0_1, .string sR0_2], .int .i64 10])) w14) (
 Calls prog 46 #[.string s39] w12 fun e w15 =>
 ∃ n46_0 : Int, ∃ n46_1 : Int, ∃ s46_2 : ByteArray, e = .returned (.agg #[.int .i64 n46_0, .int .i64 n46_1, .string s46_2]) /\
 stA prog 25 (⟨r6, 0, none⟩ : Addr) #[.int .i64 n46_0, .int .i64 n46_1, .string s46_2] w15 fun w16 =>
 runD prog ds w16 fun w17 =>
 ∃ nR0_0 : Int, w17.cell? ((⟨r6, 0, none⟩ : Addr).add 0) = some (.int .i64 nR0_0) /\
 ∃ nR0_1 : Int, w17.cell? ((⟨r6, 0, none⟩ : Addr).add 1) = some (.int .i64 nR0_1) /\
 ∃ sR0_2 : ByteArray, w17.cell? ((⟨r6, 0, none⟩ : Addr).add 2) = some (.string sR0_2) /\
 R (.returned (.tuple #[.agg #[.int .i64 nR0_0, .int .i64 nR0_1, .string sR0_2], .int .i64 0])) w17)) (
 ∃ s47_0 : ByteArray, w3.cell? ((⟨r3, 0, none⟩ : Addr).add 0) = some (.string s47_0) /\
 ∃ n47_1 : Int, w3.cell? ((⟨r3, 0, none⟩ : Addr).add 1) = some (.int .i64 n47_1) /\
 ∃ n47_2 : Int, w3.cell? ((⟨r3, 0, none⟩ : Addr).add 2) = some (.int .i64 n47_2) /\
 ∃ b47_3 : Bool, w3.cell? ((⟨r3, 0, none⟩ : Addr).add 3) = some (.bool b47_3) /\
 ∃ n49_0 : Int, w3.cell? ((⟨r5, 0, none⟩ : Addr).add 0) = some (.int .i64 n49_0) /\
 ∃ n49_1 : Int, w3.cell? ((⟨r5, 0, none⟩ : Addr).add 1) = some (.int .i64 n49_1) /\
 ∃ s49_2 : ByteArray, w3.cell? ((⟨r5, 0, none⟩ : Addr).add 2) = some (.string s49_2) /\
 Calls prog 105 #[.agg #[.string s47_0, .int .i64 n47_1, .int .i64 n47_2, .bool b47_3], .int .i64 n1, .agg #[.int .i64 n49_0, .int .i64 n49_1, .string s49_2]] w3 fun e w18 =>
 ∃ b50 : Bool, e = .returned (.bool b50) /\
 Br (!b50) (
 stA prog 25 (⟨r6, 0, none⟩ : Addr) #[.int .i64 0, .int .i64 0, .string (⟨#[]⟩ : ByteArray)] w18 fun w19 =>
 runD prog ds w19 fun w20 =>
 ∃ nR0_0 : Int, w20.cell? ((⟨r6, 0, none⟩ : Addr).add 0) = some (.int .i64 nR0_0) /\
 ∃ nR0_1 : Int, w20.cell? ((⟨r6, 0, none⟩ : Addr).add 1) = some (.int .i64 nR0_1) /\
 ∃ sR0_2 : ByteArray, w20.cell? ((⟨r6, 0, none⟩ : Addr).add 2) = some (.string sR0_2) /\
 R (.returned (.tuple #[.agg #[.int .i64 nR0_0, .int .i64 nR0_1, .string sR0_2], .int .i64 10])) w20) (
 ∃ n53_0 : Int, w18.cell? ((⟨r5, 0, none⟩ : Addr).add 0) = some (.int .i64 n53_0) /\
 ∃ n53_1 : Int, w18.cell? ((⟨r5, 0, none⟩ : Addr).add 1) = some (.int .i64 n53_1) /\
 ∃ s53_2 : ByteArray, w18.cell? ((⟨r5, 0, none⟩ : Addr).add 2) = some (.string s53_2) /\
 stA prog 25 (⟨r6, 0, none⟩ : Addr) #[.int .i64 n53_0, .int .i64 n53_1, .string s53_2] w18 fun w21 =>
 runD prog ds w21 fun w22 =>
 ∃ nR0_0 : Int, w22.cell? ((⟨r6, 0, none⟩ : Addr).add 0) = some (.int .i64 nR0_0) /\
 ∃ nR0_1 : Int, w22.cell? ((⟨r6, 0, none⟩ : Addr).add 1) = some (.int .i64 nR0_1) /\
 ∃ sR0_2 : ByteArray, w22.cell? ((⟨r6, 0, none⟩ : Addr).add 2) = some (.string sR0_2) /\
 R (.returned (.tuple #[.agg #[.int .i64 nR0_0, .int .i64 nR0_1, .string sR0_2], .int .i64 0])) w22)))) (
 ∃ n23 : Int, w3.cell? (⟨r5, 0, none⟩ : Addr) = some (.int .i64 n23) /\
 Br (n23 != n19) (
 stA prog 25 (⟨r6, 0, none⟩ : Addr) #[.int .i64 0, .int .i64 0, .string (⟨#[]⟩ : ByteArray)] w3 fun w23 =>
 runD prog ds w23 fun w24 =>
 ∃ nR0_0 : Int, w24.cell? ((⟨r6, 0, none⟩ : Addr).add 0) = some (.int .i64 nR0_0) /\
 ∃ nR0_1 : Int, w24.cell? ((⟨r6, 0, none⟩ : Addr).add 1) = some (.int .i64 nR0_1) /\
 ∃ sR0_2 : ByteArray, w24.cell? ((⟨r6, 0, none⟩ : Addr).add 2) = some (.string sR0_2) /\
 R (.returned (.tuple #[.agg #[.int .i64 nR0_0, .int .i64 nR0_1, .string sR0_2], .int .i64 6])) w24) (
 ∃ n28 : Int, w3.cell? ((⟨r3, 0, none⟩ : Addr).add 1) = some (.int .i64 n28) /\
 Br (n28 == 4) (
 ∃ s31 : ByteArray, w3.cell? ((⟨r5, 0, none⟩ : Addr).add 2) = some (.string s31) /\
 ∃ s33 : ByteArray, w3.cell? ((⟨r5, 0, none⟩ : Addr).add 2) = some (.string s33) /\
 ∃ n36 : Int, w3.cell? ((⟨r3, 0, none⟩ : Addr).add 2) = some (.int .i64 n36) /\
 ∃ n37 : Int, ∃ w25 : World, (Builtin.min_ #[3, 3] 3 #[.int .i64 (s33.size : Int), .int .i64 n36]).run prog w3 = .ok (.int .i64 n37) w25 /\
 0 ≤ n37 /\ n37.toNat ≤ s31.size /\ 0 ≤ n37.toNat /\
 Calls prog 103 #[.string (s31.extract 0 n37.toNat)] w25 fun e w26 =>
 ∃ s39 : ByteArray, e = .returned (.string s39) /\
 Calls prog 104 #[.string s39, .int .i64 n1] w26 fun e w27 =>
 ∃ b42 : Bool, e = .returned (.bool b42) /\
 Br (!b42) (
 stA prog 25 (⟨r6, 0, none⟩ : Addr) #[.int .i64 0, .int .i64 0, .string (⟨#[]⟩ : ByteArray)] w27 fun w28 =>
 runD prog ds w28 fun w29 =>
 ∃ nR0_0 : Int, w29.cell? ((⟨r6, 0, none⟩ : Addr).add 0) = some (.int .i64 nR0_0) /\
 ∃ nR0_1 : Int, w29.cell? ((⟨r6, 0, none⟩ : Addr).add 1) = some (.int .i64 nR0_1) /\
 ∃ sR0_2 : ByteArray, w29.cell? ((⟨r6, 0, none⟩ : Addr).add 2) = some (.string sR0_2) /\
 R (.returned (.tuple #[.agg #[.int .i64 nR0_0, .int .i64 nR0_1, .string sR0_2], .int .i64 10])) w29) (
 Calls prog 46 #[.string s39] w27 fun e w30 =>
 ∃ n46_0 : Int, ∃ n46_1 : Int, ∃ s46_2 : ByteArray, e = .returned (.agg #[.int .i64 n46_0, .int .i64 n46_1, .string s46_2]) /\
 stA prog 25 (⟨r6, 0, none⟩ : Addr) #[.int .i64 n46_0, .int .i64 n46_1, .string s46_2] w30 fun w31 =>
 runD prog ds w31 fun w32 =>
 ∃ nR0_0 : Int, w32.cell? ((⟨r6, 0, none⟩ : Addr).add 0) = some (.int .i64 nR0_0) /\
 ∃ nR0_1 : Int, w32.cell? ((⟨r6, 0, none⟩ : Addr).add 1) = some (.int .i64 nR0_1) /\
 ∃ sR0_2 : ByteArray, w32.cell? ((⟨r6, 0, none⟩ : Addr).add 2) = some (.string sR0_2) /\
 R (.returned (.tuple #[.agg #[.int .i64 nR0_0, .int .i64 nR0_1, .string sR0_2], .int .i64 0])) w32)) (
 ∃ s47_0 : ByteArray, w3.cell? ((⟨r3, 0, none⟩ : Addr).add 0) = some (.string s47_0) /\
 ∃ n47_1 : Int, w3.cell? ((⟨r3, 0, none⟩ : Addr).add 1) = some (.int .i64 n47_1) /\
 ∃ n47_2 : Int, w3.cell? ((⟨r3, 0, none⟩ : Addr).add 2) = some (.int .i64 n47_2) /\
 ∃ b47_3 : Bool, w3.cell? ((⟨r3, 0, none⟩ : Addr).add 3) = some (.bool b47_3) /\
 ∃ n49_0 : Int, w3.cell? ((⟨r5, 0, none⟩ : Addr).add 0) = some (.int .i64 n49_0) /\
 ∃ n49_1 : Int, w3.cell? ((⟨r5, 0, none⟩ : Addr).add 1) = some (.int .i64 n49_1) /\
 ∃ s49_2 : ByteArray, w3.cell? ((⟨r5, 0, none⟩ : Addr).add 2) = some (.string s49_2) /\
 Calls prog 105 #[.agg #[.string s47_0, .int .i64 n47_1, .int .i64 n47_2, .bool b47_3], .int .i64 n1, .agg #[.int .i64 n49_0, .int .i64 n49_1, .string s49_2]] w3 fun e w33 =>
 ∃ b50 : Bool, e = .returned (.bool b50) /\
 Br (!b50) (
 stA prog 25 (⟨r6, 0, none⟩ : Addr) #[.int .i64 0, .int .i64 0, .string (⟨#[]⟩ : ByteArray)] w33 fun w34 =>
 runD prog ds w34 fun w35 =>
 ∃ nR0_0 : Int, w35.cell? ((⟨r6, 0, none⟩ : Addr).add 0) = some (.int .i64 nR0_0) /\
 ∃ nR0_1 : Int, w35.cell? ((⟨r6, 0, none⟩ : Addr).add 1) = some (.int .i64 nR0_1) /\
 ∃ sR0_2 : ByteArray, w35.cell? ((⟨r6, 0, none⟩ : Addr).add 2) = some (.string sR0_2) /\
 R (.returned (.tuple #[.agg #[.int .i64 nR0_0, .int .i64 nR0_1, .string sR0_2], .int .i64 10])) w35) (
 ∃ n53_0 : Int, w33.cell? ((⟨r5, 0, none⟩ : Addr).add 0) = some (.int .i64 n53_0) /\
 ∃ n53_1 : Int, w33.cell? ((⟨r5, 0, none⟩ : Addr).add 1) = some (.int .i64 n53_1) /\
 ∃ s53_2 : ByteArray, w33.cell? ((⟨r5, 0, none⟩ : Addr).add 2) = some (.string s53_2) /\
 stA prog 25 (⟨r6, 0, none⟩ : Addr) #[.int .i64 n53_0, .int .i64 n53_1, .string s53_2] w33 fun w36 =>
 runD prog ds w36 fun w37 =>
 ∃ nR0_0 : Int, w37.cell? ((⟨r6, 0, none⟩ : Addr).add 0) = some (.int .i64 nR0_0) /\
 ∃ nR0_1 : Int, w37.cell? ((⟨r6, 0, none⟩ : Addr).add 1) = some (.int .i64 nR0_1) /\
 ∃ sR0_2 : ByteArray, w37.cell? ((⟨r6, 0, none⟩ : Addr).add 2) = some (.string sR0_2) /\
 R (.returned (.tuple #[.agg #[.int .i64 nR0_0, .int .i64 nR0_1, .string sR0_2], .int .i64 0])) w37)))))
theorem c58_l : flat (bodyOf f58) = [c58_0, c58_1, c58_2, c58_3, c58_4, c58_5, c58_6, c58_7, c58_8, c58_9, c58_10, c58_11, c58_12, c58_13] := by kernel_rfl
theorem F58_1_ok (R : Rt) (s0_0 : ByteArray) (n0_1 n0_2 : Int) (b0_3 : Bool) (n1 n2_0 n2_1 : Int) (s2_2 : ByteArray) (ds : Ds) (w : World) (E : Env) (e0 : E 0 = .agg #[.string s0_0, .int .i64 n0_1, .int .i64 n0_2, .bool b0_3]) (e1 : E 1 = .int .i64 n1) (e2 : E 2 = .agg #[.int .i64 n2_0, .int .i64 n2_1, .string s2_2]) (h : F58_1 R s0_0 n0_1 n0_2 b0_3 n1 n2_0 n2_1 s2_2 ds w) :
    TrL prog f58.ntmps [c58_0, c58_1, c58_2, c58_3, c58_4, c58_5, c58_6, c58_7, c58_8, c58_9, c58_10, c58_11, c58_12, c58_13] (F58_q1 R) E ds w :=
  TrL_leaf (X := F58_1 R s0_0 n0_1 n0_2 b0_3 n1 n2_0 n2_1 s2_2 ds w) (setAll_cons e0 (setAll_cons e1 (setAll_cons e2 setAll_nil))) (by kernel_rfl) (by kernel_rfl) h
theorem F58_calls (s0_0 : ByteArray) (n0_1 n0_2 : Int) (b0_3 : Bool) (n1 n2_0 n2_1 : Int) (s2_2 : ByteArray) (w : World) (R : Rt) (h : F58_1 R s0_0 n0_1 n0_2 b0_3 n1 n2_0 n2_1 s2_2 [] w) : Calls prog 58 #[.agg #[.string s0_0, .int .i64 n0_1, .int .i64 n0_2, .bool b0_3], .int .i64 n1, .agg #[.int .i64 n2_0, .int .i64 n2_1, .string s2_2]] w R :=
  calls_of_L (l := [c58_0, c58_1, c58_2, c58_3, c58_4, c58_5, c58_6, c58_7, c58_8, c58_9, c58_10, c58_11, c58_12, c58_13]) func58 (by kernel_rfl) (by rw [ntmps58]; exact Nat.le_of_ble_eq_true (by kernel_rfl)) c58_l
    (F58_1_ok R s0_0 n0_1 n0_2 b0_3 n1 n2_0 n2_1 s2_2 [] w _ rfl rfl rfl h)
noncomputable def c105_0 := cI4 f105 0
noncomputable def c105_1 := cI4 f105 1
noncomputable def c105_2 := cI4 f105 2
noncomputable def c105_3 := cI4 f105 3
noncomputable def c105_4 := cI4 f105 4
noncomputable def c105_5 := cI4 f105 5
def F105_q1 (R : Rt) : EQ := endQ prog f105.results.toList R
def F105_1 (R : Rt) (s0_0 : ByteArray) (n0_1 n0_2 : Int) (b0_3 : Bool) (n1 n2_0 n2_1 : Int) (s2_2 : ByteArray) (ds : Ds) (w : World) : Prop :=
 alE (.cells #[.string s0_0, .int .i64 n0_1, .int .i64 n0_2, .bool b0_3] 23) w fun r3 w1 =>
 alE (.cells #[.int .i64 n2_0, .int .i64 n2_1, .string s2_2] 25) w1 fun r5 w2 =>
 ∃ n7_0 : Int, w2.cell? ((⟨r5, 0, none⟩ : Addr).add 0) = some (.int .i64 n7_0) /\
 ∃ n7_1 : Int, w2.cell? ((⟨r5, 0, none⟩ : Addr).add 1) = some (.int .i64 n7_1) /\
 ∃ s7_2 : ByteArray, w2.cell? ((⟨r5, 0, none⟩ : Addr).add 2) = some (.string s7_2) /\
 Calls prog 57 #[.agg #[.int .i64 n7_0, .int .i64 n7_1, .string s7_2]] w2 fun e w3 =>
 ∃ n8 : Int, e = .returned (.int .i64 n8) /\
 Br (n8 != 0) (
 runD prog ds w3 fun w4 =>
 R (.returned (.bool false)) w4) (
 ∃ n12 : Int, w3.cell? (⟨r5, 0, none⟩ : Addr) = some (.int .i64 n12) /\
 Br (n12 == 0) (
 ∃ b15 : Bool, w3.cell? ((⟨r3, 0, none⟩ : Addr).add 3) = some (.bool b15) /\
 runD prog ds w3 fun w5 =>
 R (.returned (.bool b15)) w5) (
 ∃ n18 : Int, w3.cell? ((⟨r3, 0, none⟩ : Addr).add 1) = some (.int .i64 n18) /\
 Br (n18 == 5) (
 ∃ n21 : Int, w3.cell? (⟨r5, 0, none⟩ : Addr) = some (.int .i64 n21) /\
 Br (n21 == 2) (
 ∃ n25 : Int, w3.cell? ((⟨r5, 0, none⟩ : Addr).add 1) = some (.int .i64 n25) /\
 Calls prog 147 #[.int .i64 n25] w3 fun e w6 =>
 ∃ b26 : Bool, e = .returned (.bool b26) /\
 runD prog ds w6 fun w7 =>
 R (.returned (.bool b26)) w7) (
 runD prog ds w3 fun w8 =>
 R (.returned (.bool false)) w8)) (
 ∃ n30 : Int, w3.cell? (⟨r5, 0, none⟩ : Addr) = some (.int .i64 n30) /\
 ∃ n32 : Int, w3.cell? ((⟨r3, 0, none⟩ : Addr).add 1) = some (.int .i64 n32) /\
 Br (n30 != n32) (
 runD prog ds w3 fun w9 =>
 R (.returned (.bool false)) w9) (
 ∃ n36 : Int, w3.cell? ((⟨r3, 0, none⟩ : Addr).add 1) = some (.int .i64 n36) /\
 Br (n36 == 2) (
 dwE w3 fun w10 =>
 ∃ S1 : World -> Prop, S1 w10 /\
 ∃ n39 : Int, (∀ w', S1 w' -> w'.cell? ((⟨r5, 0, none⟩ : Addr).add 1) = some (.int .i64 n39)) /\
 ∃ n43 : Int, (∀ w', S1 w' -> w'.cell? ((⟨r3, 0, none⟩ : Addr).add 2) = some (.int .i64 n43)) /\
 Calls prog 119 #[.int .i64 n39] w10 fun e w11 =>
 ∃ s40 : ByteArray, e = .returned (.string s40) /\
 S1 w11 /\
 runD prog ds w11 fun w12 =>
 R (.returned (.bool (decide ((s40.size : Int) ≤ n43)))) w12) (
 ∃ n47 : Int, w3.cell? ((⟨r3, 0, none⟩ : Addr).add 1) = some (.int .i64 n47) /\
 Br (n47 == 4) (
 dwE w3 fun w13 =>
 ∃ S2 : World -> Prop, S2 w13 /\
 ∃ s50 : ByteArray, (∀ w', S2 w' -> w'.cell? ((⟨r5, 0, none⟩ : Addr).add 2) = some (.string s50)) /\
 ∃ n53 : Int, (∀ w', S2 w' -> w'.cell? ((⟨r3, 0, none⟩ : Addr).add 2) = some (.int .i64 n53)) /\
 Br (decide ((s50.size : Int) ≤ n53)) (
 ∃ s57 : ByteArray, (∀ w', S2 w' -> w'.cell? ((⟨r5, 0, none⟩ : Addr).add 2) = some (.string s57)) /\
 ∃ s60 : ByteArray, (∀ w', S2 w' -> w'.cell? ((⟨r5, 0, none⟩ : Addr).add 2) = some (.string s60)) /\
 Calls prog 103 #[.string s57] w13 fun e w14 =>
 ∃ s58 : ByteArray, e = .returned (.string s58) /\
 S2 w14 /\
 Br (s58.toList == s60.toList) (
 ∃ s65 : ByteArray, (∀ w', S2 w' -> w'.cell? ((⟨r5, 0, none⟩ : Addr).add 2) = some (.string s65)) /\
 Calls prog 104 #[.string s65, .int .i64 n1] w14 fun e w15 =>
 ∃ b67 : Bool, e = .returned (.bool b67) /\
 runD prog ds w15 fun w16 =>
 R (.returned (.bool b67)) w16) (
 runD prog ds w14 fun w17 =>
 R (.returned (.bool false)) w17)) (
 runD prog ds w13 fun w18 =>
 R (.returned (.bool false)) w18)) (
 runD prog ds w3 fun w19 =>
 R (.returned (.bool true)) w19))))))
theorem c105_l : flat (bodyOf f105) = [c105_0, c105_1, c105_2, c105_3, c105_4, c105_5] := by kernel_rfl
theorem F105_1_ok (R : Rt) (s0_0 : ByteArray) (n0_1 n0_2 : Int) (b0_3 : Bool) (n1 n2_0 n2_1 : Int) (s2_2 : ByteArray) (ds : Ds) (w : World) (E : Env) (e0 : E 0 = .agg #[.string s0_0, .int .i64 n0_1, .int .i64 n0_2, .bool b0_3]) (e1 : E 1 = .int .i64 n1) (e2 : E 2 = .agg #[.int .i64 n2_0, .int .i64 n2_1, .string s2_2]) (h : F105_1 R s0_0 n0_1 n0_2 b0_3 n1 n2_0 n2_1 s2_2 ds w) :
    TrL prog f105.ntmps [c105_0, c105_1, c105_2, c105_3, c105_4, c105_5] (F105_q1 R) E ds w :=
  TrL_leaf (X := F105_1 R s0_0 n0_1 n0_2 b0_3 n1 n2_0 n2_1 s2_2 ds w) (setAll_cons e0 (setAll_cons e1 (setAll_cons e2 setAll_nil))) (by kernel_rfl) (by kernel_rfl) h
theorem F105_calls (s0_0 : ByteArray) (n0_1 n0_2 : Int) (b0_3 : Bool) (n1 n2_0 n2_1 : Int) (s2_2 : ByteArray) (w : World) (R : Rt) (h : F105_1 R s0_0 n0_1 n0_2 b0_3 n1 n2_0 n2_1 s2_2 [] w) : Calls prog 105 #[.agg #[.string s0_0, .int .i64 n0_1, .int .i64 n0_2, .bool b0_3], .int .i64 n1, .agg #[.int .i64 n2_0, .int .i64 n2_1, .string s2_2]] w R :=
  calls_of_L (l := [c105_0, c105_1, c105_2, c105_3, c105_4, c105_5]) func105 (by kernel_rfl) (by rw [ntmps105]; exact Nat.le_of_ble_eq_true (by kernel_rfl)) c105_l
    (F105_1_ok R s0_0 n0_1 n0_2 b0_3 n1 n2_0 n2_1 s2_2 [] w _ rfl rfl rfl h)
noncomputable def c147_0 := cI4 f147 0
noncomputable def c147_1 := cI4 f147 1
noncomputable def c147_2 := cI4 f147 2
def F147_q1 (R : Rt) : EQ := endQ prog f147.results.toList R
def F147_1 (R : Rt) (n0 : Int) (ds : Ds) (w : World) : Prop :=
 Br (decide (n0 ≥ 0)) (
 runD prog ds w fun w1 =>
 R (.returned (.bool (decide (n0 ≤ 99999999)))) w1) (
 runD prog ds w fun w2 =>
 R (.returned (.bool false)) w2)
theorem c147_l : flat (bodyOf f147) = [c147_0, c147_1, c147_2] := by kernel_rfl
theorem F147_1_ok (R : Rt) (n0 : Int) (ds : Ds) (w : World) (E : Env) (e0 : E 0 = .int .i64 n0) (h : F147_1 R n0 ds w) :
    TrL prog f147.ntmps [c147_0, c147_1, c147_2] (F147_q1 R) E ds w :=
  TrL_leaf (X := F147_1 R n0 ds w) (setAll_cons e0 setAll_nil) (by kernel_rfl) (by kernel_rfl) h
theorem F147_calls (n0 : Int) (w : World) (R : Rt) (h : F147_1 R n0 [] w) : Calls prog 147 #[.int .i64 n0] w R :=
  calls_of_L (l := [c147_0, c147_1, c147_2]) func147 (by kernel_rfl) (by rw [ntmps147]; exact Nat.le_of_ble_eq_true (by kernel_rfl)) c147_l
    (F147_1_ok R n0 [] w _ rfl h)
end Go.Proofs.YtecmfdfhpldmmaaGreatDoor

/- Shallow texts of functions, printed by program, each checked by the kernel against the loaded code. No condition. -/
set_option maxRecDepth 100000
set_option linter.unusedVariables false
namespace Go.Proofs.YtecmfdfhpldmmaaGreatDoor
open Go.Sh
open Tryz
@[reducible] noncomputable def cI5 (f : Func) (i : Nat) : Code := itemAt (flat (bodyOf f)) i
@[reducible] noncomputable def cJ5 (c : Code) (i : Nat) : Code := itemAt (flat (innerC c)) i
noncomputable def c183_0 := cI5 f183 0
noncomputable def c183_1 := cI5 f183 1
noncomputable def c183_2 := cI5 f183 2
def F183_q1 (R : Rt) : EQ := endQ prog f183.results.toList R
def F183_1 (R : Rt) (n0 : Int) (ds : Ds) (w : World) : Prop :=
 IntKind.i64 = IntKind.i64 /\ (4 : Int) ≠ 0 /\
 Br ((n0.tmod 4) == 0) (
 IntKind.i64 = IntKind.i64 /\ (100 : Int) ≠ 0 /\
 Br ((n0.tmod 100) != 0) (
 runD prog ds w fun w1 =>
 R (.returned (.bool true)) w1) (
 IntKind.i64 = IntKind.i64 /\ (400 : Int) ≠ 0 /\
 runD prog ds w fun w2 =>
 R (.returned (.bool ((n0.tmod 400) == 0))) w2)) (
 runD prog ds w fun w3 =>
 R (.returned (.bool false)) w3)
theorem c183_l : flat (bodyOf f183) = [c183_0, c183_1, c183_2] := by kernel_rfl
theorem F183_1_ok (R : Rt) (n0 : Int) (ds : Ds) (w : World) (E : Env) (e0 : E 0 = .int .i64 n0) (h : F183_1 R n0 ds w) :
    TrL prog f183.ntmps [c183_0, c183_1, c183_2] (F183_q1 R) E ds w :=
  TrL_leaf (X := F183_1 R n0 ds w) (setAll_cons e0 setAll_nil) (by kernel_rfl) (by kernel_rfl) h
theorem F183_calls (n0 : Int) (w : World) (R : Rt) (h : F183_1 R n0 [] w) : Calls prog 183 #[.int .i64 n0] w R :=
  calls_of_L (l := [c183_0, c183_1, c183_2]) func183 (by kernel_rfl) (by rw [ntmps183]; exact Nat.le_of_ble_eq_true (by kernel_rfl)) c183_l
    (F183_1_ok R n0 [] w _ rfl h)
noncomputable def c179_0 := cI5 f179 0
noncomputable def c179_1 := cI5 f179 1
noncomputable def c179_2 := cI5 f179 2
noncomputable def c179_3 := cI5 f179 3
noncomputable def c179_4 := cI5 f179 4
noncomputable def c179_5 := cI5 f179 5
def F179_q1 (R : Rt) : EQ := endQ prog f179.results.toList R
def F179_1 (R : Rt) (n0 n1 : Int) (ds : Ds) (w : World) : Prop :=
 alE (.cells #[.int .i64 0, .int .i64 0, .int .i64 0, .int .i64 0, .int .i64 0, .int .i64 0, .int .i64 0, .int .i64 0, .int .i64 0, .int .i64 0, .int .i64 0, .int .i64 0] 184) w fun r5 w1 =>
 stA prog 184 (⟨r5, 0, none⟩ : Addr) #[.int .i64 31, .int .i64 28, .int .i64 31, .int .i64 30, .int .i64 31, .int .i64 30, .int .i64 31, .int .i64 31, .int .i64 30, .int .i64 31, .int .i64 30, .int .i64 31] w1 fun w2 =>
 Br (n1 == 2) (
 Calls prog 183 #[.int .i64 n0] w2 fun e w3 =>
 ∃ b11 : Bool, e = .returned (.bool b11) /\
 Br b11 (
 runD prog ds w3 fun w4 =>
 R (.returned (.int .i64 29)) w4) (
 0 ≤ (IntKind.i64.wrap (n1 - 1)) /\ (IntKind.i64.wrap (n1 - 1)) < (12 : Int) /\
 ∃ n16 : Int, w3.cell? ((⟨r5, 0, none⟩ : Addr).add ((IntKind.i64.wrap (n1 - 1)).toNat * 1)) = some (.int .i64 n16) /\
 runD prog ds w3 fun w5 =>
 R (.returned (.int .i64 n16)) w5)) (
 0 ≤ (IntKind.i64.wrap (n1 - 1)) /\ (IntKind.i64.wrap (n1 - 1)) < (12 : Int) /\
 ∃ n16 : Int, w2.cell? ((⟨r5, 0, none⟩ : Addr).add ((IntKind.i64.wrap (n1 - 1)).toNat * 1)) = some (.int .i64 n16) /\
 runD prog ds w2 fun w6 =>
 R (.returned (.int .i64 n16)) w6)
theorem c179_l : flat (bodyOf f179) = [c179_0, c179_1, c179_2, c179_3, c179_4, c179_5] := by kernel_rfl
theorem F179_1_ok (R : Rt) (n0 n1 : Int) (ds : Ds) (w : World) (E : Env) (e0 : E 0 = .int .i64 n0) (e1 : E 1 = .int .i64 n1) (h : F179_1 R n0 n1 ds w) :
    TrL prog f179.ntmps [c179_0, c179_1, c179_2, c179_3, c179_4, c179_5] (F179_q1 R) E ds w :=
  TrL_leaf (X := F179_1 R n0 n1 ds w) (setAll_cons e0 (setAll_cons e1 setAll_nil)) (by kernel_rfl) (by kernel_rfl) h
theorem F179_calls (n0 n1 : Int) (w : World) (R : Rt) (h : F179_1 R n0 n1 [] w) : Calls prog 179 #[.int .i64 n0, .int .i64 n1] w R :=
  calls_of_L (l := [c179_0, c179_1, c179_2, c179_3, c179_4, c179_5]) func179 (by kernel_rfl) (by rw [ntmps179]; exact Nat.le_of_ble_eq_true (by kernel_rfl)) c179_l
    (F179_1_ok R n0 n1 [] w _ rfl rfl h)
noncomputable def c180_0 := cI5 f180 0
noncomputable def c180_1 := cI5 f180 1
noncomputable def c180_2 := cI5 f180 2
noncomputable def c180_3 := cI5 f180 3
def F180_q1 (R : Rt) : EQ := endQ prog f180.results.toList R
def F180_1 (R : Rt) (n0 : Int) (ds : Ds) (w : World) : Prop :=
 IntKind.i64 = IntKind.i64 /\ (4 : Int) ≠ 0 /\
 IntKind.i64 = IntKind.i64 /\ (100 : Int) ≠ 0 /\
 IntKind.i64 = IntKind.i64 /\ (400 : Int) ≠ 0 /\
 runD prog ds w fun w1 =>
 R (.returned (.int .i64 (IntKind.i64.wrap ((IntKind.i64.wrap ((IntKind.i64.wrap ((IntKind.i64.wrap ((365 : Int) * (IntKind.i64.wrap (n0 - 1)))) + (IntKind.i64.wrap ((IntKind.i64.wrap (n0 - 1)).tdiv 4)))) - (IntKind.i64.wrap ((IntKind.i64.wrap (n0 - 1)).tdiv 100)))) + (IntKind.i64.wrap ((IntKind.i64.wrap (n0 - 1)).tdiv 400)))))) w1
theorem c180_l : flat (bodyOf f180) = [c180_0, c180_1, c180_2, c180_3] := by kernel_rfl
theorem F180_1_ok (R : Rt) (n0 : Int) (ds : Ds) (w : World) (E : Env) (e0 : E 0 = .int .i64 n0) (h : F180_1 R n0 ds w) :
    TrL prog f180.ntmps [c180_0, c180_1, c180_2, c180_3] (F180_q1 R) E ds w :=
  TrL_leaf (X := F180_1 R n0 ds w) (setAll_cons e0 setAll_nil) (by kernel_rfl) (by kernel_rfl) h
theorem F180_calls (n0 : Int) (w : World) (R : Rt) (h : F180_1 R n0 [] w) : Calls prog 180 #[.int .i64 n0] w R :=
  calls_of_L (l := [c180_0, c180_1, c180_2, c180_3]) func180 (by kernel_rfl) (by rw [ntmps180]; exact Nat.le_of_ble_eq_true (by kernel_rfl)) c180_l
    (F180_1_ok R n0 [] w _ rfl h)
noncomputable def c169_0 := cI5 f169 0
noncomputable def c169_1 := cI5 f169 1
noncomputable def c169_2 := cI5 f169 2
noncomputable def c169_3 := cI5 f169 3
noncomputable def c169_4 := cI5 f169 4
noncomputable def c169_5 := cI5 f169 5
noncomputable def c169_6 := cI5 f169 6
noncomputable def c169_7 := cI5 f169 7
noncomputable def c169_5_0 := cJ5 c169_5 0
noncomputable def c169_5_0_0 := cJ5 c169_5_0 0
noncomputable def c169_5_0_1 := cJ5 c169_5_0 1
noncomputable def c169_5_0_2 := cJ5 c169_5_0 2
noncomputable def c169_5_0_3 := cJ5 c169_5_0 3
def F169_q1 (R : Rt) : EQ := endQ prog f169.results.toList R
def F169_1 (R : Rt) (n8 : Int) (ds : Ds) (w : World) : Prop :=
 runD prog ds w fun w1 =>
 R (.returned (.tuple #[.int .i64 n8, .int .i64 0])) w1
def F169_k2 (R : Rt) : EP := (fun E ds w => dInt .i64 (E 8) fun n8 => F169_1 R n8 ds w)
def F169_q3 (R : Rt) : EQ := (thenQ (F169_k2 R) (F169_q1 R))
def F169_q4 (R : Rt) : EQ := (blockQ 0 (F169_q3 R))
def F169_q5 (R : Rt) (J1 : (Int × Int) -> World -> Prop) : EQ := (thenQ (fun E _ w => dInt .i64 (E 8) fun n8 => dInt .i64 (E 41) fun n41 => J1 (n8, n41) w) (F169_q4 R))
def F169_2 (R : Rt) (J1 : (Int × Int) -> World -> Prop) (n0 n8 n40 n41 : Int) (ds : Ds) (w : World) : Prop :=
 Br (decide (n41 < n40)) (
 Calls prog 179 #[.int .i64 n0, .int .i64 (IntKind.i64.wrap (n41 + 1))] w fun e w2 =>
 ∃ n48 : Int, e = .returned (.int .i64 n48) /\
 J1 ((IntKind.i64.wrap (n8 + n48)), (IntKind.i64.wrap (n41 + 1))) w2) (
 F169_1 R n8 ds w)
def F169_3 (R : Rt) (n0 n8 n40 n41 : Int) (ds : Ds) (w : World) : Prop :=
 loopT (fun (J1 : (Int × Int) -> World -> Prop) (s : Int × Int) (w : World) => F169_2 R J1 n0 s.1 n40 s.2 ds w) (n8, n41) w
abbrev F169_4 (R : Rt) (n0 n8 n40 n41 : Int) (ds : Ds) (w : World) : Prop := F169_3 R n0 n8 n40 n41 ds w
def F169_k6 (R : Rt) : EP := (fun E ds w => dInt .i64 (E 0) fun n0 => dInt .i64 (E 8) fun n8 => dInt .i64 (E 40) fun n40 => dInt .i64 (E 41) fun n41 => F169_4 R n0 n8 n40 n41 ds w)
def F169_5 (R : Rt) (n0 n1 n2 : Int) (b34 : Bool) (ds : Ds) (w : World) : Prop :=
 Br b34 (
 runD prog ds w fun w3 =>
 R (.returned (.tuple #[.int .i64 0, .int .i64 1])) w3) (
 Calls prog 180 #[.int .i64 n0] w fun e w4 =>
 ∃ n36 : Int, e = .returned (.int .i64 n36) /\
 F169_4 R n0 (IntKind.i64.wrap (n36 + n2)) (IntKind.i64.wrap (n1 - 1)) 0 ds w4)
def F169_k7 (R : Rt) : EP := (fun E ds w => dInt .i64 (E 0) fun n0 => dInt .i64 (E 1) fun n1 => dInt .i64 (E 2) fun n2 => dBl (E 34) fun b34 => F169_5 R n0 n1 n2 b34 ds w)
def F169_6 (R : Rt) (n0 n1 n2 : Int) (ds : Ds) (w : World) : Prop :=
 Br (decide (n0 < 1)) (
 F169_5 R n0 n1 n2 true ds w) (
 Br (decide (n0 > 9999)) (
 F169_5 R n0 n1 n2 true ds w) (
 Br (decide (n1 < 1)) (
 F169_5 R n0 n1 n2 true ds w) (
 Br (decide (n1 > 12)) (
 F169_5 R n0 n1 n2 true ds w) (
 Br (decide (n2 < 1)) (
 F169_5 R n0 n1 n2 true ds w) (
 Calls prog 179 #[.int .i64 n0, .int .i64 n1] w fun e w5 =>
 ∃ n32 : Int, e = .returned (.int .i64 n32) /\
 F169_5 R n0 n1 n2 (decide (n2 > n32)) ds w5)))))
def F169_k8 (R : Rt) : EP := (fun E ds w => dInt .i64 (E 0) fun n0 => dInt .i64 (E 1) fun n1 => dInt .i64 (E 2) fun n2 => F169_6 R n0 n1 n2 ds w)
def F169_7 (R : Rt) (n0 n1 n2 : Int) (ds : Ds) (w : World) : Prop :=
 F169_6 R n0 n1 n2 ds w
theorem c169_l : flat (bodyOf f169) = [c169_0, c169_1, c169_2, c169_3, c169_4, c169_5, c169_6, c169_7] := by kernel_rfl
theorem c169_5_l : flat (innerC c169_5) = [c169_5_0] := by kernel_rfl
theorem c169_5_0_l : flat (innerC c169_5_0) = [c169_5_0_0, c169_5_0_1, c169_5_0_2, c169_5_0_3] := by kernel_rfl
theorem F169_1_ok (R : Rt) (n8 : Int) (ds : Ds) (w : World) (E : Env) (e8 : E 8 = .int .i64 n8) (h : F169_1 R n8 ds w) :
    TrL prog f169.ntmps [c169_6, c169_7] (F169_q1 R) E ds w :=
  TrL_leaf (X := F169_1 R n8 ds w) (setAll_cons e8 setAll_nil) (by kernel_rfl) (by kernel_rfl) h
theorem F169_2_ok (R : Rt) (J1 : (Int × Int) -> World -> Prop) (n0 n8 n40 n41 : Int) (ds : Ds) (w : World) (E : Env) (e0 : E 0 = .int .i64 n0) (e8 : E 8 = .int .i64 n8) (e40 : E 40 = .int .i64 n40) (e41 : E 41 = .int .i64 n41) (h : F169_2 R J1 n0 n8 n40 n41 ds w) :
    TrL prog f169.ntmps [c169_5_0_0, c169_5_0_1, c169_5_0_2, c169_5_0_3] (F169_q5 R J1) E ds w :=
  TrL_leaf (X := F169_2 R J1 n0 n8 n40 n41 ds w) (setAll_cons e0 (setAll_cons e8 (setAll_cons e40 (setAll_cons e41 setAll_nil)))) (by kernel_rfl) (by kernel_rfl) h
theorem F169_3_ok (R : Rt) (n0 n8 n40 n41 : Int) (ds : Ds) (w : World) (E : Env) (e0 : E 0 = .int .i64 n0) (e8 : E 8 = .int .i64 n8) (e40 : E 40 = .int .i64 n40) (e41 : E 41 = .int .i64 n41) (h : F169_3 R n0 n8 n40 n41 ds w) :
    TrL prog f169.ntmps [c169_5_0] (F169_q4 R) E ds w :=
  TrL_one (Tr_loop' (c := innerC c169_5_0) (σ := Int × Int) (enc := (fun (s : Int × Int) (E : Env) => E 8 = .int .i64 s.1 /\ E 41 = .int .i64 s.2)) (D := (fun E K => dInt .i64 (E 8) fun n8 => dInt .i64 (E 41) fun n41 => K (n8, n41))) (F := (fun (J1 : (Int × Int) -> World -> Prop) (s : Int × Int) (w : World) => F169_2 R J1 n0 s.1 n40 s.2 ds w)) (s0 := (n8, n41)) (by kernel_rfl) c169_5_0_l ⟨e8, e41⟩ (by kernel_rfl) (fun E K hD => by obtain ⟨n8, e8, hD⟩ := dInt_elim hD; obtain ⟨n41, e41, hD⟩ := dInt_elim hD; exact ⟨(n8, n41), ⟨e8, e41⟩, hD⟩)
      (fun J1 s E' w' he ha hF => by
      obtain ⟨e8', e41'⟩ := he
      exact F169_2_ok R J1 n0 s.1 n40 s.2 ds w' E' ((ha 0 (by kernel_rfl)).trans e0) e8' ((ha 40 (by kernel_rfl)).trans e40) e41' hF) h)
theorem F169_4_ok (R : Rt) (n0 n8 n40 n41 : Int) (ds : Ds) (w : World) (E : Env) (e0 : E 0 = .int .i64 n0) (e8 : E 8 = .int .i64 n8) (e40 : E 40 = .int .i64 n40) (e41 : E 41 = .int .i64 n41) (h : F169_4 R n0 n8 n40 n41 ds w) :
    TrL prog f169.ntmps [c169_5, c169_6, c169_7] (F169_q1 R) E ds w :=
  TrL_head (K := (F169_k2 R)) (Tr_block' (c := innerC c169_5) (by kernel_rfl) c169_5_l (F169_3_ok R n0 n8 n40 n41 ds w E e0 e8 e40 e41 h))
    (fun E' ds' w' hD => by
      obtain ⟨n8, e8, hD⟩ := dInt_elim hD; exact F169_1_ok R n8 ds' w' E' e8 hD)
theorem F169_5_ok (R : Rt) (n0 n1 n2 : Int) (b34 : Bool) (ds : Ds) (w : World) (E : Env) (e0 : E 0 = .int .i64 n0) (e1 : E 1 = .int .i64 n1) (e2 : E 2 = .int .i64 n2) (e34 : E 34 = .bool b34) (h : F169_5 R n0 n1 n2 b34 ds w) :
    TrL prog f169.ntmps [c169_2, c169_3, c169_4, c169_5, c169_6, c169_7] (F169_q1 R) E ds w :=
  TrL_piece (pre := [c169_2, c169_3, c169_4]) (K := (F169_k6 R)) (X := F169_5 R n0 n1 n2 b34 ds w) (setAll_cons e0 (setAll_cons e1 (setAll_cons e2 (setAll_cons e34 setAll_nil)))) (by kernel_rfl) (by kernel_rfl)
    (fun E' ds' w' hD => by
      obtain ⟨n0, e0, hD⟩ := dInt_elim hD; obtain ⟨n8, e8, hD⟩ := dInt_elim hD; obtain ⟨n40, e40, hD⟩ := dInt_elim hD; obtain ⟨n41, e41, hD⟩ := dInt_elim hD; exact F169_4_ok R n0 n8 n40 n41 ds' w' E' e0 e8 e40 e41 hD) h
theorem F169_6_ok (R : Rt) (n0 n1 n2 : Int) (ds : Ds) (w : World) (E : Env) (e0 : E 0 = .int .i64 n0) (e1 : E 1 = .int .i64 n1) (e2 : E 2 = .int .i64 n2) (h : F169_6 R n0 n1 n2 ds w) :
    TrL prog f169.ntmps [c169_1, c169_2, c169_3, c169_4, c169_5, c169_6, c169_7] (F169_q1 R) E ds w :=
  TrL_piece (pre := [c169_1]) (K := (F169_k7 R)) (X := F169_6 R n0 n1 n2 ds w) (setAll_cons e0 (setAll_cons e1 (setAll_cons e2 setAll_nil))) (by kernel_rfl) (by kernel_rfl)
    (fun E' ds' w' hD => by
      obtain ⟨n0, e0, hD⟩ := dInt_elim hD; obtain ⟨n1, e1, hD⟩ := dInt_elim hD; obtain ⟨n2, e2, hD⟩ := dInt_elim hD; obtain ⟨b34, e34, hD⟩ := dBl_elim hD; exact F169_5_ok R n0 n1 n2 b34 ds' w' E' e0 e1 e2 e34 hD) h
theorem F169_7_ok (R : Rt) (n0 n1 n2 : Int) (ds : Ds) (w : World) (E : Env) (e0 : E 0 = .int .i64 n0) (e1 : E 1 = .int .i64 n1) (e2 : E 2 = .int .i64 n2) (h : F169_7 R n0 n1 n2 ds w) :
    TrL prog f169.ntmps [c169_0, c169_1, c169_2, c169_3, c169_4, c169_5, c169_6, c169_7] (F169_q1 R) E ds w :=
  TrL_piece (pre := [c169_0]) (K := (F169_k8 R)) (X := F169_7 R n0 n1 n2 ds w) (setAll_cons e0 (setAll_cons e1 (setAll_cons e2 setAll_nil))) (by kernel_rfl) (by kernel_rfl)
    (fun E' ds' w' hD => by
      obtain ⟨n0, e0, hD⟩ := dInt_elim hD; obtain ⟨n1, e1, hD⟩ := dInt_elim hD; obtain ⟨n2, e2, hD⟩ := dInt_elim hD; exact F169_6_ok R n0 n1 n2 ds' w' E' e0 e1 e2 hD) h
theorem F169_calls (n0 n1 n2 : Int) (w : World) (R : Rt) (h : F169_7 R n0 n1 n2 [] w) : Calls prog 169 #[.int .i64 n0, .int .i64 n1, .int .i64 n2] w R :=
  calls_of_L (l := [c169_0, c169_1, c169_2, c169_3, c169_4, c169_5, c169_6, c169_7]) func169 (by kernel_rfl) (by rw [ntmps169]; exact Nat.le_of_ble_eq_true (by kernel_rfl)) c169_l
    (F169_7_ok R n0 n1 n2 [] w _ rfl rfl rfl h)
noncomputable def c177_0 := cI5 f177 0
noncomputable def c177_1 := cI5 f177 1
noncomputable def c177_2 := cI5 f177 2
noncomputable def c177_3 := cI5 f177 3
noncomputable def c177_4 := cI5 f177 4
noncomputable def c177_5 := cI5 f177 5
noncomputable def c177_6 := cI5 f177 6
noncomputable def c177_7 := cI5 f177 7
noncomputable def c177_8 := cI5 f177 8
noncomputable def c177_9 := cI5 f177 9
noncomputable def c177_10 := cI5 f177 10
noncomputable def c177_8_0 := cJ5 c177_8 0
noncomputable def c177_8_0_0 := cJ5 c177_8_0 0
noncomputable def c177_8_0_1 := cJ5 c177_8_0 1
noncomputable def c177_8_0_2 := cJ5 c177_8_0 2
noncomputable def c177_6_0 := cJ5 c177_6 0
noncomputable def c177_6_0_0 := cJ5 c177_6_0 0
noncomputable def c177_6_0_1 := cJ5 c177_6_0 1
noncomputable def c177_6_0_2 := cJ5 c177_6_0 2
def F177_q1 (R : Rt) : EQ := endQ prog f177.results.toList R
def F177_1 (R : Rt) (n6 n7 n8 : Int) (ds : Ds) (w : World) : Prop :=
 runD prog ds w fun w1 =>
 R (.returned (.tuple #[.int .i64 n6, .int .i64 n8, .int .i64 n7, .int .i64 0])) w1
def F177_k2 (R : Rt) : EP := (fun E ds w => dInt .i64 (E 6) fun n6 => dInt .i64 (E 7) fun n7 => dInt .i64 (E 8) fun n8 => F177_1 R n6 n7 n8 ds w)
def F177_q3 (R : Rt) : EQ := (thenQ (F177_k2 R) (F177_q1 R))
def F177_q4 (R : Rt) : EQ := (blockQ 2 (F177_q3 R))
def F177_q5 (R : Rt) (J1 : (Int × Int) -> World -> Prop) : EQ := (thenQ (fun E _ w => dInt .i64 (E 7) fun n7 => dInt .i64 (E 8) fun n8 => J1 (n7, n8) w) (F177_q4 R))
def F177_2 (R : Rt) (J1 : (Int × Int) -> World -> Prop) (n6 n7 n8 : Int) (ds : Ds) (w : World) : Prop :=
 Calls prog 179 #[.int .i64 n6, .int .i64 n8] w fun e w2 =>
 ∃ n31 : Int, e = .returned (.int .i64 n31) /\
 Br (decide (n7 > n31)) (
 Calls prog 179 #[.int .i64 n6, .int .i64 n8] w2 fun e w3 =>
 ∃ n36 : Int, e = .returned (.int .i64 n36) /\
 J1 ((IntKind.i64.wrap (n7 - n36)), (IntKind.i64.wrap (n8 + 1))) w3) (
 F177_1 R n6 n7 n8 ds w2)
def F177_3 (R : Rt) (n6 n7 n8 : Int) (ds : Ds) (w : World) : Prop :=
 loopT (fun (J1 : (Int × Int) -> World -> Prop) (s : Int × Int) (w : World) => F177_2 R J1 n6 s.1 s.2 ds w) (n7, n8) w
abbrev F177_4 (R : Rt) (n6 n7 n8 : Int) (ds : Ds) (w : World) : Prop := F177_3 R n6 n7 n8 ds w
def F177_k6 (R : Rt) : EP := (fun E ds w => dInt .i64 (E 6) fun n6 => dInt .i64 (E 7) fun n7 => dInt .i64 (E 8) fun n8 => F177_4 R n6 n7 n8 ds w)
def F177_5 (R : Rt) (n0 n6 : Int) (ds : Ds) (w : World) : Prop :=
 Calls prog 180 #[.int .i64 n6] w fun e w4 =>
 ∃ n26 : Int, e = .returned (.int .i64 n26) /\
 F177_4 R n6 (IntKind.i64.wrap (n0 - n26)) 1 ds w4
def F177_k7 (R : Rt) : EP := (fun E ds w => dInt .i64 (E 0) fun n0 => dInt .i64 (E 6) fun n6 => F177_5 R n0 n6 ds w)
def F177_q8 (R : Rt) : EQ := (thenQ (F177_k7 R) (F177_q1 R))
def F177_q9 (R : Rt) : EQ := (blockQ 0 (F177_q8 R))
def F177_q10 (R : Rt) (J1 : (Int) -> World -> Prop) : EQ := (thenQ (fun E _ w => dInt .i64 (E 6) fun n6 => J1 n6 w) (F177_q9 R))
def F177_6 (R : Rt) (J1 : (Int) -> World -> Prop) (n0 n6 : Int) (ds : Ds) (w : World) : Prop :=
 Calls prog 180 #[.int .i64 (IntKind.i64.wrap (n6 + 1))] w fun e w5 =>
 ∃ n19 : Int, e = .returned (.int .i64 n19) /\
 Br (decide (n19 < n0)) (
 J1 (IntKind.i64.wrap (n6 + 1)) w5) (
 F177_5 R n0 n6 ds w5)
def F177_7 (R : Rt) (n0 n6 : Int) (ds : Ds) (w : World) : Prop :=
 loopT (fun (J1 : (Int) -> World -> Prop) (s : Int) (w : World) => F177_6 R J1 n0 s ds w) n6 w
abbrev F177_8 (R : Rt) (n0 n6 : Int) (ds : Ds) (w : World) : Prop := F177_7 R n0 n6 ds w
def F177_k11 (R : Rt) : EP := (fun E ds w => dInt .i64 (E 0) fun n0 => dInt .i64 (E 6) fun n6 => F177_8 R n0 n6 ds w)
def F177_9 (R : Rt) (n0 : Int) (ds : Ds) (w : World) : Prop :=
 Calls prog 136 #[.int .i64 n0] w fun e w6 =>
 ∃ b10 : Bool, e = .returned (.bool b10) /\
 Br (!b10) (
 runD prog ds w6 fun w7 =>
 R (.returned (.tuple #[.int .i64 0, .int .i64 0, .int .i64 0, .int .i64 1])) w7) (
 Br (n0 == 0) (
 runD prog ds w6 fun w8 =>
 R (.returned (.tuple #[.int .i64 0, .int .i64 0, .int .i64 0, .int .i64 0])) w8) (
 IntKind.i64 = IntKind.i64 /\ (366 : Int) ≠ 0 /\
 F177_8 R n0 (IntKind.i64.wrap ((IntKind.i64.wrap (n0.tdiv 366)) + 1)) ds w6))
theorem c177_l : flat (bodyOf f177) = [c177_0, c177_1, c177_2, c177_3, c177_4, c177_5, c177_6, c177_7, c177_8, c177_9, c177_10] := by kernel_rfl
theorem c177_8_l : flat (innerC c177_8) = [c177_8_0] := by kernel_rfl
theorem c177_8_0_l : flat (innerC c177_8_0) = [c177_8_0_0, c177_8_0_1, c177_8_0_2] := by kernel_rfl
theorem c177_6_l : flat (innerC c177_6) = [c177_6_0] := by kernel_rfl
theorem c177_6_0_l : flat (innerC c177_6_0) = [c177_6_0_0, c177_6_0_1, c177_6_0_2] := by kernel_rfl
theorem F177_1_ok (R : Rt) (n6 n7 n8 : Int) (ds : Ds) (w : World) (E : Env) (e6 : E 6 = .int .i64 n6) (e7 : E 7 = .int .i64 n7) (e8 : E 8 = .int .i64 n8) (h : F177_1 R n6 n7 n8 ds w) :
    TrL prog f177.ntmps [c177_9, c177_10] (F177_q1 R) E ds w :=
  TrL_leaf (X := F177_1 R n6 n7 n8 ds w) (setAll_cons e6 (setAll_cons e7 (setAll_cons e8 setAll_nil))) (by kernel_rfl) (by kernel_rfl) h
theorem F177_2_ok (R : Rt) (J1 : (Int × Int) -> World -> Prop) (n6 n7 n8 : Int) (ds : Ds) (w : World) (E : Env) (e6 : E 6 = .int .i64 n6) (e7 : E 7 = .int .i64 n7) (e8 : E 8 = .int .i64 n8) (h : F177_2 R J1 n6 n7 n8 ds w) :
    TrL prog f177.ntmps [c177_8_0_0, c177_8_0_1, c177_8_0_2] (F177_q5 R J1) E ds w :=
  TrL_leaf (X := F177_2 R J1 n6 n7 n8 ds w) (setAll_cons e6 (setAll_cons e7 (setAll_cons e8 setAll_nil))) (by kernel_rfl) (by kernel_rfl) h
theorem F177_3_ok (R : Rt) (n6 n7 n8 : Int) (ds : Ds) (w : World) (E : Env) (e6 : E 6 = .int .i64 n6) (e7 : E 7 = .int .i64 n7) (e8 : E 8 = .int .i64 n8) (h : F177_3 R n6 n7 n8 ds w) :
    TrL prog f177.ntmps [c177_8_0] (F177_q4 R) E ds w :=
  TrL_one (Tr_loop' (c := innerC c177_8_0) (σ := Int × Int) (enc := (fun (s : Int × Int) (E : Env) => E 7 = .int .i64 s.1 /\ E 8 = .int .i64 s.2)) (D := (fun E K => dInt .i64 (E 7) fun n7 => dInt .i64 (E 8) fun n8 => K (n7, n8))) (F := (fun (J1 : (Int × Int) -> World -> Prop) (s : Int × Int) (w : World) => F177_2 R J1 n6 s.1 s.2 ds w)) (s0 := (n7, n8)) (by kernel_rfl) c177_8_0_l ⟨e7, e8⟩ (by kernel_rfl) (fun E K hD => by obtain ⟨n7, e7, hD⟩ := dInt_elim hD; obtain ⟨n8, e8, hD⟩ := dInt_elim hD; exact ⟨(n7, n8), ⟨e7, e8⟩, hD⟩)
      (fun J1 s E' w' he ha hF => by
      obtain ⟨e7', e8'⟩ := he
      exact F177_2_ok R J1 n6 s.1 s.2 ds w' E' ((ha 6 (by kernel_rfl)).trans e6) e7' e8' hF) h)
theorem F177_4_ok (R : Rt) (n6 n7 n8 : Int) (ds : Ds) (w : World) (E : Env) (e6 : E 6 = .int .i64 n6) (e7 : E 7 = .int .i64 n7) (e8 : E 8 = .int .i64 n8) (h : F177_4 R n6 n7 n8 ds w) :
    TrL prog f177.ntmps [c177_8, c177_9, c177_10] (F177_q1 R) E ds w :=
  TrL_head (K := (F177_k2 R)) (Tr_block' (c := innerC c177_8) (by kernel_rfl) c177_8_l (F177_3_ok R n6 n7 n8 ds w E e6 e7 e8 h))
    (fun E' ds' w' hD => by
      obtain ⟨n6, e6, hD⟩ := dInt_elim hD; obtain ⟨n7, e7, hD⟩ := dInt_elim hD; obtain ⟨n8, e8, hD⟩ := dInt_elim hD; exact F177_1_ok R n6 n7 n8 ds' w' E' e6 e7 e8 hD)
theorem F177_5_ok (R : Rt) (n0 n6 : Int) (ds : Ds) (w : World) (E : Env) (e0 : E 0 = .int .i64 n0) (e6 : E 6 = .int .i64 n6) (h : F177_5 R n0 n6 ds w) :
    TrL prog f177.ntmps [c177_7, c177_8, c177_9, c177_10] (F177_q1 R) E ds w :=
  TrL_piece (pre := [c177_7]) (K := (F177_k6 R)) (X := F177_5 R n0 n6 ds w) (setAll_cons e0 (setAll_cons e6 setAll_nil)) (by kernel_rfl) (by kernel_rfl)
    (fun E' ds' w' hD => by
      obtain ⟨n6, e6, hD⟩ := dInt_elim hD; obtain ⟨n7, e7, hD⟩ := dInt_elim hD; obtain ⟨n8, e8, hD⟩ := dInt_elim hD; exact F177_4_ok R n6 n7 n8 ds' w' E' e6 e7 e8 hD) h
theorem F177_6_ok (R : Rt) (J1 : (Int) -> World -> Prop) (n0 n6 : Int) (ds : Ds) (w : World) (E : Env) (e0 : E 0 = .int .i64 n0) (e6 : E 6 = .int .i64 n6) (h : F177_6 R J1 n0 n6 ds w) :
    TrL prog f177.ntmps [c177_6_0_0, c177_6_0_1, c177_6_0_2] (F177_q10 R J1) E ds w :=
  TrL_leaf (X := F177_6 R J1 n0 n6 ds w) (setAll_cons e0 (setAll_cons e6 setAll_nil)) (by kernel_rfl) (by kernel_rfl) h
theorem F177_7_ok (R : Rt) (n0 n6 : Int) (ds : Ds) (w : World) (E : Env) (e0 : E 0 = .int .i64 n0) (e6 : E 6 = .int .i64 n6) (h : F177_7 R n0 n6 ds w) :
    TrL prog f177.ntmps [c177_6_0] (F177_q9 R) E ds w :=
  TrL_one (Tr_loop' (c := innerC c177_6_0) (σ := Int) (enc := (fun (s : Int) (E : Env) => E 6 = .int .i64 s)) (D := (fun E K => dInt .i64 (E 6) fun n6 => K n6)) (F := (fun (J1 : (Int) -> World -> Prop) (s : Int) (w : World) => F177_6 R J1 n0 s ds w)) (s0 := n6) (by kernel_rfl) c177_6_0_l e6 (by kernel_rfl) (fun E K hD => by obtain ⟨n6, e6, hD⟩ := dInt_elim hD; exact ⟨n6, e6, hD⟩)
      (fun J1 s E' w' he ha hF => by
      have e6' := he
      exact F177_6_ok R J1 n0 s ds w' E' ((ha 0 (by kernel_rfl)).trans e0) e6' hF) h)
theorem F177_8_ok (R : Rt) (n0 n6 : Int) (ds : Ds) (w : World) (E : Env) (e0 : E 0 = .int .i64 n0) (e6 : E 6 = .int .i64 n6) (h : F177_8 R n0 n6 ds w) :
    TrL prog f177.ntmps [c177_6, c177_7, c177_8, c177_9, c177_10] (F177_q1 R) E ds w :=
  TrL_head (K := (F177_k7 R)) (Tr_block' (c := innerC c177_6) (by kernel_rfl) c177_6_l (F177_7_ok R n0 n6 ds w E e0 e6 h))
    (fun E' ds' w' hD => by
      obtain ⟨n0, e0, hD⟩ := dInt_elim hD; obtain ⟨n6, e6, hD⟩ := dInt_elim hD; exact F177_5_ok R n0 n6 ds' w' E' e0 e6 hD)
theorem F177_9_ok (R : Rt) (n0 : Int) (ds : Ds) (w : World) (E : Env) (e0 : E 0 = .int .i64 n0) (h : F177_9 R n0 ds w) :
    TrL prog f177.ntmps [c177_0, c177_1, c177_2, c177_3, c177_4, c177_5, c177_6, c177_7, c177_8, c177_9, c177_10] (F177_q1 R) E ds w :=
  TrL_piece (pre := [c177_0, c177_1, c177_2, c177_3, c177_4, c177_5]) (K := (F177_k11 R)) (X := F177_9 R n0 ds w) (setAll_cons e0 setAll_nil) (by kernel_rfl) (by kernel_rfl)
    (fun E' ds' w' hD => by
      obtain ⟨n0, e0, hD⟩ := dInt_elim hD; obtain ⟨n6, e6, hD⟩ := dInt_elim hD; exact F177_8_ok R n0 n6 ds' w' E' e0 e6 hD) h
theorem F177_calls (n0 : Int) (w : World) (R : Rt) (h : F177_9 R n0 [] w) : Calls prog 177 #[.int .i64 n0] w R :=
  calls_of_L (l := [c177_0, c177_1, c177_2, c177_3, c177_4, c177_5, c177_6, c177_7, c177_8, c177_9, c177_10]) func177 (by kernel_rfl) (by rw [ntmps177]; exact Nat.le_of_ble_eq_true (by kernel_rfl)) c177_l
    (F177_9_ok R n0 [] w _ rfl h)
noncomputable def c178_0 := cI5 f178 0
noncomputable def c178_1 := cI5 f178 1
noncomputable def c178_2 := cI5 f178 2
noncomputable def c178_3 := cI5 f178 3
def F178_q1 (R : Rt) : EQ := endQ prog f178.results.toList R
def F178_1 (R : Rt) (n0 n1 : Int) (ds : Ds) (w : World) : Prop :=
 Calls prog 98 #[.int .i64 n0] w fun e w1 =>
 ∃ s7 : ByteArray, e = .returned (.string s7) /\
 Calls prog 99 #[.string (⟨#[48]⟩ : ByteArray), .int .i64 (IntKind.i64.wrap (n1 - (s7.size : Int)))] w1 fun e w2 =>
 ∃ s12 : ByteArray, e = .returned (.string s12) /\
 ((s12.size + s7.size : Nat) : Int) ≤ 9223372036854775807 /\
 runD prog ds w2 fun w3 =>
 R (.returned (.string (s12 ++ s7))) w3
theorem c178_l : flat (bodyOf f178) = [c178_0, c178_1, c178_2, c178_3] := by kernel_rfl
theorem F178_1_ok (R : Rt) (n0 n1 : Int) (ds : Ds) (w : World) (E : Env) (e0 : E 0 = .int .i64 n0) (e1 : E 1 = .int .i64 n1) (h : F178_1 R n0 n1 ds w) :
    TrL prog f178.ntmps [c178_0, c178_1, c178_2, c178_3] (F178_q1 R) E ds w :=
  TrL_leaf (X := F178_1 R n0 n1 ds w) (setAll_cons e0 (setAll_cons e1 setAll_nil)) (by kernel_rfl) (by kernel_rfl) h
theorem F178_calls (n0 n1 : Int) (w : World) (R : Rt) (h : F178_1 R n0 n1 [] w) : Calls prog 178 #[.int .i64 n0, .int .i64 n1] w R :=
  calls_of_L (l := [c178_0, c178_1, c178_2, c178_3]) func178 (by kernel_rfl) (by rw [ntmps178]; exact Nat.le_of_ble_eq_true (by kernel_rfl)) c178_l
    (F178_1_ok R n0 n1 [] w _ rfl rfl h)
noncomputable def c167_0 := cI5 f167 0
noncomputable def c167_1 := cI5 f167 1
noncomputable def c167_2 := cI5 f167 2
noncomputable def c167_3 := cI5 f167 3
def F167_q1 (R : Rt) : EQ := endQ prog f167.results.toList R
def F167_1 (R : Rt) (n0 : Int) (ds : Ds) (w : World) : Prop :=
 Calls prog 177 #[.int .i64 n0] w fun e w1 =>
 ∃ n9_0 : Int, ∃ n9_1 : Int, ∃ n9_2 : Int, ∃ n9_3 : Int, e = .returned (.tuple #[.int .i64 n9_0, .int .i64 n9_1, .int .i64 n9_2, .int .i64 n9_3]) /\
 Calls prog 178 #[.int .i64 n9_0, .int .i64 4] w1 fun e w2 =>
 ∃ s15 : ByteArray, e = .returned (.string s15) /\
 Calls prog 178 #[.int .i64 n9_1, .int .i64 2] w2 fun e w3 =>
 ∃ s17 : ByteArray, e = .returned (.string s17) /\
 ((s15.size + s17.size : Nat) : Int) ≤ 9223372036854775807 /\
 Calls prog 178 #[.int .i64 n9_2, .int .i64 2] w3 fun e w4 =>
 ∃ s20 : ByteArray, e = .returned (.string s20) /\
 (((s15 ++ s17).size + s20.size : Nat) : Int) ≤ 9223372036854775807 /\
 runD prog ds w4 fun w5 =>
 R (.returned (.string ((s15 ++ s17) ++ s20))) w5
theorem c167_l : flat (bodyOf f167) = [c167_0, c167_1, c167_2, c167_3] := by kernel_rfl
theorem F167_1_ok (R : Rt) (n0 : Int) (ds : Ds) (w : World) (E : Env) (e0 : E 0 = .int .i64 n0) (h : F167_1 R n0 ds w) :
    TrL prog f167.ntmps [c167_0, c167_1, c167_2, c167_3] (F167_q1 R) E ds w :=
  TrL_leaf (X := F167_1 R n0 ds w) (setAll_cons e0 setAll_nil) (by kernel_rfl) (by kernel_rfl) h
theorem F167_calls (n0 : Int) (w : World) (R : Rt) (h : F167_1 R n0 [] w) : Calls prog 167 #[.int .i64 n0] w R :=
  calls_of_L (l := [c167_0, c167_1, c167_2, c167_3]) func167 (by kernel_rfl) (by rw [ntmps167]; exact Nat.le_of_ble_eq_true (by kernel_rfl)) c167_l
    (F167_1_ok R n0 [] w _ rfl h)
noncomputable def c156_0 := cI5 f156 0
noncomputable def c156_1 := cI5 f156 1
noncomputable def c156_2 := cI5 f156 2
noncomputable def c156_3 := cI5 f156 3
noncomputable def c156_4 := cI5 f156 4
noncomputable def c156_5 := cI5 f156 5
noncomputable def c156_6 := cI5 f156 6
def F156_q1 (R : Rt) : EQ := endQ prog f156.results.toList R
def F156_1 (R : Rt) (n0 : Int) (ds : Ds) (w : World) : Prop :=
 Calls prog 136 #[.int .i64 n0] w fun e w1 =>
 ∃ b5 : Bool, e = .returned (.bool b5) /\
 Br (!b5) (
 runD prog ds w1 fun w2 =>
 R (.returned (.tuple #[.string (⟨#[]⟩ : ByteArray), .int .i64 1])) w2) (
 Br (n0 == 0) (
 runD prog ds w1 fun w3 =>
 R (.returned (.tuple #[.string (⟨#[32, 32, 32, 32, 32, 32, 32, 32]⟩ : ByteArray), .int .i64 0])) w3) (
 Calls prog 167 #[.int .i64 n0] w1 fun e w4 =>
 ∃ s10 : ByteArray, e = .returned (.string s10) /\
 runD prog ds w4 fun w5 =>
 R (.returned (.tuple #[.string s10, .int .i64 0])) w5))
theorem c156_l : flat (bodyOf f156) = [c156_0, c156_1, c156_2, c156_3, c156_4, c156_5, c156_6] := by kernel_rfl
theorem F156_1_ok (R : Rt) (n0 : Int) (ds : Ds) (w : World) (E : Env) (e0 : E 0 = .int .i64 n0) (h : F156_1 R n0 ds w) :
    TrL prog f156.ntmps [c156_0, c156_1, c156_2, c156_3, c156_4, c156_5, c156_6] (F156_q1 R) E ds w :=
  TrL_leaf (X := F156_1 R n0 ds w) (setAll_cons e0 setAll_nil) (by kernel_rfl) (by kernel_rfl) h
theorem F156_calls (n0 : Int) (w : World) (R : Rt) (h : F156_1 R n0 [] w) : Calls prog 156 #[.int .i64 n0] w R :=
  calls_of_L (l := [c156_0, c156_1, c156_2, c156_3, c156_4, c156_5, c156_6]) func156 (by kernel_rfl) (by rw [ntmps156]; exact Nat.le_of_ble_eq_true (by kernel_rfl)) c156_l
    (F156_1_ok R n0 [] w _ rfl h)
end Go.Proofs.YtecmfdfhpldmmaaGreatDoor

/- Shallow texts of functions, printed by program, each checked by the kernel against the loaded code. No condition. -/
set_option maxRecDepth 100000
set_option linter.unusedVariables false
namespace Go.Proofs.YtecmfdfhpldmmaaGreatDoor
open Go.Sh
open Tryz
@[reducible] noncomputable def cI6 (f : Func) (i : Nat) : Code := itemAt (flat (bodyOf f)) i
@[reducible] noncomputable def cJ6 (c : Code) (i : Nat) : Code := itemAt (flat (innerC c)) i
noncomputable def c181_0 := cI6 f181 0
noncomputable def c181_1 := cI6 f181 1
noncomputable def c181_2 := cI6 f181 2
def F181_q1 (R : Rt) : EQ := endQ prog f181.results.toList R
def F181_1 (R : Rt) (n0 : Int) (ds : Ds) (w : World) : Prop :=
 IntKind.i64 = IntKind.i64 /\ (4 : Int) ≠ 0 /\
 Br ((n0.tmod 4) == 0) (
 IntKind.i64 = IntKind.i64 /\ (100 : Int) ≠ 0 /\
 Br ((n0.tmod 100) != 0) (
 runD prog ds w fun w1 =>
 R (.returned (.bool true)) w1) (
 IntKind.i64 = IntKind.i64 /\ (400 : Int) ≠ 0 /\
 runD prog ds w fun w2 =>
 R (.returned (.bool ((n0.tmod 400) == 0))) w2)) (
 IntKind.i64 = IntKind.i64 /\ (400 : Int) ≠ 0 /\
 runD prog ds w fun w3 =>
 R (.returned (.bool ((n0.tmod 400) == 0))) w3)
theorem c181_l : flat (bodyOf f181) = [c181_0, c181_1, c181_2] := by kernel_rfl
theorem F181_1_ok (R : Rt) (n0 : Int) (ds : Ds) (w : World) (E : Env) (e0 : E 0 = .int .i64 n0) (h : F181_1 R n0 ds w) :
    TrL prog f181.ntmps [c181_0, c181_1, c181_2] (F181_q1 R) E ds w :=
  TrL_leaf (X := F181_1 R n0 ds w) (setAll_cons e0 setAll_nil) (by kernel_rfl) (by kernel_rfl) h
theorem F181_calls (n0 : Int) (w : World) (R : Rt) (h : F181_1 R n0 [] w) : Calls prog 181 #[.int .i64 n0] w R :=
  calls_of_L (l := [c181_0, c181_1, c181_2]) func181 (by kernel_rfl) (by rw [ntmps181]; exact Nat.le_of_ble_eq_true (by kernel_rfl)) c181_l
    (F181_1_ok R n0 [] w _ rfl h)
noncomputable def c170_0 := cI6 f170 0
noncomputable def c170_1 := cI6 f170 1
noncomputable def c170_2 := cI6 f170 2
noncomputable def c170_3 := cI6 f170 3
noncomputable def c170_4 := cI6 f170 4
noncomputable def c170_5 := cI6 f170 5
noncomputable def c170_6 := cI6 f170 6
def F170_q1 (R : Rt) : EQ := endQ prog f170.results.toList R
def F170_1 (R : Rt) (n0 n1 : Int) (ds : Ds) (w : World) : Prop :=
 Br (n1 == 2) (
 Calls prog 181 #[.int .i64 n0] w fun e w1 =>
 ∃ b8 : Bool, e = .returned (.bool b8) /\
 Br b8 (
 runD prog ds w1 fun w2 =>
 R (.returned (.int .i64 29)) w2) (
 runD prog ds w1 fun w3 =>
 R (.returned (.int .i64 28)) w3)) (
 Br (n1 == 4) (
 runD prog ds w fun w4 =>
 R (.returned (.int .i64 30)) w4) (
 Br (n1 == 6) (
 runD prog ds w fun w5 =>
 R (.returned (.int .i64 30)) w5) (
 Br (n1 == 9) (
 runD prog ds w fun w6 =>
 R (.returned (.int .i64 30)) w6) (
 Br (n1 == 11) (
 runD prog ds w fun w7 =>
 R (.returned (.int .i64 30)) w7) (
 runD prog ds w fun w8 =>
 R (.returned (.int .i64 31)) w8)))))
theorem c170_l : flat (bodyOf f170) = [c170_0, c170_1, c170_2, c170_3, c170_4, c170_5, c170_6] := by kernel_rfl
theorem F170_1_ok (R : Rt) (n0 n1 : Int) (ds : Ds) (w : World) (E : Env) (e0 : E 0 = .int .i64 n0) (e1 : E 1 = .int .i64 n1) (h : F170_1 R n0 n1 ds w) :
    TrL prog f170.ntmps [c170_0, c170_1, c170_2, c170_3, c170_4, c170_5, c170_6] (F170_q1 R) E ds w :=
  TrL_leaf (X := F170_1 R n0 n1 ds w) (setAll_cons e0 (setAll_cons e1 setAll_nil)) (by kernel_rfl) (by kernel_rfl) h
theorem F170_calls (n0 n1 : Int) (w : World) (R : Rt) (h : F170_1 R n0 n1 [] w) : Calls prog 170 #[.int .i64 n0, .int .i64 n1] w R :=
  calls_of_L (l := [c170_0, c170_1, c170_2, c170_3, c170_4, c170_5, c170_6]) func170 (by kernel_rfl) (by rw [ntmps170]; exact Nat.le_of_ble_eq_true (by kernel_rfl)) c170_l
    (F170_1_ok R n0 n1 [] w _ rfl rfl h)
noncomputable def c155_0 := cI6 f155 0
noncomputable def c155_1 := cI6 f155 1
noncomputable def c155_2 := cI6 f155 2
noncomputable def c155_3 := cI6 f155 3
noncomputable def c155_4 := cI6 f155 4
noncomputable def c155_5 := cI6 f155 5
noncomputable def c155_6 := cI6 f155 6
noncomputable def c155_7 := cI6 f155 7
noncomputable def c155_8 := cI6 f155 8
noncomputable def c155_5_0 := cJ6 c155_5 0
noncomputable def c155_5_0_0 := cJ6 c155_5_0 0
noncomputable def c155_5_0_1 := cJ6 c155_5_0 1
noncomputable def c155_5_0_2 := cJ6 c155_5_0 2
noncomputable def c155_5_0_3 := cJ6 c155_5_0 3
def F155_q1 (R : Rt) : EQ := endQ prog f155.results.toList R
def F155_1 (R : Rt) (n0 n8 : Int) (ds : Ds) (w : World) : Prop :=
 IntKind.i64 = IntKind.i64 /\ (4 : Int) ≠ 0 /\
 IntKind.i64 = IntKind.i64 /\ (100 : Int) ≠ 0 /\
 IntKind.i64 = IntKind.i64 /\ (400 : Int) ≠ 0 /\
 runD prog ds w fun w1 =>
 R (.returned (.tuple #[.int .i64 (IntKind.i64.wrap ((IntKind.i64.wrap ((IntKind.i64.wrap ((IntKind.i64.wrap (n8 + (IntKind.i64.wrap ((365 : Int) * (IntKind.i64.wrap (n0 - 1)))))) + (IntKind.i64.wrap ((IntKind.i64.wrap (n0 - 1)).tdiv 4)))) - (IntKind.i64.wrap ((IntKind.i64.wrap (n0 - 1)).tdiv 100)))) + (IntKind.i64.wrap ((IntKind.i64.wrap (n0 - 1)).tdiv 400)))), .int .i64 0])) w1
def F155_k2 (R : Rt) : EP := (fun E ds w => dInt .i64 (E 0) fun n0 => dInt .i64 (E 8) fun n8 => F155_1 R n0 n8 ds w)
def F155_q3 (R : Rt) : EQ := (thenQ (F155_k2 R) (F155_q1 R))
def F155_q4 (R : Rt) : EQ := (blockQ 0 (F155_q3 R))
def F155_q5 (R : Rt) (J1 : (Int × Int) -> World -> Prop) : EQ := (thenQ (fun E _ w => dInt .i64 (E 8) fun n8 => dInt .i64 (E 9) fun n9 => J1 (n8, n9) w) (F155_q4 R))
def F155_2 (R : Rt) (J1 : (Int × Int) -> World -> Prop) (n0 n1 n8 n9 : Int) (ds : Ds) (w : World) : Prop :=
 Br (decide (n9 < n1)) (
 Calls prog 170 #[.int .i64 n0, .int .i64 n9] w fun e w2 =>
 ∃ n45 : Int, e = .returned (.int .i64 n45) /\
 J1 ((IntKind.i64.wrap (n8 + n45)), (IntKind.i64.wrap (n9 + 1))) w2) (
 F155_1 R n0 n8 ds w)
def F155_3 (R : Rt) (n0 n1 n8 n9 : Int) (ds : Ds) (w : World) : Prop :=
 loopT (fun (J1 : (Int × Int) -> World -> Prop) (s : Int × Int) (w : World) => F155_2 R J1 n0 n1 s.1 s.2 ds w) (n8, n9) w
abbrev F155_4 (R : Rt) (n0 n1 n8 n9 : Int) (ds : Ds) (w : World) : Prop := F155_3 R n0 n1 n8 n9 ds w
def F155_k6 (R : Rt) : EP := (fun E ds w => dInt .i64 (E 0) fun n0 => dInt .i64 (E 1) fun n1 => dInt .i64 (E 8) fun n8 => dInt .i64 (E 9) fun n9 => F155_4 R n0 n1 n8 n9 ds w)
def F155_5 (R : Rt) (n0 n1 n2 : Int) (b35 : Bool) (ds : Ds) (w : World) : Prop :=
 Br b35 (
 runD prog ds w fun w3 =>
 R (.returned (.tuple #[.int .i64 0, .int .i64 1])) w3) (
 F155_4 R n0 n1 n2 1 ds w)
def F155_k7 (R : Rt) : EP := (fun E ds w => dInt .i64 (E 0) fun n0 => dInt .i64 (E 1) fun n1 => dInt .i64 (E 2) fun n2 => dBl (E 35) fun b35 => F155_5 R n0 n1 n2 b35 ds w)
def F155_6 (R : Rt) (n0 n1 n2 : Int) (ds : Ds) (w : World) : Prop :=
 Br (decide (n0 < 1)) (
 F155_5 R n0 n1 n2 true ds w) (
 Br (decide (n0 > 9999)) (
 F155_5 R n0 n1 n2 true ds w) (
 Br (decide (n1 < 1)) (
 F155_5 R n0 n1 n2 true ds w) (
 Br (decide (n1 > 12)) (
 F155_5 R n0 n1 n2 true ds w) (
 Br (decide (n2 < 1)) (
 F155_5 R n0 n1 n2 true ds w) (
 Calls prog 170 #[.int .i64 n0, .int .i64 n1] w fun e w4 =>
 ∃ n33 : Int, e = .returned (.int .i64 n33) /\
 F155_5 R n0 n1 n2 (decide (n2 > n33)) ds w4)))))
def F155_k8 (R : Rt) : EP := (fun E ds w => dInt .i64 (E 0) fun n0 => dInt .i64 (E 1) fun n1 => dInt .i64 (E 2) fun n2 => F155_6 R n0 n1 n2 ds w)
def F155_7 (R : Rt) (n0 n1 n2 : Int) (ds : Ds) (w : World) : Prop :=
 F155_6 R n0 n1 n2 ds w
theorem c155_l : flat (bodyOf f155) = [c155_0, c155_1, c155_2, c155_3, c155_4, c155_5, c155_6, c155_7, c155_8] := by kernel_rfl
theorem c155_5_l : flat (innerC c155_5) = [c155_5_0] := by kernel_rfl
theorem c155_5_0_l : flat (innerC c155_5_0) = [c155_5_0_0, c155_5_0_1, c155_5_0_2, c155_5_0_3] := by kernel_rfl
theorem F155_1_ok (R : Rt) (n0 n8 : Int) (ds : Ds) (w : World) (E : Env) (e0 : E 0 = .int .i64 n0) (e8 : E 8 = .int .i64 n8) (h : F155_1 R n0 n8 ds w) :
    TrL prog f155.ntmps [c155_6, c155_7, c155_8] (F155_q1 R) E ds w :=
  TrL_leaf (X := F155_1 R n0 n8 ds w) (setAll_cons e0 (setAll_cons e8 setAll_nil)) (by kernel_rfl) (by kernel_rfl) h
theorem F155_2_ok (R : Rt) (J1 : (Int × Int) -> World -> Prop) (n0 n1 n8 n9 : Int) (ds : Ds) (w : World) (E : Env) (e0 : E 0 = .int .i64 n0) (e1 : E 1 = .int .i64 n1) (e8 : E 8 = .int .i64 n8) (e9 : E 9 = .int .i64 n9) (h : F155_2 R J1 n0 n1 n8 n9 ds w) :
    TrL prog f155.ntmps [c155_5_0_0, c155_5_0_1, c155_5_0_2, c155_5_0_3] (F155_q5 R J1) E ds w :=
  TrL_leaf (X := F155_2 R J1 n0 n1 n8 n9 ds w) (setAll_cons e0 (setAll_cons e1 (setAll_cons e8 (setAll_cons e9 setAll_nil)))) (by kernel_rfl) (by kernel_rfl) h
theorem F155_3_ok (R : Rt) (n0 n1 n8 n9 : Int) (ds : Ds) (w : World) (E : Env) (e0 : E 0 = .int .i64 n0) (e1 : E 1 = .int .i64 n1) (e8 : E 8 = .int .i64 n8) (e9 : E 9 = .int .i64 n9) (h : F155_3 R n0 n1 n8 n9 ds w) :
    TrL prog f155.ntmps [c155_5_0] (F155_q4 R) E ds w :=
  TrL_one (Tr_loop' (c := innerC c155_5_0) (σ := Int × Int) (enc := (fun (s : Int × Int) (E : Env) => E 8 = .int .i64 s.1 /\ E 9 = .int .i64 s.2)) (D := (fun E K => dInt .i64 (E 8) fun n8 => dInt .i64 (E 9) fun n9 => K (n8, n9))) (F := (fun (J1 : (Int × Int) -> World -> Prop) (s : Int × Int) (w : World) => F155_2 R J1 n0 n1 s.1 s.2 ds w)) (s0 := (n8, n9)) (by kernel_rfl) c155_5_0_l ⟨e8, e9⟩ (by kernel_rfl) (fun E K hD => by obtain ⟨n8, e8, hD⟩ := dInt_elim hD; obtain ⟨n9, e9, hD⟩ := dInt_elim hD; exact ⟨(n8, n9), ⟨e8, e9⟩, hD⟩)
      (fun J1 s E' w' he ha hF => by
      obtain ⟨e8', e9'⟩ := he
      exact F155_2_ok R J1 n0 n1 s.1 s.2 ds w' E' ((ha 0 (by kernel_rfl)).trans e0) ((ha 1 (by kernel_rfl)).trans e1) e8' e9' hF) h)
theorem F155_4_ok (R : Rt) (n0 n1 n8 n9 : Int) (ds : Ds) (w : World) (E : Env) (e0 : E 0 = .int .i64 n0) (e1 : E 1 = .int .i64 n1) (e8 : E 8 = .int .i64 n8) (e9 : E 9 = .int .i64 n9) (h : F155_4 R n0 n1 n8 n9 ds w) :
    TrL prog f155.ntmps [c155_5, c155_6, c155_7, c155_8] (F155_q1 R) E ds w :=
  TrL_head (K := (F155_k2 R)) (Tr_block' (c := innerC c155_5) (by kernel_rfl) c155_5_l (F155_3_ok R n0 n1 n8 n9 ds w E e0 e1 e8 e9 h))
    (fun E' ds' w' hD => by
      obtain ⟨n0, e0, hD⟩ := dInt_elim hD; obtain ⟨n8, e8, hD⟩ := dInt_elim hD; exact F155_1_ok R n0 n8 ds' w' E' e0 e8 hD)
theorem F155_5_ok (R : Rt) (n0 n1 n2 : Int) (b35 : Bool) (ds : Ds) (w : World) (E : Env) (e0 : E 0 = .int .i64 n0) (e1 : E 1 = .int .i64 n1) (e2 : E 2 = .int .i64 n2) (e35 : E 35 = .bool b35) (h : F155_5 R n0 n1 n2 b35 ds w) :
    TrL prog f155.ntmps [c155_2, c155_3, c155_4, c155_5, c155_6, c155_7, c155_8] (F155_q1 R) E ds w :=
  TrL_piece (pre := [c155_2, c155_3, c155_4]) (K := (F155_k6 R)) (X := F155_5 R n0 n1 n2 b35 ds w) (setAll_cons e0 (setAll_cons e1 (setAll_cons e2 (setAll_cons e35 setAll_nil)))) (by kernel_rfl) (by kernel_rfl)
    (fun E' ds' w' hD => by
      obtain ⟨n0, e0, hD⟩ := dInt_elim hD; obtain ⟨n1, e1, hD⟩ := dInt_elim hD; obtain ⟨n8, e8, hD⟩ := dInt_elim hD; obtain ⟨n9, e9, hD⟩ := dInt_elim hD; exact F155_4_ok R n0 n1 n8 n9 ds' w' E' e0 e1 e8 e9 hD) h
theorem F155_6_ok (R : Rt) (n0 n1 n2 : Int) (ds : Ds) (w : World) (E : Env) (e0 : E 0 = .int .i64 n0) (e1 : E 1 = .int .i64 n1) (e2 : E 2 = .int .i64 n2) (h : F155_6 R n0 n1 n2 ds w) :
    TrL prog f155.ntmps [c155_1, c155_2, c155_3, c155_4, c155_5, c155_6, c155_7, c155_8] (F155_q1 R) E ds w :=
  TrL_piece (pre := [c155_1]) (K := (F155_k7 R)) (X := F155_6 R n0 n1 n2 ds w) (setAll_cons e0 (setAll_cons e1 (setAll_cons e2 setAll_nil))) (by kernel_rfl) (by kernel_rfl)
    (fun E' ds' w' hD => by
      obtain ⟨n0, e0, hD⟩ := dInt_elim hD; obtain ⟨n1, e1, hD⟩ := dInt_elim hD; obtain ⟨n2, e2, hD⟩ := dInt_elim hD; obtain ⟨b35, e35, hD⟩ := dBl_elim hD; exact F155_5_ok R n0 n1 n2 b35 ds' w' E' e0 e1 e2 e35 hD) h
theorem F155_7_ok (R : Rt) (n0 n1 n2 : Int) (ds : Ds) (w : World) (E : Env) (e0 : E 0 = .int .i64 n0) (e1 : E 1 = .int .i64 n1) (e2 : E 2 = .int .i64 n2) (h : F155_7 R n0 n1 n2 ds w) :
    TrL prog f155.ntmps [c155_0, c155_1, c155_2, c155_3, c155_4, c155_5, c155_6, c155_7, c155_8] (F155_q1 R) E ds w :=
  TrL_piece (pre := [c155_0]) (K := (F155_k8 R)) (X := F155_7 R n0 n1 n2 ds w) (setAll_cons e0 (setAll_cons e1 (setAll_cons e2 setAll_nil))) (by kernel_rfl) (by kernel_rfl)
    (fun E' ds' w' hD => by
      obtain ⟨n0, e0, hD⟩ := dInt_elim hD; obtain ⟨n1, e1, hD⟩ := dInt_elim hD; obtain ⟨n2, e2, hD⟩ := dInt_elim hD; exact F155_6_ok R n0 n1 n2 ds' w' E' e0 e1 e2 hD) h
theorem F155_calls (n0 n1 n2 : Int) (w : World) (R : Rt) (h : F155_7 R n0 n1 n2 [] w) : Calls prog 155 #[.int .i64 n0, .int .i64 n1, .int .i64 n2] w R :=
  calls_of_L (l := [c155_0, c155_1, c155_2, c155_3, c155_4, c155_5, c155_6, c155_7, c155_8]) func155 (by kernel_rfl) (by rw [ntmps155]; exact Nat.le_of_ble_eq_true (by kernel_rfl)) c155_l
    (F155_7_ok R n0 n1 n2 [] w _ rfl rfl rfl h)
noncomputable def c153_0 := cI6 f153 0
noncomputable def c153_1 := cI6 f153 1
noncomputable def c153_2 := cI6 f153 2
noncomputable def c153_3 := cI6 f153 3
noncomputable def c153_4 := cI6 f153 4
noncomputable def c153_5 := cI6 f153 5
noncomputable def c153_6 := cI6 f153 6
noncomputable def c153_7 := cI6 f153 7
noncomputable def c153_8 := cI6 f153 8
noncomputable def c153_9 := cI6 f153 9
noncomputable def c153_10 := cI6 f153 10
noncomputable def c153_11 := cI6 f153 11
noncomputable def c153_9_0 := cJ6 c153_9 0
noncomputable def c153_9_0_0 := cJ6 c153_9_0 0
noncomputable def c153_9_0_1 := cJ6 c153_9_0 1
noncomputable def c153_9_0_2 := cJ6 c153_9_0 2
noncomputable def c153_6_0 := cJ6 c153_6 0
noncomputable def c153_6_0_0 := cJ6 c153_6_0 0
noncomputable def c153_6_0_1 := cJ6 c153_6_0 1
noncomputable def c153_6_0_2 := cJ6 c153_6_0 2
def F153_q1 (R : Rt) : EQ := endQ prog f153.results.toList R
def F153_1 (R : Rt) (n0 n6 n11 n12 : Int) (ds : Ds) (w : World) : Prop :=
 runD prog ds w fun w1 =>
 R (.returned (.tuple #[.int .i64 n6, .int .i64 n11, .int .i64 (IntKind.i64.wrap ((IntKind.i64.wrap (n0 - n12)) + 1)), .int .i64 0])) w1
def F153_k2 (R : Rt) : EP := (fun E ds w => dInt .i64 (E 0) fun n0 => dInt .i64 (E 6) fun n6 => dInt .i64 (E 11) fun n11 => dInt .i64 (E 12) fun n12 => F153_1 R n0 n6 n11 n12 ds w)
def F153_q3 (R : Rt) : EQ := (thenQ (F153_k2 R) (F153_q1 R))
def F153_q4 (R : Rt) : EQ := (blockQ 2 (F153_q3 R))
def F153_q5 (R : Rt) (J1 : (Int × Int) -> World -> Prop) : EQ := (thenQ (fun E _ w => dInt .i64 (E 11) fun n11 => dInt .i64 (E 12) fun n12 => J1 (n11, n12) w) (F153_q4 R))
def F153_2 (R : Rt) (J1 : (Int × Int) -> World -> Prop) (n0 n6 n11 n12 : Int) (ds : Ds) (w : World) : Prop :=
 Br (decide (n12 > n0)) (
 Calls prog 155 #[.int .i64 n6, .int .i64 (IntKind.i64.wrap (n11 - 1)), .int .i64 1] w fun e w2 =>
 ∃ n55_0 : Int, ∃ n55_1 : Int, e = .returned (.tuple #[.int .i64 n55_0, .int .i64 n55_1]) /\
 J1 ((IntKind.i64.wrap (n11 - 1)), n55_0) w2) (
 F153_1 R n0 n6 n11 n12 ds w)
def F153_3 (R : Rt) (n0 n6 n11 n12 : Int) (ds : Ds) (w : World) : Prop :=
 loopT (fun (J1 : (Int × Int) -> World -> Prop) (s : Int × Int) (w : World) => F153_2 R J1 n0 n6 s.1 s.2 ds w) (n11, n12) w
abbrev F153_4 (R : Rt) (n0 n6 n11 n12 : Int) (ds : Ds) (w : World) : Prop := F153_3 R n0 n6 n11 n12 ds w
def F153_k6 (R : Rt) : EP := (fun E ds w => dInt .i64 (E 0) fun n0 => dInt .i64 (E 6) fun n6 => dInt .i64 (E 11) fun n11 => dInt .i64 (E 12) fun n12 => F153_4 R n0 n6 n11 n12 ds w)
def F153_5 (R : Rt) (n0 n6 : Int) (ds : Ds) (w : World) : Prop :=
 Calls prog 155 #[.int .i64 n6, .int .i64 12, .int .i64 1] w fun e w3 =>
 ∃ n44_0 : Int, ∃ n44_1 : Int, e = .returned (.tuple #[.int .i64 n44_0, .int .i64 n44_1]) /\
 F153_4 R n0 n6 12 n44_0 ds w3
def F153_k7 (R : Rt) : EP := (fun E ds w => dInt .i64 (E 0) fun n0 => dInt .i64 (E 6) fun n6 => F153_5 R n0 n6 ds w)
def F153_q8 (R : Rt) : EQ := (thenQ (F153_k7 R) (F153_q1 R))
def F153_q9 (R : Rt) : EQ := (blockQ 0 (F153_q8 R))
def F153_q10 (R : Rt) (J1 : (Int × Int) -> World -> Prop) : EQ := (thenQ (fun E _ w => dInt .i64 (E 6) fun n6 => dInt .i64 (E 7) fun n7 => J1 (n6, n7) w) (F153_q9 R))
def F153_6 (R : Rt) (J1 : (Int × Int) -> World -> Prop) (n0 n6 n7 : Int) (ds : Ds) (w : World) : Prop :=
 Br (decide (n6 < n7)) (
 IntKind.i64 = IntKind.i64 /\ (2 : Int) ≠ 0 /\
 Calls prog 155 #[.int .i64 (IntKind.i64.wrap ((IntKind.i64.wrap ((IntKind.i64.wrap (n6 + n7)) + 1)).tdiv 2)), .int .i64 1, .int .i64 1] w fun e w4 =>
 ∃ n32_0 : Int, ∃ n32_1 : Int, e = .returned (.tuple #[.int .i64 n32_0, .int .i64 n32_1]) /\
 Br (decide (n32_0 ≤ n0)) (
 J1 ((IntKind.i64.wrap ((IntKind.i64.wrap ((IntKind.i64.wrap (n6 + n7)) + 1)).tdiv 2)), n7) w4) (
 J1 (n6, (IntKind.i64.wrap ((IntKind.i64.wrap ((IntKind.i64.wrap ((IntKind.i64.wrap (n6 + n7)) + 1)).tdiv 2)) - 1))) w4)) (
 F153_5 R n0 n6 ds w)
def F153_7 (R : Rt) (n0 n6 n7 : Int) (ds : Ds) (w : World) : Prop :=
 loopT (fun (J1 : (Int × Int) -> World -> Prop) (s : Int × Int) (w : World) => F153_6 R J1 n0 s.1 s.2 ds w) (n6, n7) w
abbrev F153_8 (R : Rt) (n0 n6 n7 : Int) (ds : Ds) (w : World) : Prop := F153_7 R n0 n6 n7 ds w
def F153_k11 (R : Rt) : EP := (fun E ds w => dInt .i64 (E 0) fun n0 => dInt .i64 (E 6) fun n6 => dInt .i64 (E 7) fun n7 => F153_8 R n0 n6 n7 ds w)
def F153_9 (R : Rt) (n0 : Int) (ds : Ds) (w : World) : Prop :=
 Br (decide (n0 < 0)) (
 runD prog ds w fun w5 =>
 R (.returned (.tuple #[.int .i64 0, .int .i64 0, .int .i64 0, .int .i64 1])) w5) (
 Br (decide (n0 > 3652059)) (
 runD prog ds w fun w6 =>
 R (.returned (.tuple #[.int .i64 0, .int .i64 0, .int .i64 0, .int .i64 1])) w6) (
 Br (n0 == 0) (
 runD prog ds w fun w7 =>
 R (.returned (.tuple #[.int .i64 0, .int .i64 0, .int .i64 0, .int .i64 0])) w7) (
 F153_8 R n0 1 9999 ds w)))
theorem c153_l : flat (bodyOf f153) = [c153_0, c153_1, c153_2, c153_3, c153_4, c153_5, c153_6, c153_7, c153_8, c153_9, c153_10, c153_11] := by kernel_rfl
theorem c153_9_l : flat (innerC c153_9) = [c153_9_0] := by kernel_rfl
theorem c153_9_0_l : flat (innerC c153_9_0) = [c153_9_0_0, c153_9_0_1, c153_9_0_2] := by kernel_rfl
theorem c153_6_l : flat (innerC c153_6) = [c153_6_0] := by kernel_rfl
theorem c153_6_0_l : flat (innerC c153_6_0) = [c153_6_0_0, c153_6_0_1, c153_6_0_2] := by kernel_rfl
theorem F153_1_ok (R : Rt) (n0 n6 n11 n12 : Int) (ds : Ds) (w : World) (E : Env) (e0 : E 0 = .int .i64 n0) (e6 : E 6 = .int .i64 n6) (e11 : E 11 = .int .i64 n11) (e12 : E 12 = .int .i64 n12) (h : F153_1 R n0 n6 n11 n12 ds w) :
    TrL prog f153.ntmps [c153_10, c153_11] (F153_q1 R) E ds w :=
  TrL_leaf (X := F153_1 R n0 n6 n11 n12 ds w) (setAll_cons e0 (setAll_cons e6 (setAll_cons e11 (setAll_cons e12 setAll_nil)))) (by kernel_rfl) (by kernel_rfl) h
theorem F153_2_ok (R : Rt) (J1 : (Int × Int) -> World -> Prop) (n0 n6 n11 n12 : Int) (ds : Ds) (w : World) (E : Env) (e0 : E 0 = .int .i64 n0) (e6 : E 6 = .int .i64 n6) (e11 : E 11 = .int .i64 n11) (e12 : E 12 = .int .i64 n12) (h : F153_2 R J1 n0 n6 n11 n12 ds w) :
    TrL prog f153.ntmps [c153_9_0_0, c153_9_0_1, c153_9_0_2] (F153_q5 R J1) E ds w :=
  TrL_leaf (X := F153_2 R J1 n0 n6 n11 n12 ds w) (setAll_cons e0 (setAll_cons e6 (setAll_cons e11 (setAll_cons e12 setAll_nil)))) (by kernel_rfl) (by kernel_rfl) h
theorem F153_3_ok (R : Rt) (n0 n6 n11 n12 : Int) (ds : Ds) (w : World) (E : Env) (e0 : E 0 = .int .i64 n0) (e6 : E 6 = .int .i64 n6) (e11 : E 11 = .int .i64 n11) (e12 : E 12 = .int .i64 n12) (h : F153_3 R n0 n6 n11 n12 ds w) :
    TrL prog f153.ntmps [c153_9_0] (F153_q4 R) E ds w :=
  TrL_one (Tr_loop' (c := innerC c153_9_0) (σ := Int × Int) (enc := (fun (s : Int × Int) (E : Env) => E 11 = .int .i64 s.1 /\ E 12 = .int .i64 s.2)) (D := (fun E K => dInt .i64 (E 11) fun n11 => dInt .i64 (E 12) fun n12 => K (n11, n12))) (F := (fun (J1 : (Int × Int) -> World -> Prop) (s : Int × Int) (w : World) => F153_2 R J1 n0 n6 s.1 s.2 ds w)) (s0 := (n11, n12)) (by kernel_rfl) c153_9_0_l ⟨e11, e12⟩ (by kernel_rfl) (fun E K hD => by obtain ⟨n11, e11, hD⟩ := dInt_elim hD; obtain ⟨n12, e12, hD⟩ := dInt_elim hD; exact ⟨(n11, n12), ⟨e11, e12⟩, hD⟩)
      (fun J1 s E' w' he ha hF => by
      obtain ⟨e11', e12'⟩ := he
      exact F153_2_ok R J1 n0 n6 s.1 s.2 ds w' E' ((ha 0 (by kernel_rfl)).trans e0) ((ha 6 (by kernel_rfl)).trans e6) e11' e12' hF) h)
theorem F153_4_ok (R : Rt) (n0 n6 n11 n12 : Int) (ds : Ds) (w : World) (E : Env) (e0 : E 0 = .int .i64 n0) (e6 : E 6 = .int .i64 n6) (e11 : E 11 = .int .i64 n11) (e12 : E 12 = .int .i64 n12) (h : F153_4 R n0 n6 n11 n12 ds w) :
    TrL prog f153.ntmps [c153_9, c153_10, c153_11] (F153_q1 R) E ds w :=
  TrL_head (K := (F153_k2 R)) (Tr_block' (c := innerC c153_9) (by kernel_rfl) c153_9_l (F153_3_ok R n0 n6 n11 n12 ds w E e0 e6 e11 e12 h))
    (fun E' ds' w' hD => by
      obtain ⟨n0, e0, hD⟩ := dInt_elim hD; obtain ⟨n6, e6, hD⟩ := dInt_elim hD; obtain ⟨n11, e11, hD⟩ := dInt_elim hD; obtain ⟨n12, e12, hD⟩ := dInt_elim hD; exact F153_1_ok R n0 n6 n11 n12 ds' w' E' e0 e6 e11 e12 hD)
theorem F153_5_ok (R : Rt) (n0 n6 : Int) (ds : Ds) (w : World) (E : Env) (e0 : E 0 = .int .i64 n0) (e6 : E 6 = .int .i64 n6) (h : F153_5 R n0 n6 ds w) :
    TrL prog f153.ntmps [c153_7, c153_8, c153_9, c153_10, c153_11] (F153_q1 R) E ds w :=
  TrL_piece (pre := [c153_7, c153_8]) (K := (F153_k6 R)) (X := F153_5 R n0 n6 ds w) (setAll_cons e0 (setAll_cons e6 setAll_nil)) (by kernel_rfl) (by kernel_rfl)
    (fun E' ds' w' hD => by
      obtain ⟨n0, e0, hD⟩ := dInt_elim hD; obtain ⟨n6, e6, hD⟩ := dInt_elim hD; obtain ⟨n11, e11, hD⟩ := dInt_elim hD; obtain ⟨n12, e12, hD⟩ := dInt_elim hD; exact F153_4_ok R n0 n6 n11 n12 ds' w' E' e0 e6 e11 e12 hD) h
theorem F153_6_ok (R : Rt) (J1 : (Int × Int) -> World -> Prop) (n0 n6 n7 : Int) (ds : Ds) (w : World) (E : Env) (e0 : E 0 = .int .i64 n0) (e6 : E 6 = .int .i64 n6) (e7 : E 7 = .int .i64 n7) (h : F153_6 R J1 n0 n6 n7 ds w) :
    TrL prog f153.ntmps [c153_6_0_0, c153_6_0_1, c153_6_0_2] (F153_q10 R J1) E ds w :=
  TrL_leaf (X := F153_6 R J1 n0 n6 n7 ds w) (setAll_cons e0 (setAll_cons e6 (setAll_cons e7 setAll_nil))) (by kernel_rfl) (by kernel_rfl) h
theorem F153_7_ok (R : Rt) (n0 n6 n7 : Int) (ds : Ds) (w : World) (E : Env) (e0 : E 0 = .int .i64 n0) (e6 : E 6 = .int .i64 n6) (e7 : E 7 = .int .i64 n7) (h : F153_7 R n0 n6 n7 ds w) :
    TrL prog f153.ntmps [c153_6_0] (F153_q9 R) E ds w :=
  TrL_one (Tr_loop' (c := innerC c153_6_0) (σ := Int × Int) (enc := (fun (s : Int × Int) (E : Env) => E 6 = .int .i64 s.1 /\ E 7 = .int .i64 s.2)) (D := (fun E K => dInt .i64 (E 6) fun n6 => dInt .i64 (E 7) fun n7 => K (n6, n7))) (F := (fun (J1 : (Int × Int) -> World -> Prop) (s : Int × Int) (w : World) => F153_6 R J1 n0 s.1 s.2 ds w)) (s0 := (n6, n7)) (by kernel_rfl) c153_6_0_l ⟨e6, e7⟩ (by kernel_rfl) (fun E K hD => by obtain ⟨n6, e6, hD⟩ := dInt_elim hD; obtain ⟨n7, e7, hD⟩ := dInt_elim hD; exact ⟨(n6, n7), ⟨e6, e7⟩, hD⟩)
      (fun J1 s E' w' he ha hF => by
      obtain ⟨e6', e7'⟩ := he
      exact F153_6_ok R J1 n0 s.1 s.2 ds w' E' ((ha 0 (by kernel_rfl)).trans e0) e6' e7' hF) h)
theorem F153_8_ok (R : Rt) (n0 n6 n7 : Int) (ds : Ds) (w : World) (E : Env) (e0 : E 0 = .int .i64 n0) (e6 : E 6 = .int .i64 n6) (e7 : E 7 = .int .i64 n7) (h : F153_8 R n0 n6 n7 ds w) :
    TrL prog f153.ntmps [c153_6, c153_7, c153_8, c153_9, c153_10, c153_11] (F153_q1 R) E ds w :=
  TrL_head (K := (F153_k7 R)) (Tr_block' (c := innerC c153_6) (by kernel_rfl) c153_6_l (F153_7_ok R n0 n6 n7 ds w E e0 e6 e7 h))
    (fun E' ds' w' hD => by
      obtain ⟨n0, e0, hD⟩ := dInt_elim hD; obtain ⟨n6, e6, hD⟩ := dInt_elim hD; exact F153_5_ok R n0 n6 ds' w' E' e0 e6 hD)
theorem F153_9_ok (R : Rt) (n0 : Int) (ds : Ds) (w : World) (E : Env) (e0 : E 0 = .int .i64 n0) (h : F153_9 R n0 ds w) :
    TrL prog f153.ntmps [c153_0, c153_1, c153_2, c153_3, c153_4, c153_5, c153_6, c153_7, c153_8, c153_9, c153_10, c153_11] (F153_q1 R) E ds w :=
  TrL_piece (pre := [c153_0, c153_1, c153_2, c153_3, c153_4, c153_5]) (K := (F153_k11 R)) (X := F153_9 R n0 ds w) (setAll_cons e0 setAll_nil) (by kernel_rfl) (by kernel_rfl)
    (fun E' ds' w' hD => by
      obtain ⟨n0, e0, hD⟩ := dInt_elim hD; obtain ⟨n6, e6, hD⟩ := dInt_elim hD; obtain ⟨n7, e7, hD⟩ := dInt_elim hD; exact F153_8_ok R n0 n6 n7 ds' w' E' e0 e6 e7 hD) h
theorem F153_calls (n0 : Int) (w : World) (R : Rt) (h : F153_9 R n0 [] w) : Calls prog 153 #[.int .i64 n0] w R :=
  calls_of_L (l := [c153_0, c153_1, c153_2, c153_3, c153_4, c153_5, c153_6, c153_7, c153_8, c153_9, c153_10, c153_11]) func153 (by kernel_rfl) (by rw [ntmps153]; exact Nat.le_of_ble_eq_true (by kernel_rfl)) c153_l
    (F153_9_ok R n0 [] w _ rfl h)
noncomputable def c154_0 := cI6 f154 0
noncomputable def c154_1 := cI6 f154 1
noncomputable def c154_2 := cI6 f154 2
noncomputable def c154_3 := cI6 f154 3
noncomputable def c154_4 := cI6 f154 4
noncomputable def c154_2_0 := cJ6 c154_2 0
noncomputable def c154_2_0_0 := cJ6 c154_2_0 0
noncomputable def c154_2_0_1 := cJ6 c154_2_0 1
noncomputable def c154_2_0_2 := cJ6 c154_2_0 2
def F154_q1 (R : Rt) : EQ := endQ prog f154.results.toList R
def F154_1 (R : Rt) (s5 : ByteArray) (ds : Ds) (w : World) : Prop :=
 runD prog ds w fun w1 =>
 R (.returned (.string s5)) w1
def F154_k2 (R : Rt) : EP := (fun E ds w => dStr (E 5) fun s5 => F154_1 R s5 ds w)
def F154_q3 (R : Rt) : EQ := (thenQ (F154_k2 R) (F154_q1 R))
def F154_q4 (R : Rt) : EQ := (blockQ 0 (F154_q3 R))
def F154_q5 (R : Rt) (J1 : (ByteArray) -> World -> Prop) : EQ := (thenQ (fun E _ w => dStr (E 5) fun s5 => J1 s5 w) (F154_q4 R))
def F154_2 (R : Rt) (J1 : (ByteArray) -> World -> Prop) (n1 : Int) (s5 : ByteArray) (ds : Ds) (w : World) : Prop :=
 Br (decide ((s5.size : Int) < n1)) (
 (((⟨#[48]⟩ : ByteArray).size + s5.size : Nat) : Int) ≤ 9223372036854775807 /\
 J1 ((⟨#[48]⟩ : ByteArray) ++ s5) w) (
 F154_1 R s5 ds w)
def F154_3 (R : Rt) (n1 : Int) (s5 : ByteArray) (ds : Ds) (w : World) : Prop :=
 loopT (fun (J1 : (ByteArray) -> World -> Prop) (s : ByteArray) (w : World) => F154_2 R J1 n1 s ds w) s5 w
abbrev F154_4 (R : Rt) (n1 : Int) (s5 : ByteArray) (ds : Ds) (w : World) : Prop := F154_3 R n1 s5 ds w
def F154_k6 (R : Rt) : EP := (fun E ds w => dInt .i64 (E 1) fun n1 => dStr (E 5) fun s5 => F154_4 R n1 s5 ds w)
def F154_5 (R : Rt) (n0 n1 : Int) (ds : Ds) (w : World) : Prop :=
 Calls prog 119 #[.int .i64 n0] w fun e w2 =>
 ∃ s7 : ByteArray, e = .returned (.string s7) /\
 F154_4 R n1 s7 ds w2
theorem c154_l : flat (bodyOf f154) = [c154_0, c154_1, c154_2, c154_3, c154_4] := by kernel_rfl
theorem c154_2_l : flat (innerC c154_2) = [c154_2_0] := by kernel_rfl
theorem c154_2_0_l : flat (innerC c154_2_0) = [c154_2_0_0, c154_2_0_1, c154_2_0_2] := by kernel_rfl
theorem F154_1_ok (R : Rt) (s5 : ByteArray) (ds : Ds) (w : World) (E : Env) (e5 : E 5 = .string s5) (h : F154_1 R s5 ds w) :
    TrL prog f154.ntmps [c154_3, c154_4] (F154_q1 R) E ds w :=
  TrL_leaf (X := F154_1 R s5 ds w) (setAll_cons e5 setAll_nil) (by kernel_rfl) (by kernel_rfl) h
theorem F154_2_ok (R : Rt) (J1 : (ByteArray) -> World -> Prop) (n1 : Int) (s5 : ByteArray) (ds : Ds) (w : World) (E : Env) (e1 : E 1 = .int .i64 n1) (e5 : E 5 = .string s5) (h : F154_2 R J1 n1 s5 ds w) :
    TrL prog f154.ntmps [c154_2_0_0, c154_2_0_1, c154_2_0_2] (F154_q5 R J1) E ds w :=
  TrL_leaf (X := F154_2 R J1 n1 s5 ds w) (setAll_cons e1 (setAll_cons e5 setAll_nil)) (by kernel_rfl) (by kernel_rfl) h
theorem F154_3_ok (R : Rt) (n1 : Int) (s5 : ByteArray) (ds : Ds) (w : World) (E : Env) (e1 : E 1 = .int .i64 n1) (e5 : E 5 = .string s5) (h : F154_3 R n1 s5 ds w) :
    TrL prog f154.ntmps [c154_2_0] (F154_q4 R) E ds w :=
  TrL_one (Tr_loop' (c := innerC c154_2_0) (σ := ByteArray) (enc := (fun (s : ByteArray) (E : Env) => E 5 = .string s)) (D := (fun E K => dStr (E 5) fun s5 => K s5)) (F := (fun (J1 : (ByteArray) -> World -> Prop) (s : ByteArray) (w : World) => F154_2 R J1 n1 s ds w)) (s0 := s5) (by kernel_rfl) c154_2_0_l e5 (by kernel_rfl) (fun E K hD => by obtain ⟨s5, e5, hD⟩ := dStr_elim hD; exact ⟨s5, e5, hD⟩)
      (fun J1 s E' w' he ha hF => by
      have e5' := he
      exact F154_2_ok R J1 n1 s ds w' E' ((ha 1 (by kernel_rfl)).trans e1) e5' hF) h)
theorem F154_4_ok (R : Rt) (n1 : Int) (s5 : ByteArray) (ds : Ds) (w : World) (E : Env) (e1 : E 1 = .int .i64 n1) (e5 : E 5 = .string s5) (h : F154_4 R n1 s5 ds w) :
    TrL prog f154.ntmps [c154_2, c154_3, c154_4] (F154_q1 R) E ds w :=
  TrL_head (K := (F154_k2 R)) (Tr_block' (c := innerC c154_2) (by kernel_rfl) c154_2_l (F154_3_ok R n1 s5 ds w E e1 e5 h))
    (fun E' ds' w' hD => by
      obtain ⟨s5, e5, hD⟩ := dStr_elim hD; exact F154_1_ok R s5 ds' w' E' e5 hD)
theorem F154_5_ok (R : Rt) (n0 n1 : Int) (ds : Ds) (w : World) (E : Env) (e0 : E 0 = .int .i64 n0) (e1 : E 1 = .int .i64 n1) (h : F154_5 R n0 n1 ds w) :
    TrL prog f154.ntmps [c154_0, c154_1, c154_2, c154_3, c154_4] (F154_q1 R) E ds w :=
  TrL_piece (pre := [c154_0, c154_1]) (K := (F154_k6 R)) (X := F154_5 R n0 n1 ds w) (setAll_cons e0 (setAll_cons e1 setAll_nil)) (by kernel_rfl) (by kernel_rfl)
    (fun E' ds' w' hD => by
      obtain ⟨n1, e1, hD⟩ := dInt_elim hD; obtain ⟨s5, e5, hD⟩ := dStr_elim hD; exact F154_4_ok R n1 s5 ds' w' E' e1 e5 hD) h
theorem F154_calls (n0 n1 : Int) (w : World) (R : Rt) (h : F154_5 R n0 n1 [] w) : Calls prog 154 #[.int .i64 n0, .int .i64 n1] w R :=
  calls_of_L (l := [c154_0, c154_1, c154_2, c154_3, c154_4]) func154 (by kernel_rfl) (by rw [ntmps154]; exact Nat.le_of_ble_eq_true (by kernel_rfl)) c154_l
    (F154_5_ok R n0 n1 [] w _ rfl rfl h)
noncomputable def c121_0 := cI6 f121 0
noncomputable def c121_1 := cI6 f121 1
noncomputable def c121_2 := cI6 f121 2
noncomputable def c121_3 := cI6 f121 3
noncomputable def c121_4 := cI6 f121 4
noncomputable def c121_5 := cI6 f121 5
noncomputable def c121_6 := cI6 f121 6
noncomputable def c121_7 := cI6 f121 7
def F121_q1 (R : Rt) : EQ := endQ prog f121.results.toList R
def F121_1 (R : Rt) (n0 : Int) (ds : Ds) (w : World) : Prop :=
 Calls prog 153 #[.int .i64 n0] w fun e w1 =>
 ∃ n10_0 : Int, ∃ n10_1 : Int, ∃ n10_2 : Int, ∃ n10_3 : Int, e = .returned (.tuple #[.int .i64 n10_0, .int .i64 n10_1, .int .i64 n10_2, .int .i64 n10_3]) /\
 Br (n10_3 != 0) (
 runD prog ds w1 fun w2 =>
 R (.returned (.tuple #[.string (⟨#[]⟩ : ByteArray), .int .i64 n10_3])) w2) (
 Br (n0 == 0) (
 runD prog ds w1 fun w3 =>
 R (.returned (.tuple #[.string (⟨#[32, 32, 32, 32, 32, 32, 32, 32]⟩ : ByteArray), .int .i64 0])) w3) (
 Calls prog 154 #[.int .i64 n10_0, .int .i64 4] w1 fun e w4 =>
 ∃ s21 : ByteArray, e = .returned (.string s21) /\
 Calls prog 154 #[.int .i64 n10_1, .int .i64 2] w4 fun e w5 =>
 ∃ s23 : ByteArray, e = .returned (.string s23) /\
 ((s21.size + s23.size : Nat) : Int) ≤ 9223372036854775807 /\
 Calls prog 154 #[.int .i64 n10_2, .int .i64 2] w5 fun e w6 =>
 ∃ s26 : ByteArray, e = .returned (.string s26) /\
 (((s21 ++ s23).size + s26.size : Nat) : Int) ≤ 9223372036854775807 /\
 runD prog ds w6 fun w7 =>
 R (.returned (.tuple #[.string ((s21 ++ s23) ++ s26), .int .i64 0])) w7))
theorem c121_l : flat (bodyOf f121) = [c121_0, c121_1, c121_2, c121_3, c121_4, c121_5, c121_6, c121_7] := by kernel_rfl
theorem F121_1_ok (R : Rt) (n0 : Int) (ds : Ds) (w : World) (E : Env) (e0 : E 0 = .int .i64 n0) (h : F121_1 R n0 ds w) :
    TrL prog f121.ntmps [c121_0, c121_1, c121_2, c121_3, c121_4, c121_5, c121_6, c121_7] (F121_q1 R) E ds w :=
  TrL_leaf (X := F121_1 R n0 ds w) (setAll_cons e0 setAll_nil) (by kernel_rfl) (by kernel_rfl) h
theorem F121_calls (n0 : Int) (w : World) (R : Rt) (h : F121_1 R n0 [] w) : Calls prog 121 #[.int .i64 n0] w R :=
  calls_of_L (l := [c121_0, c121_1, c121_2, c121_3, c121_4, c121_5, c121_6, c121_7]) func121 (by kernel_rfl) (by rw [ntmps121]; exact Nat.le_of_ble_eq_true (by kernel_rfl)) c121_l
    (F121_1_ok R n0 [] w _ rfl h)
end Go.Proofs.YtecmfdfhpldmmaaGreatDoor
