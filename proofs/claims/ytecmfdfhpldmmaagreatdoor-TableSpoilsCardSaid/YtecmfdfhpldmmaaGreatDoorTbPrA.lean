import Derived.Test.YtecmfdfhpldmmaaGreatDoorProg
import Derived.Test.YtecmfdfhpldmmaaGreatDoorShEight
/- Shallow texts of functions, printed by program, each checked by the kernel against the loaded code. No condition. -/
set_option maxRecDepth 100000
set_option linter.unusedVariables false
namespace Go.Proofs.YtecmfdfhpldmmaaGreatDoor
open Go.Sh
open Tryz
@[reducible] noncomputable def cI0 (f : Func) (i : Nat) : Code := itemAt (flat (bodyOf f)) i
noncomputable def c49_0 := cI0 f49 0
noncomputable def c49_1 := cI0 f49 1
noncomputable def c49_2 := cI0 f49 2
noncomputable def c49_3 := cI0 f49 3
noncomputable def c49_4 := cI0 f49 4
noncomputable def c49_5 := cI0 f49 5
noncomputable def c49_6 := cI0 f49 6
def F49_q1 (R : Rt) : EQ := endQ prog f49.results.toList R
def F49_1 (R : Rt) (n0_0 n0_1 : Int) (s0_2 : ByteArray) (ds : Ds) (w : World) : Prop :=
 alE (.cells #[.int .i64 n0_0, .int .i64 n0_1, .string s0_2] 25) w fun r1 w1 =>
 ∃ s4 : ByteArray, w1.cell? ((⟨r1, 0, none⟩ : Addr).add 2) = some (.string s4) /\
 Br (decide ((s4.size : Int) > 2048)) (
 runD prog ds w1 fun w2 =>
 R (.returned (.int .i64 3)) w2) (
 ∃ n7_0 : Int, w1.cell? ((⟨r1, 0, none⟩ : Addr).add 0) = some (.int .i64 n7_0) /\
 ∃ n7_1 : Int, w1.cell? ((⟨r1, 0, none⟩ : Addr).add 1) = some (.int .i64 n7_1) /\
 ∃ s7_2 : ByteArray, w1.cell? ((⟨r1, 0, none⟩ : Addr).add 2) = some (.string s7_2) /\
 Calls prog 91 #[.agg #[.int .i64 n7_0, .int .i64 n7_1, .string s7_2]] w1 fun e w3 =>
 ∃ b8 : Bool, e = .returned (.bool b8) /\
 Br (!b8) (
 runD prog ds w3 fun w4 =>
 R (.returned (.int .i64 1)) w4) (
 runD prog ds w3 fun w5 =>
 R (.returned (.int .i64 0)) w5))
theorem c49_l : flat (bodyOf f49) = [c49_0, c49_1, c49_2, c49_3, c49_4, c49_5, c49_6] := by kernel_rfl
theorem F49_1_ok (R : Rt) (n0_0 n0_1 : Int) (s0_2 : ByteArray) (ds : Ds) (w : World) (E : Env) (e0 : E 0 = .agg #[.int .i64 n0_0, .int .i64 n0_1, .string s0_2]) (h : F49_1 R n0_0 n0_1 s0_2 ds w) :
    TrL prog f49.ntmps [c49_0, c49_1, c49_2, c49_3, c49_4, c49_5, c49_6] (F49_q1 R) E ds w :=
  TrL_leaf (X := F49_1 R n0_0 n0_1 s0_2 ds w) (setAll_cons e0 setAll_nil) (by kernel_rfl) (by kernel_rfl) h
theorem F49_calls (n0_0 n0_1 : Int) (s0_2 : ByteArray) (w : World) (R : Rt) (h : F49_1 R n0_0 n0_1 s0_2 [] w) : Calls prog 49 #[.agg #[.int .i64 n0_0, .int .i64 n0_1, .string s0_2]] w R :=
  calls_of_L (l := [c49_0, c49_1, c49_2, c49_3, c49_4, c49_5, c49_6]) func49 (by kernel_rfl) (by rw [ntmps49]; exact Nat.le_of_ble_eq_true (by kernel_rfl)) c49_l
    (F49_1_ok R n0_0 n0_1 s0_2 [] w _ rfl h)
noncomputable def c91_0 := cI0 f91 0
noncomputable def c91_1 := cI0 f91 1
noncomputable def c91_2 := cI0 f91 2
noncomputable def c91_3 := cI0 f91 3
noncomputable def c91_4 := cI0 f91 4
noncomputable def c91_5 := cI0 f91 5
noncomputable def c91_6 := cI0 f91 6
def F91_q1 (R : Rt) : EQ := endQ prog f91.results.toList R
def F91_1 (R : Rt) (p1 : Option Addr) (n22 : Int) (ds : Ds) (w : World) : Prop :=
 Br (n22 == 0) (
 ptrE p1 fun a1 =>
 ∃ n26 : Int, w.cell? (a1.add 1) = some (.int .i64 n26) /\
 runD prog ds w fun w2 =>
 R (.returned (.bool (n26 == 0))) w2) (
 Br (n22 == 1) (
 ptrE p1 fun a3 =>
 ∃ n31 : Int, w.cell? (a3.add 1) = some (.int .i64 n31) /\
 Br (n31 == 0) (
 runD prog ds w fun w4 =>
 R (.returned (.bool true)) w4) (
 ptrE p1 fun a5 =>
 ∃ n35 : Int, w.cell? (a5.add 1) = some (.int .i64 n35) /\
 runD prog ds w fun w6 =>
 R (.returned (.bool (n35 == 1))) w6)) (
 Br (n22 == 2) (
 ptrE p1 fun a7 =>
 ∃ n41 : Int, w.cell? (a7.add 1) = some (.int .i64 n41) /\
 Calls prog 97 #[.int .i64 n41] w fun e w8 =>
 ∃ b42 : Bool, e = .returned (.bool b42) /\
 runD prog ds w8 fun w9 =>
 R (.returned (.bool b42)) w9) (
 Br (n22 == 3) (
 ptrE p1 fun a10 =>
 ∃ n46 : Int, w.cell? (a10.add 1) = some (.int .i64 n46) /\
 Calls prog 136 #[.int .i64 n46] w fun e w11 =>
 ∃ b47 : Bool, e = .returned (.bool b47) /\
 runD prog ds w11 fun w12 =>
 R (.returned (.bool b47)) w12) (
 ptrE p1 fun a13 =>
 ∃ n49 : Int, w.cell? a13 = some (.int .i64 n49) /\
 runD prog ds w fun w14 =>
 R (.returned (.bool (n49 == 4))) w14))))
def F91_k2 (R : Rt) : EP := (fun E ds w => dPtr (E 1) fun p1 => dInt .i64 (E 22) fun n22 => F91_1 R p1 n22 ds w)
def F91_2 (R : Rt) (n0_0 n0_1 : Int) (s0_2 : ByteArray) (ds : Ds) (w : World) : Prop :=
 alE (.cells #[.int .i64 n0_0, .int .i64 n0_1, .string s0_2] 25) w fun r1 w15 =>
 ∃ n4 : Int, w15.cell? (⟨r1, 0, none⟩ : Addr) = some (.int .i64 n4) /\
 Br (n4 != 4) (
 ∃ s8 : ByteArray, w15.cell? ((⟨r1, 0, none⟩ : Addr).add 2) = some (.string s8) /\
 Br (!(s8.toList == (⟨#[]⟩ : ByteArray).toList)) (
 runD prog ds w15 fun w16 =>
 R (.returned (.bool false)) w16) (
 ∃ n13 : Int, w15.cell? (⟨r1, 0, none⟩ : Addr) = some (.int .i64 n13) /\
 Br (n13 == 4) (
 ∃ n17 : Int, w15.cell? ((⟨r1, 0, none⟩ : Addr).add 1) = some (.int .i64 n17) /\
 Br (n17 != 0) (
 runD prog ds w15 fun w17 =>
 R (.returned (.bool false)) w17) (
 ∃ n22 : Int, w15.cell? (⟨r1, 0, none⟩ : Addr) = some (.int .i64 n22) /\
 F91_1 R (some (⟨r1, 0, none⟩ : Addr)) n22 ds w15)) (
 ∃ n22 : Int, w15.cell? (⟨r1, 0, none⟩ : Addr) = some (.int .i64 n22) /\
 F91_1 R (some (⟨r1, 0, none⟩ : Addr)) n22 ds w15))) (
 ∃ n13 : Int, w15.cell? (⟨r1, 0, none⟩ : Addr) = some (.int .i64 n13) /\
 Br (n13 == 4) (
 ∃ n17 : Int, w15.cell? ((⟨r1, 0, none⟩ : Addr).add 1) = some (.int .i64 n17) /\
 Br (n17 != 0) (
 runD prog ds w15 fun w18 =>
 R (.returned (.bool false)) w18) (
 ∃ n22 : Int, w15.cell? (⟨r1, 0, none⟩ : Addr) = some (.int .i64 n22) /\
 F91_1 R (some (⟨r1, 0, none⟩ : Addr)) n22 ds w15)) (
 ∃ n22 : Int, w15.cell? (⟨r1, 0, none⟩ : Addr) = some (.int .i64 n22) /\
 F91_1 R (some (⟨r1, 0, none⟩ : Addr)) n22 ds w15))
theorem c91_l : flat (bodyOf f91) = [c91_0, c91_1, c91_2, c91_3, c91_4, c91_5, c91_6] := by kernel_rfl
theorem F91_1_ok (R : Rt) (p1 : Option Addr) (n22 : Int) (ds : Ds) (w : World) (E : Env) (e1 : E 1 = .pointer p1) (e22 : E 22 = .int .i64 n22) (h : F91_1 R p1 n22 ds w) :
    TrL prog f91.ntmps [c91_4, c91_5, c91_6] (F91_q1 R) E ds w :=
  TrL_leaf (X := F91_1 R p1 n22 ds w) (setAll_cons e1 (setAll_cons e22 setAll_nil)) (by kernel_rfl) (by kernel_rfl) h
theorem F91_2_ok (R : Rt) (n0_0 n0_1 : Int) (s0_2 : ByteArray) (ds : Ds) (w : World) (E : Env) (e0 : E 0 = .agg #[.int .i64 n0_0, .int .i64 n0_1, .string s0_2]) (h : F91_2 R n0_0 n0_1 s0_2 ds w) :
    TrL prog f91.ntmps [c91_0, c91_1, c91_2, c91_3, c91_4, c91_5, c91_6] (F91_q1 R) E ds w :=
  TrL_piece (pre := [c91_0, c91_1, c91_2, c91_3]) (K := (F91_k2 R)) (X := F91_2 R n0_0 n0_1 s0_2 ds w) (setAll_cons e0 setAll_nil) (by kernel_rfl) (by kernel_rfl)
    (fun E' ds' w' hD => by
      obtain ⟨p1, e1, hD⟩ := dPtr_elim hD; obtain ⟨n22, e22, hD⟩ := dInt_elim hD; exact F91_1_ok R p1 n22 ds' w' E' e1 e22 hD) h
theorem F91_calls (n0_0 n0_1 : Int) (s0_2 : ByteArray) (w : World) (R : Rt) (h : F91_2 R n0_0 n0_1 s0_2 [] w) : Calls prog 91 #[.agg #[.int .i64 n0_0, .int .i64 n0_1, .string s0_2]] w R :=
  calls_of_L (l := [c91_0, c91_1, c91_2, c91_3, c91_4, c91_5, c91_6]) func91 (by kernel_rfl) (by rw [ntmps91]; exact Nat.le_of_ble_eq_true (by kernel_rfl)) c91_l
    (F91_2_ok R n0_0 n0_1 s0_2 [] w _ rfl h)
noncomputable def c97_0 := cI0 f97 0
noncomputable def c97_1 := cI0 f97 1
noncomputable def c97_2 := cI0 f97 2
def F97_q1 (R : Rt) : EQ := endQ prog f97.results.toList R
def F97_1 (R : Rt) (n0 : Int) (ds : Ds) (w : World) : Prop :=
 Br (decide (n0 ≥ (-1000000000000000))) (
 runD prog ds w fun w1 =>
 R (.returned (.bool (decide (n0 ≤ 1000000000000000)))) w1) (
 runD prog ds w fun w2 =>
 R (.returned (.bool false)) w2)
theorem c97_l : flat (bodyOf f97) = [c97_0, c97_1, c97_2] := by kernel_rfl
theorem F97_1_ok (R : Rt) (n0 : Int) (ds : Ds) (w : World) (E : Env) (e0 : E 0 = .int .i64 n0) (h : F97_1 R n0 ds w) :
    TrL prog f97.ntmps [c97_0, c97_1, c97_2] (F97_q1 R) E ds w :=
  TrL_leaf (X := F97_1 R n0 ds w) (setAll_cons e0 setAll_nil) (by kernel_rfl) (by kernel_rfl) h
theorem F97_calls (n0 : Int) (w : World) (R : Rt) (h : F97_1 R n0 [] w) : Calls prog 97 #[.int .i64 n0] w R :=
  calls_of_L (l := [c97_0, c97_1, c97_2]) func97 (by kernel_rfl) (by rw [ntmps97]; exact Nat.le_of_ble_eq_true (by kernel_rfl)) c97_l
    (F97_1_ok R n0 [] w _ rfl h)
noncomputable def c136_0 := cI0 f136 0
noncomputable def c136_1 := cI0 f136 1
noncomputable def c136_2 := cI0 f136 2
def F136_q1 (R : Rt) : EQ := endQ prog f136.results.toList R
def F136_1 (R : Rt) (n0 : Int) (ds : Ds) (w : World) : Prop :=
 Br (decide (n0 ≥ 0)) (
 runD prog ds w fun w1 =>
 R (.returned (.bool (decide (n0 ≤ 3652059)))) w1) (
 runD prog ds w fun w2 =>
 R (.returned (.bool false)) w2)
theorem c136_l : flat (bodyOf f136) = [c136_0, c136_1, c136_2] := by kernel_rfl
theorem F136_1_ok (R : Rt) (n0 : Int) (ds : Ds) (w : World) (E : Env) (e0 : E 0 = .int .i64 n0) (h : F136_1 R n0 ds w) :
    TrL prog f136.ntmps [c136_0, c136_1, c136_2] (F136_q1 R) E ds w :=
  TrL_leaf (X := F136_1 R n0 ds w) (setAll_cons e0 setAll_nil) (by kernel_rfl) (by kernel_rfl) h
theorem F136_calls (n0 : Int) (w : World) (R : Rt) (h : F136_1 R n0 [] w) : Calls prog 136 #[.int .i64 n0] w R :=
  calls_of_L (l := [c136_0, c136_1, c136_2]) func136 (by kernel_rfl) (by rw [ntmps136]; exact Nat.le_of_ble_eq_true (by kernel_rfl)) c136_l
    (F136_1_ok R n0 [] w _ rfl h)
end Go.Proofs.YtecmfdfhpldmmaaGreatDoor

/- Shallow texts of functions, printed by program, each checked by the kernel against the loaded code. No condition. -/
set_option maxRecDepth 100000
set_option linter.unusedVariables false
namespace Go.Proofs.YtecmfdfhpldmmaaGreatDoor
open Go.Sh
open Tryz
@[reducible] noncomputable def cI1 (f : Func) (i : Nat) : Code := itemAt (flat (bodyOf f)) i
noncomputable def c47_0 := cI1 f47 0
noncomputable def c47_1 := cI1 f47 1
noncomputable def c47_2 := cI1 f47 2
noncomputable def c47_3 := cI1 f47 3
def F47_q1 (R : Rt) : EQ := endQ prog f47.results.toList R
def F47_1 (R : Rt) (p1 p3 : Option Addr) (b4 : Bool) (ds : Ds) (w : World) : Prop :=
 Br b4 (
 ptrE p1 fun a1 =>
 ∃ s15 : ByteArray, w.cell? a1 = some (.string s15) /\
 Calls prog 90 #[.string s15] w fun e w2 =>
 ∃ b16 : Bool, e = .returned (.bool b16) /\
 Br b16 (
 ptrE p1 fun a3 =>
 ∃ n20 : Int, w2.cell? (a3.add 2) = some (.int .i64 n20) /\
 ptrE p3 fun a4 =>
 ∃ n22 : Int, w2.cell? (a4.add 1) = some (.int .i64 n22) /\
 Br (decide (n20 ≥ n22)) (
 ptrE p1 fun a5 =>
 ∃ n27 : Int, w2.cell? (a5.add 2) = some (.int .i64 n27) /\
 ptrE p3 fun a6 =>
 ∃ n29 : Int, w2.cell? (a6.add 2) = some (.int .i64 n29) /\
 runD prog ds w2 fun w7 =>
 R (.returned (.bool (decide (n27 ≤ n29)))) w7) (
 runD prog ds w2 fun w8 =>
 R (.returned (.bool false)) w8)) (
 runD prog ds w2 fun w9 =>
 R (.returned (.bool false)) w9)) (
 runD prog ds w fun w10 =>
 R (.returned (.bool false)) w10)
def F47_k2 (R : Rt) : EP := (fun E ds w => dPtr (E 1) fun p1 => dPtr (E 3) fun p3 => dBl (E 4) fun b4 => F47_1 R p1 p3 b4 ds w)
def F47_2 (R : Rt) (s0_0 : ByteArray) (n0_1 n0_2 : Int) (b0_3 : Bool) (ds : Ds) (w : World) : Prop :=
 alE (.cells #[.string s0_0, .int .i64 n0_1, .int .i64 n0_2, .bool b0_3] 23) w fun r1 w11 =>
 dwE w11 fun w12 =>
 ∃ S1 : World -> Prop, S1 w12 /\
 ∃ n8 : Int, (∀ w', S1 w' -> w'.cell? ((⟨r1, 0, none⟩ : Addr).add 1) = some (.int .i64 n8)) /\
 (
 Calls prog 89 #[] w12 fun e w13 =>
 ∃ m6 : Option Nat, e = .returned (.map m6) /\
 ∃ S2 : World -> Prop, S2 w13 /\ (∀ u, S2 u -> S1 u) /\
 ∃ n9_0_0 : Int, ∃ n9_0_1 : Int, ∃ n9_0_2 : Int, ∃ v9_0_3 : Value, ∃ v9_0_4 : Value, ∃ b9_1 : Bool, (∀ w', S2 w' -> (Instr.lookup 104 (.map m6) (.int .i64 n8) true).run prog w' = .ok (.tuple #[.agg #[.int .u8 n9_0_0, .int .i64 n9_0_1, .int .i64 n9_0_2, v9_0_3, v9_0_4], .bool b9_1]) w') /\
 alE (.cells #[.int .u8 0, .int .i64 0, .int .i64 0, .nilFunc, .nilFunc] 102) w13 fun r3 w14 =>
 ∃ S3 : World -> Prop, S3 w14 /\ (∀ u, S3 u -> S2 u) /\
 stA prog 102 (⟨r3, 0, none⟩ : Addr) #[.int .u8 n9_0_0, .int .i64 n9_0_1, .int .i64 n9_0_2, v9_0_3, v9_0_4] w14 fun w15 =>
 F47_1 R (some (⟨r1, 0, none⟩ : Addr)) (some (⟨r3, 0, none⟩ : Addr)) b9_1 ds w15) /\ (
 alE (.cells #[.int .u8 0, .int .i64 0, .int .i64 0, .nilFunc, .nilFunc] 102) w12 fun r3 w16 =>
 ∃ S4 : World -> Prop, S4 w16 /\ (∀ u, S4 u -> S1 u) /\
 Calls prog 89 #[] w16 fun e w17 =>
 ∃ m6 : Option Nat, e = .returned (.map m6) /\
 ∃ S5 : World -> Prop, S5 w17 /\ (∀ u, S5 u -> S4 u) /\
 ∃ n9_0_0 : Int, ∃ n9_0_1 : Int, ∃ n9_0_2 : Int, ∃ v9_0_3 : Value, ∃ v9_0_4 : Value, ∃ b9_1 : Bool, (∀ w', S5 w' -> (Instr.lookup 104 (.map m6) (.int .i64 n8) true).run prog w' = .ok (.tuple #[.agg #[.int .u8 n9_0_0, .int .i64 n9_0_1, .int .i64 n9_0_2, v9_0_3, v9_0_4], .bool b9_1]) w') /\
 stA prog 102 (⟨r3, 0, none⟩ : Addr) #[.int .u8 n9_0_0, .int .i64 n9_0_1, .int .i64 n9_0_2, v9_0_3, v9_0_4] w17 fun w18 =>
 F47_1 R (some (⟨r1, 0, none⟩ : Addr)) (some (⟨r3, 0, none⟩ : Addr)) b9_1 ds w18)
theorem c47_l : flat (bodyOf f47) = [c47_0, c47_1, c47_2, c47_3] := by kernel_rfl
theorem F47_1_ok (R : Rt) (p1 p3 : Option Addr) (b4 : Bool) (ds : Ds) (w : World) (E : Env) (e1 : E 1 = .pointer p1) (e3 : E 3 = .pointer p3) (e4 : E 4 = .bool b4) (h : F47_1 R p1 p3 b4 ds w) :
    TrL prog f47.ntmps [c47_2, c47_3] (F47_q1 R) E ds w :=
  TrL_leaf (X := F47_1 R p1 p3 b4 ds w) (setAll_cons e1 (setAll_cons e3 (setAll_cons e4 setAll_nil))) (by kernel_rfl) (by kernel_rfl) h
theorem F47_2_ok (R : Rt) (s0_0 : ByteArray) (n0_1 n0_2 : Int) (b0_3 : Bool) (ds : Ds) (w : World) (E : Env) (e0 : E 0 = .agg #[.string s0_0, .int .i64 n0_1, .int .i64 n0_2, .bool b0_3]) (h : F47_2 R s0_0 n0_1 n0_2 b0_3 ds w) :
    TrL prog f47.ntmps [c47_0, c47_1, c47_2, c47_3] (F47_q1 R) E ds w :=
  TrL_piece (pre := [c47_0, c47_1]) (K := (F47_k2 R)) (X := F47_2 R s0_0 n0_1 n0_2 b0_3 ds w) (setAll_cons e0 setAll_nil) (by kernel_rfl) (by kernel_rfl)
    (fun E' ds' w' hD => by
      obtain ⟨p1, e1, hD⟩ := dPtr_elim hD; obtain ⟨p3, e3, hD⟩ := dPtr_elim hD; obtain ⟨b4, e4, hD⟩ := dBl_elim hD; exact F47_1_ok R p1 p3 b4 ds' w' E' e1 e3 e4 hD) h
theorem F47_calls (s0_0 : ByteArray) (n0_1 n0_2 : Int) (b0_3 : Bool) (w : World) (R : Rt) (h : F47_2 R s0_0 n0_1 n0_2 b0_3 [] w) : Calls prog 47 #[.agg #[.string s0_0, .int .i64 n0_1, .int .i64 n0_2, .bool b0_3]] w R :=
  calls_of_L (l := [c47_0, c47_1, c47_2, c47_3]) func47 (by kernel_rfl) (by rw [ntmps47]; exact Nat.le_of_ble_eq_true (by kernel_rfl)) c47_l
    (F47_2_ok R s0_0 n0_1 n0_2 b0_3 [] w _ rfl h)
noncomputable def c90_0 := cI1 f90 0
noncomputable def c90_1 := cI1 f90 1
noncomputable def c90_2 := cI1 f90 2
def F90_q1 (R : Rt) : EQ := endQ prog f90.results.toList R
def F90_1 (R : Rt) (s0 : ByteArray) (ds : Ds) (w : World) : Prop :=
 Br (!(s0.toList == (⟨#[]⟩ : ByteArray).toList)) (
 Br (decide ((s0.size : Int) ≤ 10)) (
 Calls prog 135 #[.string s0, .string (⟨#[65, 66, 67, 68, 69, 70, 71, 72, 73, 74, 75, 76, 77, 78, 79, 80, 81, 82, 83, 84, 85, 86, 87, 88, 89, 90, 48, 49, 50, 51, 52, 53, 54, 55, 56, 57, 95]⟩ : ByteArray)] w fun e w1 =>
 ∃ s12 : ByteArray, e = .returned (.string s12) /\
 Br (s12.toList == (⟨#[]⟩ : ByteArray).toList) (
 ∃ b17 : UInt8, 0 ≤ (0 : Int) /\ s0[(0 : Int).toNat]? = some b17 /\
 Br (decide ((b17.toNat : Int) ≥ 65)) (
 ∃ b22 : UInt8, 0 ≤ (0 : Int) /\ s0[(0 : Int).toNat]? = some b22 /\
 runD prog ds w1 fun w2 =>
 R (.returned (.bool (decide ((b22.toNat : Int) ≤ 90)))) w2) (
 runD prog ds w1 fun w3 =>
 R (.returned (.bool false)) w3)) (
 runD prog ds w1 fun w4 =>
 R (.returned (.bool false)) w4)) (
 runD prog ds w fun w5 =>
 R (.returned (.bool false)) w5)) (
 runD prog ds w fun w6 =>
 R (.returned (.bool false)) w6)
theorem c90_l : flat (bodyOf f90) = [c90_0, c90_1, c90_2] := by kernel_rfl
theorem F90_1_ok (R : Rt) (s0 : ByteArray) (ds : Ds) (w : World) (E : Env) (e0 : E 0 = .string s0) (h : F90_1 R s0 ds w) :
    TrL prog f90.ntmps [c90_0, c90_1, c90_2] (F90_q1 R) E ds w :=
  TrL_leaf (X := F90_1 R s0 ds w) (setAll_cons e0 setAll_nil) (by kernel_rfl) (by kernel_rfl) h
theorem F90_calls (s0 : ByteArray) (w : World) (R : Rt) (h : F90_1 R s0 [] w) : Calls prog 90 #[.string s0] w R :=
  calls_of_L (l := [c90_0, c90_1, c90_2]) func90 (by kernel_rfl) (by rw [ntmps90]; exact Nat.le_of_ble_eq_true (by kernel_rfl)) c90_l
    (F90_1_ok R s0 [] w _ rfl h)
noncomputable def c89_0 := cI1 f89 0
noncomputable def c89_1 := cI1 f89 1
noncomputable def c89_2 := cI1 f89 2
def F89_q1 (R : Rt) : EQ := endQ prog f89.results.toList R
def F89_1 (R : Rt) (ds : Ds) (w : World) : Prop :=
 alE (.map #[] 0) w fun r1 w1 =>
 doE prog (Instr.mapUpdate 104 (.map (some r1)) (.int .i64 1) (.agg #[.int .u8 76, .int .i64 1, .int .i64 1, .func (.func 125) #[] #[], .func (.func 126) #[] #[]])) w1 fun w2 =>
 doE prog (Instr.mapUpdate 104 (.map (some r1)) (.int .i64 2) (.agg #[.int .u8 78, .int .i64 1, .int .i64 15, .func (.func 127) #[] #[], .func (.func 128) #[] #[]])) w2 fun w3 =>
 doE prog (Instr.mapUpdate 104 (.map (some r1)) (.int .i64 3) (.agg #[.int .u8 68, .int .i64 8, .int .i64 8, .func (.func 129) #[] #[], .func (.func 130) #[] #[]])) w3 fun w4 =>
 doE prog (Instr.mapUpdate 104 (.map (some r1)) (.int .i64 4) (.agg #[.int .u8 67, .int .i64 1, .int .i64 254, .func (.func 131) #[] #[], .func (.func 132) #[] #[]])) w4 fun w5 =>
 doE prog (Instr.mapUpdate 104 (.map (some r1)) (.int .i64 5) (.agg #[.int .u8 77, .int .i64 8, .int .i64 8, .func (.func 133) #[] #[], .func (.func 134) #[] #[]])) w5 fun w6 =>
 runD prog ds w6 fun w7 =>
 R (.returned (.map (some r1))) w7
theorem c89_l : flat (bodyOf f89) = [c89_0, c89_1, c89_2] := by kernel_rfl
theorem F89_1_ok (R : Rt) (ds : Ds) (w : World) (E : Env) (h : F89_1 R ds w) :
    TrL prog f89.ntmps [c89_0, c89_1, c89_2] (F89_q1 R) E ds w :=
  TrL_leaf (X := F89_1 R ds w) setAll_nil (by kernel_rfl) (by kernel_rfl) h
theorem F89_calls  (w : World) (R : Rt) (h : F89_1 R [] w) : Calls prog 89 #[] w R :=
  calls_of_L (l := [c89_0, c89_1, c89_2]) func89 (by kernel_rfl) (by rw [ntmps89]; exact Nat.le_of_ble_eq_true (by kernel_rfl)) c89_l
    (F89_1_ok R [] w _  h)
noncomputable def c48_0 := cI1 f48 0
noncomputable def c48_1 := cI1 f48 1
noncomputable def c48_2 := cI1 f48 2
def F48_q1 (R : Rt) : EQ := endQ prog f48.results.toList R
def F48_1 (R : Rt) (n0 : Int) (ds : Ds) (w : World) : Prop :=
 Br (decide (n0 ≥ 0)) (
 runD prog ds w fun w1 =>
 R (.returned (.bool (decide (n0 ≤ 2)))) w1) (
 runD prog ds w fun w2 =>
 R (.returned (.bool false)) w2)
theorem c48_l : flat (bodyOf f48) = [c48_0, c48_1, c48_2] := by kernel_rfl
theorem F48_1_ok (R : Rt) (n0 : Int) (ds : Ds) (w : World) (E : Env) (e0 : E 0 = .int .i64 n0) (h : F48_1 R n0 ds w) :
    TrL prog f48.ntmps [c48_0, c48_1, c48_2] (F48_q1 R) E ds w :=
  TrL_leaf (X := F48_1 R n0 ds w) (setAll_cons e0 setAll_nil) (by kernel_rfl) (by kernel_rfl) h
theorem F48_calls (n0 : Int) (w : World) (R : Rt) (h : F48_1 R n0 [] w) : Calls prog 48 #[.int .i64 n0] w R :=
  calls_of_L (l := [c48_0, c48_1, c48_2]) func48 (by kernel_rfl) (by rw [ntmps48]; exact Nat.le_of_ble_eq_true (by kernel_rfl)) c48_l
    (F48_1_ok R n0 [] w _ rfl h)
noncomputable def c50_0 := cI1 f50 0
noncomputable def c50_1 := cI1 f50 1
noncomputable def c50_2 := cI1 f50 2
noncomputable def c50_3 := cI1 f50 3
noncomputable def c50_4 := cI1 f50 4
def F50_q1 (R : Rt) : EQ := endQ prog f50.results.toList R
def F50_1 (R : Rt) (s0_0 : ByteArray) (n0_1 n0_2 : Int) (b0_3 : Bool) (ds : Ds) (w : World) : Prop :=
 alE (.cells #[.string s0_0, .int .i64 n0_1, .int .i64 n0_2, .bool b0_3] 23) w fun r1 w1 =>
 alE (.cells #[.int .i64 0, .int .i64 0, .string (⟨#[]⟩ : ByteArray)] 25) w1 fun r2 w2 =>
 ∃ n4 : Int, w2.cell? ((⟨r1, 0, none⟩ : Addr).add 1) = some (.int .i64 n4) /\
 Br (n4 == 5) (
 stA prog 25 (⟨r2, 0, none⟩ : Addr) #[.int .i64 2, .int .i64 0, .string (⟨#[]⟩ : ByteArray)] w2 fun w3 =>
 runD prog ds w3 fun w4 =>
 ∃ nR0_0 : Int, w4.cell? ((⟨r2, 0, none⟩ : Addr).add 0) = some (.int .i64 nR0_0) /\
 ∃ nR0_1 : Int, w4.cell? ((⟨r2, 0, none⟩ : Addr).add 1) = some (.int .i64 nR0_1) /\
 ∃ sR0_2 : ByteArray, w4.cell? ((⟨r2, 0, none⟩ : Addr).add 2) = some (.string sR0_2) /\
 R (.returned (.agg #[.int .i64 nR0_0, .int .i64 nR0_1, .string sR0_2])) w4) (
 ∃ n8 : Int, w2.cell? ((⟨r1, 0, none⟩ : Addr).add 1) = some (.int .i64 n8) /\
 stA prog 25 (⟨r2, 0, none⟩ : Addr) #[.int .i64 n8, .int .i64 0, .string (⟨#[]⟩ : ByteArray)] w2 fun w5 =>
 runD prog ds w5 fun w6 =>
 ∃ nR0_0 : Int, w6.cell? ((⟨r2, 0, none⟩ : Addr).add 0) = some (.int .i64 nR0_0) /\
 ∃ nR0_1 : Int, w6.cell? ((⟨r2, 0, none⟩ : Addr).add 1) = some (.int .i64 nR0_1) /\
 ∃ sR0_2 : ByteArray, w6.cell? ((⟨r2, 0, none⟩ : Addr).add 2) = some (.string sR0_2) /\
 R (.returned (.agg #[.int .i64 nR0_0, .int .i64 nR0_1, .string sR0_2])) w6)
theorem c50_l : flat (bodyOf f50) = [c50_0, c50_1, c50_2, c50_3, c50_4] := by kernel_rfl
theorem F50_1_ok (R : Rt) (s0_0 : ByteArray) (n0_1 n0_2 : Int) (b0_3 : Bool) (ds : Ds) (w : World) (E : Env) (e0 : E 0 = .agg #[.string s0_0, .int .i64 n0_1, .int .i64 n0_2, .bool b0_3]) (h : F50_1 R s0_0 n0_1 n0_2 b0_3 ds w) :
    TrL prog f50.ntmps [c50_0, c50_1, c50_2, c50_3, c50_4] (F50_q1 R) E ds w :=
  TrL_leaf (X := F50_1 R s0_0 n0_1 n0_2 b0_3 ds w) (setAll_cons e0 setAll_nil) (by kernel_rfl) (by kernel_rfl) h
theorem F50_calls (s0_0 : ByteArray) (n0_1 n0_2 : Int) (b0_3 : Bool) (w : World) (R : Rt) (h : F50_1 R s0_0 n0_1 n0_2 b0_3 [] w) : Calls prog 50 #[.agg #[.string s0_0, .int .i64 n0_1, .int .i64 n0_2, .bool b0_3]] w R :=
  calls_of_L (l := [c50_0, c50_1, c50_2, c50_3, c50_4]) func50 (by kernel_rfl) (by rw [ntmps50]; exact Nat.le_of_ble_eq_true (by kernel_rfl)) c50_l
    (F50_1_ok R s0_0 n0_1 n0_2 b0_3 [] w _ rfl h)
end Go.Proofs.YtecmfdfhpldmmaaGreatDoor

/- Shallow texts of functions, printed by program, each checked by the kernel against the loaded code. No condition. -/
set_option maxRecDepth 100000
set_option linter.unusedVariables false
namespace Go.Proofs.YtecmfdfhpldmmaaGreatDoor
open Go.Sh
open Tryz
@[reducible] noncomputable def cI2 (f : Func) (i : Nat) : Code := itemAt (flat (bodyOf f)) i
noncomputable def c53_0 := cI2 f53 0
noncomputable def c53_1 := cI2 f53 1
noncomputable def c53_2 := cI2 f53 2
noncomputable def c53_3 := cI2 f53 3
noncomputable def c53_4 := cI2 f53 4
noncomputable def c53_5 := cI2 f53 5
noncomputable def c53_6 := cI2 f53 6
noncomputable def c53_7 := cI2 f53 7
def F53_q1 (R : Rt) : EQ := endQ prog f53.results.toList R
def F53_1 (R : Rt) (n1 : Int) (s6 : ByteArray) (ds : Ds) (w : World) : Prop :=
 Calls prog 99 #[.string (⟨#[32]⟩ : ByteArray), .int .i64 (IntKind.i64.wrap (n1 - (s6.size : Int)))] w fun e w1 =>
 ∃ s30 : ByteArray, e = .returned (.string s30) /\
 ((s30.size + s6.size : Nat) : Int) ≤ 9223372036854775807 /\
 runD prog ds w1 fun w2 =>
 R (.returned (.tuple #[.string (s30 ++ s6), .int .i64 0])) w2
def F53_k2 (R : Rt) : EP := (fun E ds w => dInt .i64 (E 1) fun n1 => dStr (E 6) fun s6 => F53_1 R n1 s6 ds w)
def F53_2 (R : Rt) (n0 n1 : Int) (ds : Ds) (w : World) : Prop :=
 Calls prog 97 #[.int .i64 n0] w fun e w3 =>
 ∃ b8 : Bool, e = .returned (.bool b8) /\
 Br (!b8) (
 runD prog ds w3 fun w4 =>
 R (.returned (.tuple #[.string (⟨#[]⟩ : ByteArray), .int .i64 1])) w4) (
 Br (decide (n1 < 1)) (
 runD prog ds w3 fun w5 =>
 R (.returned (.tuple #[.string (⟨#[]⟩ : ByteArray), .int .i64 1])) w5) (
 Br (decide (n1 > 254)) (
 runD prog ds w3 fun w6 =>
 R (.returned (.tuple #[.string (⟨#[]⟩ : ByteArray), .int .i64 1])) w6) (
 Calls prog 98 #[.int .i64 n0] w3 fun e w7 =>
 ∃ s19 : ByteArray, e = .returned (.string s19) /\
 Br (decide ((s19.size : Int) > n1)) (
 Calls prog 99 #[.string (⟨#[42]⟩ : ByteArray), .int .i64 n1] w7 fun e w8 =>
 ∃ s25 : ByteArray, e = .returned (.string s25) /\
 runD prog ds w8 fun w9 =>
 R (.returned (.tuple #[.string s25, .int .i64 0])) w9) (
 F53_1 R n1 s19 ds w7))))
theorem c53_l : flat (bodyOf f53) = [c53_0, c53_1, c53_2, c53_3, c53_4, c53_5, c53_6, c53_7] := by kernel_rfl
theorem F53_1_ok (R : Rt) (n1 : Int) (s6 : ByteArray) (ds : Ds) (w : World) (E : Env) (e1 : E 1 = .int .i64 n1) (e6 : E 6 = .string s6) (h : F53_1 R n1 s6 ds w) :
    TrL prog f53.ntmps [c53_6, c53_7] (F53_q1 R) E ds w :=
  TrL_leaf (X := F53_1 R n1 s6 ds w) (setAll_cons e1 (setAll_cons e6 setAll_nil)) (by kernel_rfl) (by kernel_rfl) h
theorem F53_2_ok (R : Rt) (n0 n1 : Int) (ds : Ds) (w : World) (E : Env) (e0 : E 0 = .int .i64 n0) (e1 : E 1 = .int .i64 n1) (h : F53_2 R n0 n1 ds w) :
    TrL prog f53.ntmps [c53_0, c53_1, c53_2, c53_3, c53_4, c53_5, c53_6, c53_7] (F53_q1 R) E ds w :=
  TrL_piece (pre := [c53_0, c53_1, c53_2, c53_3, c53_4, c53_5]) (K := (F53_k2 R)) (X := F53_2 R n0 n1 ds w) (setAll_cons e0 (setAll_cons e1 setAll_nil)) (by kernel_rfl) (by kernel_rfl)
    (fun E' ds' w' hD => by
      obtain ⟨n1, e1, hD⟩ := dInt_elim hD; obtain ⟨s6, e6, hD⟩ := dStr_elim hD; exact F53_1_ok R n1 s6 ds' w' E' e1 e6 hD) h
theorem F53_calls (n0 n1 : Int) (w : World) (R : Rt) (h : F53_2 R n0 n1 [] w) : Calls prog 53 #[.int .i64 n0, .int .i64 n1] w R :=
  calls_of_L (l := [c53_0, c53_1, c53_2, c53_3, c53_4, c53_5, c53_6, c53_7]) func53 (by kernel_rfl) (by rw [ntmps53]; exact Nat.le_of_ble_eq_true (by kernel_rfl)) c53_l
    (F53_2_ok R n0 n1 [] w _ rfl rfl h)
noncomputable def c98_0 := cI2 f98 0
noncomputable def c98_1 := cI2 f98 1
noncomputable def c98_2 := cI2 f98 2
noncomputable def c98_3 := cI2 f98 3
noncomputable def c98_4 := cI2 f98 4
noncomputable def c98_5 := cI2 f98 5
noncomputable def c98_6 := cI2 f98 6
noncomputable def c98_7 := cI2 f98 7
def F98_q1 (R : Rt) : EQ := endQ prog f98.results.toList R
def F98_1 (R : Rt) (n0 : Int) (ds : Ds) (w : World) : Prop :=
 Br (decide (n0 < 0)) (
 Calls prog 98 #[.int .i64 (IntKind.i64.wrap (0 - n0))] w fun e w1 =>
 ∃ s8 : ByteArray, e = .returned (.string s8) /\
 (((⟨#[45]⟩ : ByteArray).size + s8.size : Nat) : Int) ≤ 9223372036854775807 /\
 runD prog ds w1 fun w2 =>
 R (.returned (.string ((⟨#[45]⟩ : ByteArray) ++ s8))) w2) (
 Br (decide (n0 < 10)) (
 0 ≤ (IntKind.i64.wrap (n0 + 1)) /\ (IntKind.i64.wrap (n0 + 1)).toNat ≤ (⟨#[48, 49, 50, 51, 52, 53, 54, 55, 56, 57]⟩ : ByteArray).size /\ 0 ≤ n0 /\ n0.toNat ≤ (IntKind.i64.wrap (n0 + 1)).toNat /\
 runD prog ds w fun w3 =>
 R (.returned (.string ((⟨#[48, 49, 50, 51, 52, 53, 54, 55, 56, 57]⟩ : ByteArray).extract n0.toNat ((IntKind.i64.wrap (n0 + 1)).toNat)))) w3) (
 dwE w fun w4 =>
 IntKind.i64 = IntKind.i64 /\ (10 : Int) ≠ 0 /\
 IntKind.i64 = IntKind.i64 /\ (10 : Int) ≠ 0 /\
 IntKind.i64 = IntKind.i64 /\ (10 : Int) ≠ 0 /\
 0 ≤ (IntKind.i64.wrap ((n0.tmod 10) + 1)) /\ (IntKind.i64.wrap ((n0.tmod 10) + 1)).toNat ≤ (⟨#[48, 49, 50, 51, 52, 53, 54, 55, 56, 57]⟩ : ByteArray).size /\ 0 ≤ (n0.tmod 10) /\ (n0.tmod 10).toNat ≤ (IntKind.i64.wrap ((n0.tmod 10) + 1)).toNat /\
 Calls prog 98 #[.int .i64 (IntKind.i64.wrap (n0.tdiv 10))] w4 fun e w5 =>
 ∃ s19 : ByteArray, e = .returned (.string s19) /\
 ((s19.size + ((⟨#[48, 49, 50, 51, 52, 53, 54, 55, 56, 57]⟩ : ByteArray).extract ((n0.tmod 10).toNat) ((IntKind.i64.wrap ((n0.tmod 10) + 1)).toNat)).size : Nat) : Int) ≤ 9223372036854775807 /\
 runD prog ds w5 fun w6 =>
 R (.returned (.string (s19 ++ ((⟨#[48, 49, 50, 51, 52, 53, 54, 55, 56, 57]⟩ : ByteArray).extract ((n0.tmod 10).toNat) ((IntKind.i64.wrap ((n0.tmod 10) + 1)).toNat))))) w6))
theorem c98_l : flat (bodyOf f98) = [c98_0, c98_1, c98_2, c98_3, c98_4, c98_5, c98_6, c98_7] := by kernel_rfl
theorem F98_1_ok (R : Rt) (n0 : Int) (ds : Ds) (w : World) (E : Env) (e0 : E 0 = .int .i64 n0) (h : F98_1 R n0 ds w) :
    TrL prog f98.ntmps [c98_0, c98_1, c98_2, c98_3, c98_4, c98_5, c98_6, c98_7] (F98_q1 R) E ds w :=
  TrL_leaf (X := F98_1 R n0 ds w) (setAll_cons e0 setAll_nil) (by kernel_rfl) (by kernel_rfl) h
theorem F98_calls (n0 : Int) (w : World) (R : Rt) (h : F98_1 R n0 [] w) : Calls prog 98 #[.int .i64 n0] w R :=
  calls_of_L (l := [c98_0, c98_1, c98_2, c98_3, c98_4, c98_5, c98_6, c98_7]) func98 (by kernel_rfl) (by rw [ntmps98]; exact Nat.le_of_ble_eq_true (by kernel_rfl)) c98_l
    (F98_1_ok R n0 [] w _ rfl h)
noncomputable def c46_0 := cI2 f46 0
noncomputable def c46_1 := cI2 f46 1
noncomputable def c46_2 := cI2 f46 2
def F46_q1 (R : Rt) : EQ := endQ prog f46.results.toList R
def F46_1 (R : Rt) (s0 : ByteArray) (ds : Ds) (w : World) : Prop :=
 alE (.cells #[.int .i64 0, .int .i64 0, .string (⟨#[]⟩ : ByteArray)] 25) w fun r2 w1 =>
 stA prog 25 (⟨r2, 0, none⟩ : Addr) #[.int .i64 4, .int .i64 0, .string s0] w1 fun w2 =>
 runD prog ds w2 fun w3 =>
 ∃ nR0_0 : Int, w3.cell? ((⟨r2, 0, none⟩ : Addr).add 0) = some (.int .i64 nR0_0) /\
 ∃ nR0_1 : Int, w3.cell? ((⟨r2, 0, none⟩ : Addr).add 1) = some (.int .i64 nR0_1) /\
 ∃ sR0_2 : ByteArray, w3.cell? ((⟨r2, 0, none⟩ : Addr).add 2) = some (.string sR0_2) /\
 R (.returned (.agg #[.int .i64 nR0_0, .int .i64 nR0_1, .string sR0_2])) w3
theorem c46_l : flat (bodyOf f46) = [c46_0, c46_1, c46_2] := by kernel_rfl
theorem F46_1_ok (R : Rt) (s0 : ByteArray) (ds : Ds) (w : World) (E : Env) (e0 : E 0 = .string s0) (h : F46_1 R s0 ds w) :
    TrL prog f46.ntmps [c46_0, c46_1, c46_2] (F46_q1 R) E ds w :=
  TrL_leaf (X := F46_1 R s0 ds w) (setAll_cons e0 setAll_nil) (by kernel_rfl) (by kernel_rfl) h
theorem F46_calls (s0 : ByteArray) (w : World) (R : Rt) (h : F46_1 R s0 [] w) : Calls prog 46 #[.string s0] w R :=
  calls_of_L (l := [c46_0, c46_1, c46_2]) func46 (by kernel_rfl) (by rw [ntmps46]; exact Nat.le_of_ble_eq_true (by kernel_rfl)) c46_l
    (F46_1_ok R s0 [] w _ rfl h)
end Go.Proofs.YtecmfdfhpldmmaaGreatDoor

/- Shallow texts of functions, printed by program, each checked by the kernel against the loaded code. No condition. -/
set_option maxRecDepth 100000
set_option linter.unusedVariables false
namespace Go.Proofs.YtecmfdfhpldmmaaGreatDoor
open Go.Sh
open Tryz
@[reducible] noncomputable def cI3 (f : Func) (i : Nat) : Code := itemAt (flat (bodyOf f)) i
@[reducible] noncomputable def cJ3 (c : Code) (i : Nat) : Code := itemAt (flat (innerC c)) i
noncomputable def c52_0 := cI3 f52 0
noncomputable def c52_1 := cI3 f52 1
noncomputable def c52_2 := cI3 f52 2
noncomputable def c52_3 := cI3 f52 3
def F52_q1 (R : Rt) : EQ := endQ prog f52.results.toList R
def F52_1 (R : Rt) (s0 : ByteArray) (n1 : Int) (ds : Ds) (w : World) : Prop :=
 Calls prog 96 #[.string s0, .int .i64 n1] w fun e w1 =>
 ∃ b10_0 : Bool, ∃ n10_1 : Int, e = .returned (.tuple #[.bool b10_0, .int .i64 n10_1]) /\
 Br b10_0 (
 runD prog ds w1 fun w2 =>
 R (.returned (.bool (n10_1 == 0))) w2) (
 runD prog ds w1 fun w3 =>
 R (.returned (.bool false)) w3)
theorem c52_l : flat (bodyOf f52) = [c52_0, c52_1, c52_2, c52_3] := by kernel_rfl
theorem F52_1_ok (R : Rt) (s0 : ByteArray) (n1 : Int) (ds : Ds) (w : World) (E : Env) (e0 : E 0 = .string s0) (e1 : E 1 = .int .i64 n1) (h : F52_1 R s0 n1 ds w) :
    TrL prog f52.ntmps [c52_0, c52_1, c52_2, c52_3] (F52_q1 R) E ds w :=
  TrL_leaf (X := F52_1 R s0 n1 ds w) (setAll_cons e0 (setAll_cons e1 setAll_nil)) (by kernel_rfl) (by kernel_rfl) h
theorem F52_calls (s0 : ByteArray) (n1 : Int) (w : World) (R : Rt) (h : F52_1 R s0 n1 [] w) : Calls prog 52 #[.string s0, .int .i64 n1] w R :=
  calls_of_L (l := [c52_0, c52_1, c52_2, c52_3]) func52 (by kernel_rfl) (by rw [ntmps52]; exact Nat.le_of_ble_eq_true (by kernel_rfl)) c52_l
    (F52_1_ok R s0 n1 [] w _ rfl rfl h)
noncomputable def c96_0 := cI3 f96 0
noncomputable def c96_1 := cI3 f96 1
noncomputable def c96_2 := cI3 f96 2
noncomputable def c96_3 := cI3 f96 3
noncomputable def c96_4 := cI3 f96 4
noncomputable def c96_5 := cI3 f96 5
noncomputable def c96_6 := cI3 f96 6
noncomputable def c96_7 := cI3 f96 7
noncomputable def c96_8 := cI3 f96 8
noncomputable def c96_6_0 := cJ3 c96_6 0
noncomputable def c96_6_0_0 := cJ3 c96_6_0 0
noncomputable def c96_6_0_1 := cJ3 c96_6_0 1
noncomputable def c96_6_0_2 := cJ3 c96_6_0 2
noncomputable def c96_6_0_3 := cJ3 c96_6_0 3
def F96_q1 (R : Rt) : EQ := endQ prog f96.results.toList R
def F96_1 (R : Rt) (ds : Ds) (w : World) : Prop :=
 runD prog ds w fun w1 =>
 R (.returned (.tuple #[.bool true, .int .i64 0])) w1
def F96_k2 (R : Rt) : EP := (fun E ds w => F96_1 R ds w)
def F96_q3 (R : Rt) : EQ := (thenQ (F96_k2 R) (F96_q1 R))
def F96_q4 (R : Rt) : EQ := (blockQ 0 (F96_q3 R))
def F96_q5 (R : Rt) (J1 : (Int) -> World -> Prop) : EQ := (thenQ (fun E _ w => dInt .i64 (E 23) fun n23 => J1 n23 w) (F96_q4 R))
def F96_2 (R : Rt) (J1 : (Int) -> World -> Prop) (p7 : Option Addr) (l21 : SV) (n22 n23 : Int) (ds : Ds) (w : World) : Prop :=
 Br (decide (n23 < n22)) (
 ∃ a2 : Addr, l21.a = some a2 /\ 0 ≤ n23 /\ n23 < (l21.len : Int) /\
 ∃ n26 : Int, w.cell? (a2.add (n23.toNat * 1)) = some (.int .u8 n26) /\
 ptrE p7 fun a3 =>
 0 ≤ n26 /\ n26 < (256 : Int) /\
 ∃ n29 : Int, w.cell? (a3.add (n26.toNat * 1)) = some (.int .i32 n29) /\
 Br (decide (n29 < 0)) (
 runD prog ds w fun w4 =>
 R (.returned (.tuple #[.bool false, .int .i64 0])) w4) (
 J1 (IntKind.i64.wrap (n23 + 1)) w)) (
 F96_1 R ds w)
def F96_3 (R : Rt) (p7 : Option Addr) (l21 : SV) (n22 n23 : Int) (ds : Ds) (w : World) : Prop :=
 loopT (fun (J1 : (Int) -> World -> Prop) (s : Int) (w : World) => F96_2 R J1 p7 l21 n22 s ds w) n23 w
abbrev F96_4 (R : Rt) (p7 : Option Addr) (l21 : SV) (n22 n23 : Int) (ds : Ds) (w : World) : Prop := F96_3 R p7 l21 n22 n23 ds w
def F96_k6 (R : Rt) : EP := (fun E ds w => dPtr (E 7) fun p7 => dSl (E 21) fun l21 => dInt .i64 (E 22) fun n22 => dInt .i64 (E 23) fun n23 => F96_4 R p7 l21 n22 n23 ds w)
def F96_5 (R : Rt) (s0 : ByteArray) (n1 : Int) (ds : Ds) (w : World) : Prop :=
 alE (.cells #[.string s0] 9) w fun r12 w5 =>
 Calls prog 140 #[.int .i64 n1, .slice (some ⟨r12, 0, none⟩) 1 1] w5 fun e w6 =>
 ∃ n13 : Int, e = .returned (.int .i64 n13) /\
 Br (n13 != 0) (
 runD prog ds w6 fun w7 =>
 R (.returned (.tuple #[.bool false, .int .i64 n13])) w7) (
 Calls prog 141 #[] w6 fun e w8 =>
 ∃ c17 : Array Value, c17.size = 768 /\ e = .returned (.agg c17) /\
 ∃ c19 : Array Value, c19.size = 256 /\ ∃ w9 : World, (Instr.index 149 (.agg c17) (.int .i64 n1)).run prog w8 = .ok (.agg c19) w9 /\
 alE (.cells (zc prog 148) 148) w9 fun r7 w10 =>
 stA prog 148 (⟨r7, 0, none⟩ : Addr) c19 w10 fun w11 =>
 ∃ l21 : SV, ∃ w12 : World, (convert 9 37 (.string s0)).run prog w11 = .ok (.slice l21.a l21.len l21.cap) w12 /\
 F96_4 R (some (⟨r7, 0, none⟩ : Addr)) l21 (l21.len : Int) 0 ds w12)
theorem c96_l : flat (bodyOf f96) = [c96_0, c96_1, c96_2, c96_3, c96_4, c96_5, c96_6, c96_7, c96_8] := by kernel_rfl
theorem c96_6_l : flat (innerC c96_6) = [c96_6_0] := by kernel_rfl
theorem c96_6_0_l : flat (innerC c96_6_0) = [c96_6_0_0, c96_6_0_1, c96_6_0_2, c96_6_0_3] := by kernel_rfl
theorem F96_1_ok (R : Rt) (ds : Ds) (w : World) (E : Env) (h : F96_1 R ds w) :
    TrL prog f96.ntmps [c96_7, c96_8] (F96_q1 R) E ds w :=
  TrL_leaf (X := F96_1 R ds w) setAll_nil (by kernel_rfl) (by kernel_rfl) h
theorem F96_2_ok (R : Rt) (J1 : (Int) -> World -> Prop) (p7 : Option Addr) (l21 : SV) (n22 n23 : Int) (ds : Ds) (w : World) (E : Env) (e7 : E 7 = .pointer p7) (e21 : E 21 = .slice l21.a l21.len l21.cap) (e22 : E 22 = .int .i64 n22) (e23 : E 23 = .int .i64 n23) (h : F96_2 R J1 p7 l21 n22 n23 ds w) :
    TrL prog f96.ntmps [c96_6_0_0, c96_6_0_1, c96_6_0_2, c96_6_0_3] (F96_q5 R J1) E ds w :=
  TrL_leaf (X := F96_2 R J1 p7 l21 n22 n23 ds w) (setAll_cons e7 (setAll_cons e21 (setAll_cons e22 (setAll_cons e23 setAll_nil)))) (by kernel_rfl) (by kernel_rfl) h
theorem F96_3_ok (R : Rt) (p7 : Option Addr) (l21 : SV) (n22 n23 : Int) (ds : Ds) (w : World) (E : Env) (e7 : E 7 = .pointer p7) (e21 : E 21 = .slice l21.a l21.len l21.cap) (e22 : E 22 = .int .i64 n22) (e23 : E 23 = .int .i64 n23) (h : F96_3 R p7 l21 n22 n23 ds w) :
    TrL prog f96.ntmps [c96_6_0] (F96_q4 R) E ds w :=
  TrL_one (Tr_loop' (c := innerC c96_6_0) (σ := Int) (enc := (fun (s : Int) (E : Env) => E 23 = .int .i64 s)) (D := (fun E K => dInt .i64 (E 23) fun n23 => K n23)) (F := (fun (J1 : (Int) -> World -> Prop) (s : Int) (w : World) => F96_2 R J1 p7 l21 n22 s ds w)) (s0 := n23) (by kernel_rfl) c96_6_0_l e23 (by kernel_rfl) (fun E K hD => by obtain ⟨n23, e23, hD⟩ := dInt_elim hD; exact ⟨n23, e23, hD⟩)
      (fun J1 s E' w' he ha hF => by
      have e23' := he
      exact F96_2_ok R J1 p7 l21 n22 s ds w' E' ((ha 7 (by kernel_rfl)).trans e7) ((ha 21 (by kernel_rfl)).trans e21) ((ha 22 (by kernel_rfl)).trans e22) e23' hF) h)
theorem F96_4_ok (R : Rt) (p7 : Option Addr) (l21 : SV) (n22 n23 : Int) (ds : Ds) (w : World) (E : Env) (e7 : E 7 = .pointer p7) (e21 : E 21 = .slice l21.a l21.len l21.cap) (e22 : E 22 = .int .i64 n22) (e23 : E 23 = .int .i64 n23) (h : F96_4 R p7 l21 n22 n23 ds w) :
    TrL prog f96.ntmps [c96_6, c96_7, c96_8] (F96_q1 R) E ds w :=
  TrL_head (K := (F96_k2 R)) (Tr_block' (c := innerC c96_6) (by kernel_rfl) c96_6_l (F96_3_ok R p7 l21 n22 n23 ds w E e7 e21 e22 e23 h))
    (fun E' ds' w' hD => by
      exact F96_1_ok R ds' w' E'  hD)
theorem F96_5_ok (R : Rt) (s0 : ByteArray) (n1 : Int) (ds : Ds) (w : World) (E : Env) (e0 : E 0 = .string s0) (e1 : E 1 = .int .i64 n1) (h : F96_5 R s0 n1 ds w) :
    TrL prog f96.ntmps [c96_0, c96_1, c96_2, c96_3, c96_4, c96_5, c96_6, c96_7, c96_8] (F96_q1 R) E ds w :=
  TrL_piece (pre := [c96_0, c96_1, c96_2, c96_3, c96_4, c96_5]) (K := (F96_k6 R)) (X := F96_5 R s0 n1 ds w) (setAll_cons e0 (setAll_cons e1 setAll_nil)) (by kernel_rfl) (by kernel_rfl)
    (fun E' ds' w' hD => by
      obtain ⟨p7, e7, hD⟩ := dPtr_elim hD; obtain ⟨l21, e21, hD⟩ := dSl_elim hD; obtain ⟨n22, e22, hD⟩ := dInt_elim hD; obtain ⟨n23, e23, hD⟩ := dInt_elim hD; exact F96_4_ok R p7 l21 n22 n23 ds' w' E' e7 e21 e22 e23 hD) h
theorem F96_calls (s0 : ByteArray) (n1 : Int) (w : World) (R : Rt) (h : F96_5 R s0 n1 [] w) : Calls prog 96 #[.string s0, .int .i64 n1] w R :=
  calls_of_L (l := [c96_0, c96_1, c96_2, c96_3, c96_4, c96_5, c96_6, c96_7, c96_8]) func96 (by kernel_rfl) (by rw [ntmps96]; exact Nat.le_of_ble_eq_true (by kernel_rfl)) c96_l
    (F96_5_ok R s0 n1 [] w _ rfl rfl h)
noncomputable def c140_0 := cI3 f140 0
noncomputable def c140_1 := cI3 f140 1
noncomputable def c140_2 := cI3 f140 2
noncomputable def c140_3 := cI3 f140 3
noncomputable def c140_4 := cI3 f140 4
noncomputable def c140_5 := cI3 f140 5
noncomputable def c140_6 := cI3 f140 6
noncomputable def c140_2_0 := cJ3 c140_2 0
noncomputable def c140_2_0_0 := cJ3 c140_2_0 0
noncomputable def c140_2_0_1 := cJ3 c140_2_0 1
noncomputable def c140_2_0_2 := cJ3 c140_2_0 2
noncomputable def c140_2_0_3 := cJ3 c140_2_0 3
def F140_q1 (R : Rt) : EQ := endQ prog f140.results.toList R
def F140_1 (R : Rt) (n0 : Int) (ds : Ds) (w : World) : Prop :=
 Br (decide (n0 < 0)) (
 runD prog ds w fun w1 =>
 R (.returned (.int .i64 1)) w1) (
 Br (decide (n0 > 2)) (
 runD prog ds w fun w2 =>
 R (.returned (.int .i64 1)) w2) (
 runD prog ds w fun w3 =>
 R (.returned (.int .i64 0)) w3))
def F140_k2 (R : Rt) : EP := (fun E ds w => dInt .i64 (E 0) fun n0 => F140_1 R n0 ds w)
def F140_q3 (R : Rt) : EQ := (thenQ (F140_k2 R) (F140_q1 R))
def F140_q4 (R : Rt) : EQ := (blockQ 0 (F140_q3 R))
def F140_q5 (R : Rt) (J1 : (Int) -> World -> Prop) : EQ := (thenQ (fun E _ w => dInt .i64 (E 9) fun n9 => J1 n9 w) (F140_q4 R))
def F140_2 (R : Rt) (J1 : (Int) -> World -> Prop) (n0 : Int) (l7 : SV) (n8 n9 : Int) (ds : Ds) (w : World) : Prop :=
 Br (decide (n9 < n8)) (
 ∃ a4 : Addr, l7.a = some a4 /\ 0 ≤ n9 /\ n9 < (l7.len : Int) /\
 ∃ s12 : ByteArray, w.cell? (a4.add (n9.toNat * 1)) = some (.string s12) /\
 Br (decide ((s12.size : Int) > 2048)) (
 runD prog ds w fun w5 =>
 R (.returned (.int .i64 3)) w5) (
 J1 (IntKind.i64.wrap (n9 + 1)) w)) (
 F140_1 R n0 ds w)
def F140_3 (R : Rt) (n0 : Int) (l7 : SV) (n8 n9 : Int) (ds : Ds) (w : World) : Prop :=
 loopT (fun (J1 : (Int) -> World -> Prop) (s : Int) (w : World) => F140_2 R J1 n0 l7 n8 s ds w) n9 w
abbrev F140_4 (R : Rt) (n0 : Int) (l7 : SV) (n8 n9 : Int) (ds : Ds) (w : World) : Prop := F140_3 R n0 l7 n8 n9 ds w
def F140_k6 (R : Rt) : EP := (fun E ds w => dInt .i64 (E 0) fun n0 => dSl (E 7) fun l7 => dInt .i64 (E 8) fun n8 => dInt .i64 (E 9) fun n9 => F140_4 R n0 l7 n8 n9 ds w)
def F140_5 (R : Rt) (n0 : Int) (l1 : SV) (ds : Ds) (w : World) : Prop :=
 F140_4 R n0 l1 (l1.len : Int) 0 ds w
theorem c140_l : flat (bodyOf f140) = [c140_0, c140_1, c140_2, c140_3, c140_4, c140_5, c140_6] := by kernel_rfl
theorem c140_2_l : flat (innerC c140_2) = [c140_2_0] := by kernel_rfl
theorem c140_2_0_l : flat (innerC c140_2_0) = [c140_2_0_0, c140_2_0_1, c140_2_0_2, c140_2_0_3] := by kernel_rfl
theorem F140_1_ok (R : Rt) (n0 : Int) (ds : Ds) (w : World) (E : Env) (e0 : E 0 = .int .i64 n0) (h : F140_1 R n0 ds w) :
    TrL prog f140.ntmps [c140_3, c140_4, c140_5, c140_6] (F140_q1 R) E ds w :=
  TrL_leaf (X := F140_1 R n0 ds w) (setAll_cons e0 setAll_nil) (by kernel_rfl) (by kernel_rfl) h
theorem F140_2_ok (R : Rt) (J1 : (Int) -> World -> Prop) (n0 : Int) (l7 : SV) (n8 n9 : Int) (ds : Ds) (w : World) (E : Env) (e0 : E 0 = .int .i64 n0) (e7 : E 7 = .slice l7.a l7.len l7.cap) (e8 : E 8 = .int .i64 n8) (e9 : E 9 = .int .i64 n9) (h : F140_2 R J1 n0 l7 n8 n9 ds w) :
    TrL prog f140.ntmps [c140_2_0_0, c140_2_0_1, c140_2_0_2, c140_2_0_3] (F140_q5 R J1) E ds w :=
  TrL_leaf (X := F140_2 R J1 n0 l7 n8 n9 ds w) (setAll_cons e0 (setAll_cons e7 (setAll_cons e8 (setAll_cons e9 setAll_nil)))) (by kernel_rfl) (by kernel_rfl) h
theorem F140_3_ok (R : Rt) (n0 : Int) (l7 : SV) (n8 n9 : Int) (ds : Ds) (w : World) (E : Env) (e0 : E 0 = .int .i64 n0) (e7 : E 7 = .slice l7.a l7.len l7.cap) (e8 : E 8 = .int .i64 n8) (e9 : E 9 = .int .i64 n9) (h : F140_3 R n0 l7 n8 n9 ds w) :
    TrL prog f140.ntmps [c140_2_0] (F140_q4 R) E ds w :=
  TrL_one (Tr_loop' (c := innerC c140_2_0) (σ := Int) (enc := (fun (s : Int) (E : Env) => E 9 = .int .i64 s)) (D := (fun E K => dInt .i64 (E 9) fun n9 => K n9)) (F := (fun (J1 : (Int) -> World -> Prop) (s : Int) (w : World) => F140_2 R J1 n0 l7 n8 s ds w)) (s0 := n9) (by kernel_rfl) c140_2_0_l e9 (by kernel_rfl) (fun E K hD => by obtain ⟨n9, e9, hD⟩ := dInt_elim hD; exact ⟨n9, e9, hD⟩)
      (fun J1 s E' w' he ha hF => by
      have e9' := he
      exact F140_2_ok R J1 n0 l7 n8 s ds w' E' ((ha 0 (by kernel_rfl)).trans e0) ((ha 7 (by kernel_rfl)).trans e7) ((ha 8 (by kernel_rfl)).trans e8) e9' hF) h)
theorem F140_4_ok (R : Rt) (n0 : Int) (l7 : SV) (n8 n9 : Int) (ds : Ds) (w : World) (E : Env) (e0 : E 0 = .int .i64 n0) (e7 : E 7 = .slice l7.a l7.len l7.cap) (e8 : E 8 = .int .i64 n8) (e9 : E 9 = .int .i64 n9) (h : F140_4 R n0 l7 n8 n9 ds w) :
    TrL prog f140.ntmps [c140_2, c140_3, c140_4, c140_5, c140_6] (F140_q1 R) E ds w :=
  TrL_head (K := (F140_k2 R)) (Tr_block' (c := innerC c140_2) (by kernel_rfl) c140_2_l (F140_3_ok R n0 l7 n8 n9 ds w E e0 e7 e8 e9 h))
    (fun E' ds' w' hD => by
      obtain ⟨n0, e0, hD⟩ := dInt_elim hD; exact F140_1_ok R n0 ds' w' E' e0 hD)
theorem F140_5_ok (R : Rt) (n0 : Int) (l1 : SV) (ds : Ds) (w : World) (E : Env) (e0 : E 0 = .int .i64 n0) (e1 : E 1 = .slice l1.a l1.len l1.cap) (h : F140_5 R n0 l1 ds w) :
    TrL prog f140.ntmps [c140_0, c140_1, c140_2, c140_3, c140_4, c140_5, c140_6] (F140_q1 R) E ds w :=
  TrL_piece (pre := [c140_0, c140_1]) (K := (F140_k6 R)) (X := F140_5 R n0 l1 ds w) (setAll_cons e0 (setAll_cons e1 setAll_nil)) (by kernel_rfl) (by kernel_rfl)
    (fun E' ds' w' hD => by
      obtain ⟨n0, e0, hD⟩ := dInt_elim hD; obtain ⟨l7, e7, hD⟩ := dSl_elim hD; obtain ⟨n8, e8, hD⟩ := dInt_elim hD; obtain ⟨n9, e9, hD⟩ := dInt_elim hD; exact F140_4_ok R n0 l7 n8 n9 ds' w' E' e0 e7 e8 e9 hD) h
theorem F140_calls (n0 : Int) (l1 : SV) (w : World) (R : Rt) (h : F140_5 R n0 l1 [] w) : Calls prog 140 #[.int .i64 n0, .slice l1.a l1.len l1.cap] w R :=
  calls_of_L (l := [c140_0, c140_1, c140_2, c140_3, c140_4, c140_5, c140_6]) func140 (by kernel_rfl) (by rw [ntmps140]; exact Nat.le_of_ble_eq_true (by kernel_rfl)) c140_l
    (F140_5_ok R n0 l1 [] w _ rfl rfl h)
noncomputable def c141_0 := cI3 f141 0
noncomputable def c141_1 := cI3 f141 1
noncomputable def c141_2 := cI3 f141 2
noncomputable def c141_3 := cI3 f141 3
noncomputable def c141_4 := cI3 f141 4
noncomputable def c141_5 := cI3 f141 5
noncomputable def c141_6 := cI3 f141 6
noncomputable def c141_7 := cI3 f141 7
noncomputable def c141_8 := cI3 f141 8
noncomputable def c141_9 := cI3 f141 9
noncomputable def c141_7_0 := cJ3 c141_7 0
noncomputable def c141_7_0_0 := cJ3 c141_7_0 0
noncomputable def c141_7_0_1 := cJ3 c141_7_0 1
noncomputable def c141_7_0_2 := cJ3 c141_7_0 2
noncomputable def c141_7_0_3 := cJ3 c141_7_0 3
noncomputable def c141_5_0 := cJ3 c141_5 0
noncomputable def c141_5_0_0 := cJ3 c141_5_0 0
noncomputable def c141_5_0_1 := cJ3 c141_5_0 1
noncomputable def c141_5_0_2 := cJ3 c141_5_0 2
noncomputable def c141_5_0_3 := cJ3 c141_5_0 3
noncomputable def c141_3_0 := cJ3 c141_3 0
noncomputable def c141_3_0_0 := cJ3 c141_3_0 0
noncomputable def c141_3_0_1 := cJ3 c141_3_0 1
noncomputable def c141_3_0_2 := cJ3 c141_3_0 2
noncomputable def c141_3_0_3 := cJ3 c141_3_0 3
def F141_q1 (R : Rt) : EQ := endQ prog f141.results.toList R
def F141_1 (R : Rt) (p0 p1 : Option Addr) (ds : Ds) (w : World) : Prop :=
 ptrE p1 fun a1 =>
 ∃ c48 : Array Value, c48.size = 768 /\ (∀ i, i < 768 -> w.cell? (a1.add i) = c48[i]?) /\
 ptrE p0 fun a2 =>
 stA prog 149 a2 c48 w fun w3 =>
 runD prog ds w3 fun w4 =>
 ptrE p0 fun a5 =>
 ∃ cR0 : Array Value, cR0.size = 768 /\ (∀ i, i < 768 -> w4.cell? (a5.add i) = cR0[i]?) /\
 R (.returned (.agg cR0)) w4
def F141_k2 (R : Rt) : EP := (fun E ds w => dPtr (E 0) fun p0 => dPtr (E 1) fun p1 => F141_1 R p0 p1 ds w)
def F141_q3 (R : Rt) : EQ := (thenQ (F141_k2 R) (F141_q1 R))
def F141_q4 (R : Rt) : EQ := (blockQ 4 (F141_q3 R))
def F141_q5 (R : Rt) (J1 : (Int) -> World -> Prop) : EQ := (thenQ (fun E _ w => dInt .i64 (E 5) fun n5 => J1 n5 w) (F141_q4 R))
def F141_2 (R : Rt) (J1 : (Int) -> World -> Prop) (p0 p1 : Option Addr) (n5 : Int) (ds : Ds) (w : World) : Prop :=
 Br (decide (n5 ≤ 239)) (
 ptrE p1 fun a6 =>
 0 ≤ (2 : Int) /\ (2 : Int) < (3 : Int) /\
 0 ≤ n5 /\ n5 < (256 : Int) /\
 st1 ((a6.add ((2 : Int).toNat * 256)).add (n5.toNat * 1)) (.int .i32 (IntKind.i32.wrap ((1088 : Int) + (IntKind.i32.wrap (IntKind.i64.wrap (n5 - 224)))))) w fun w7 =>
 J1 (IntKind.i64.wrap (n5 + 1)) w7) (
 F141_1 R p0 p1 ds w)
def F141_3 (R : Rt) (p0 p1 : Option Addr) (n5 : Int) (ds : Ds) (w : World) : Prop :=
 loopT (fun (J1 : (Int) -> World -> Prop) (s : Int) (w : World) => F141_2 R J1 p0 p1 s ds w) n5 w
abbrev F141_4 (R : Rt) (p0 p1 : Option Addr) (n5 : Int) (ds : Ds) (w : World) : Prop := F141_3 R p0 p1 n5 ds w
def F141_k6 (R : Rt) : EP := (fun E ds w => dPtr (E 0) fun p0 => dPtr (E 1) fun p1 => dInt .i64 (E 5) fun n5 => F141_4 R p0 p1 n5 ds w)
def F141_5 (R : Rt) (p0 p1 : Option Addr) (ds : Ds) (w : World) : Prop :=
 F141_4 R p0 p1 224 ds w
def F141_k7 (R : Rt) : EP := (fun E ds w => dPtr (E 0) fun p0 => dPtr (E 1) fun p1 => F141_5 R p0 p1 ds w)
def F141_q8 (R : Rt) : EQ := (thenQ (F141_k7 R) (F141_q1 R))
def F141_q9 (R : Rt) : EQ := (blockQ 2 (F141_q8 R))
def F141_q10 (R : Rt) (J1 : (Int) -> World -> Prop) : EQ := (thenQ (fun E _ w => dInt .i64 (E 4) fun n4 => J1 n4 w) (F141_q9 R))
def F141_6 (R : Rt) (J1 : (Int) -> World -> Prop) (p0 p1 : Option Addr) (n4 : Int) (ds : Ds) (w : World) : Prop :=
 Br (decide (n4 ≤ 175)) (
 ptrE p1 fun a8 =>
 0 ≤ (2 : Int) /\ (2 : Int) < (3 : Int) /\
 0 ≤ n4 /\ n4 < (256 : Int) /\
 st1 ((a8.add ((2 : Int).toNat * 256)).add (n4.toNat * 1)) (.int .i32 (IntKind.i32.wrap ((1040 : Int) + (IntKind.i32.wrap (IntKind.i64.wrap (n4 - 128)))))) w fun w9 =>
 J1 (IntKind.i64.wrap (n4 + 1)) w9) (
 F141_5 R p0 p1 ds w)
def F141_7 (R : Rt) (p0 p1 : Option Addr) (n4 : Int) (ds : Ds) (w : World) : Prop :=
 loopT (fun (J1 : (Int) -> World -> Prop) (s : Int) (w : World) => F141_6 R J1 p0 p1 s ds w) n4 w
abbrev F141_8 (R : Rt) (p0 p1 : Option Addr) (n4 : Int) (ds : Ds) (w : World) : Prop := F141_7 R p0 p1 n4 ds w
def F141_k11 (R : Rt) : EP := (fun E ds w => dPtr (E 0) fun p0 => dPtr (E 1) fun p1 => dInt .i64 (E 4) fun n4 => F141_8 R p0 p1 n4 ds w)
def F141_9 (R : Rt) (p0 p1 : Option Addr) (ds : Ds) (w : World) : Prop :=
 F141_8 R p0 p1 128 ds w
def F141_k12 (R : Rt) : EP := (fun E ds w => dPtr (E 0) fun p0 => dPtr (E 1) fun p1 => F141_9 R p0 p1 ds w)
def F141_q13 (R : Rt) : EQ := (thenQ (F141_k12 R) (F141_q1 R))
def F141_q14 (R : Rt) : EQ := (blockQ 0 (F141_q13 R))
def F141_q15 (R : Rt) (J1 : (Int) -> World -> Prop) : EQ := (thenQ (fun E _ w => dInt .i64 (E 6) fun n6 => J1 n6 w) (F141_q14 R))
def F141_10 (R : Rt) (J1 : (Int) -> World -> Prop) (p0 p1 : Option Addr) (n6 : Int) (ds : Ds) (w : World) : Prop :=
 Br (decide (n6 < 256)) (
 ptrE p1 fun a10 =>
 0 ≤ (1 : Int) /\ (1 : Int) < (3 : Int) /\
 0 ≤ n6 /\ n6 < (256 : Int) /\
 st1 ((a10.add ((1 : Int).toNat * 256)).add (n6.toNat * 1)) (.int .i32 (IntKind.i32.wrap n6)) w fun w11 =>
 Br (decide (n6 ≥ 128)) (
 ptrE p1 fun a12 =>
 0 ≤ (0 : Int) /\ (0 : Int) < (3 : Int) /\
 0 ≤ n6 /\ n6 < (256 : Int) /\
 st1 ((a12.add ((0 : Int).toNat * 256)).add (n6.toNat * 1)) (.int .i32 (-1)) w11 fun w13 =>
 ptrE p1 fun a14 =>
 0 ≤ (2 : Int) /\ (2 : Int) < (3 : Int) /\
 0 ≤ n6 /\ n6 < (256 : Int) /\
 st1 ((a14.add ((2 : Int).toNat * 256)).add (n6.toNat * 1)) (.int .i32 (-1)) w13 fun w15 =>
 J1 (IntKind.i64.wrap (n6 + 1)) w15) (
 ptrE p1 fun a16 =>
 0 ≤ (0 : Int) /\ (0 : Int) < (3 : Int) /\
 0 ≤ n6 /\ n6 < (256 : Int) /\
 st1 ((a16.add ((0 : Int).toNat * 256)).add (n6.toNat * 1)) (.int .i32 (IntKind.i32.wrap n6)) w11 fun w17 =>
 ptrE p1 fun a18 =>
 0 ≤ (2 : Int) /\ (2 : Int) < (3 : Int) /\
 0 ≤ n6 /\ n6 < (256 : Int) /\
 st1 ((a18.add ((2 : Int).toNat * 256)).add (n6.toNat * 1)) (.int .i32 (IntKind.i32.wrap n6)) w17 fun w19 =>
 J1 (IntKind.i64.wrap (n6 + 1)) w19)) (
 F141_9 R p0 p1 ds w)
def F141_11 (R : Rt) (p0 p1 : Option Addr) (n6 : Int) (ds : Ds) (w : World) : Prop :=
 loopT (fun (J1 : (Int) -> World -> Prop) (s : Int) (w : World) => F141_10 R J1 p0 p1 s ds w) n6 w
abbrev F141_12 (R : Rt) (p0 p1 : Option Addr) (n6 : Int) (ds : Ds) (w : World) : Prop := F141_11 R p0 p1 n6 ds w
def F141_k16 (R : Rt) : EP := (fun E ds w => dPtr (E 0) fun p0 => dPtr (E 1) fun p1 => dInt .i64 (E 6) fun n6 => F141_12 R p0 p1 n6 ds w)
def F141_13 (R : Rt) (ds : Ds) (w : World) : Prop :=
 alE (.cells (zc prog 149) 149) w fun r0 w20 =>
 alE (.cells (zc prog 149) 149) w20 fun r1 w21 =>
 F141_12 R (some (⟨r0, 0, none⟩ : Addr)) (some (⟨r1, 0, none⟩ : Addr)) 0 ds w21
theorem c141_l : flat (bodyOf f141) = [c141_0, c141_1, c141_2, c141_3, c141_4, c141_5, c141_6, c141_7, c141_8, c141_9] := by kernel_rfl
theorem c141_7_l : flat (innerC c141_7) = [c141_7_0] := by kernel_rfl
theorem c141_7_0_l : flat (innerC c141_7_0) = [c141_7_0_0, c141_7_0_1, c141_7_0_2, c141_7_0_3] := by kernel_rfl
theorem c141_5_l : flat (innerC c141_5) = [c141_5_0] := by kernel_rfl
theorem c141_5_0_l : flat (innerC c141_5_0) = [c141_5_0_0, c141_5_0_1, c141_5_0_2, c141_5_0_3] := by kernel_rfl
theorem c141_3_l : flat (innerC c141_3) = [c141_3_0] := by kernel_rfl
theorem c141_3_0_l : flat (innerC c141_3_0) = [c141_3_0_0, c141_3_0_1, c141_3_0_2, c141_3_0_3] := by kernel_rfl
theorem F141_1_ok (R : Rt) (p0 p1 : Option Addr) (ds : Ds) (w : World) (E : Env) (e0 : E 0 = .pointer p0) (e1 : E 1 = .pointer p1) (h : F141_1 R p0 p1 ds w) :
    TrL prog f141.ntmps [c141_8, c141_9] (F141_q1 R) E ds w :=
  TrL_leaf (X := F141_1 R p0 p1 ds w) (setAll_cons e0 (setAll_cons e1 setAll_nil)) (by kernel_rfl) (by kernel_rfl) h
theorem F141_2_ok (R : Rt) (J1 : (Int) -> World -> Prop) (p0 p1 : Option Addr) (n5 : Int) (ds : Ds) (w : World) (E : Env) (e0 : E 0 = .pointer p0) (e1 : E 1 = .pointer p1) (e5 : E 5 = .int .i64 n5) (h : F141_2 R J1 p0 p1 n5 ds w) :
    TrL prog f141.ntmps [c141_7_0_0, c141_7_0_1, c141_7_0_2, c141_7_0_3] (F141_q5 R J1) E ds w :=
  TrL_leaf (X := F141_2 R J1 p0 p1 n5 ds w) (setAll_cons e0 (setAll_cons e1 (setAll_cons e5 setAll_nil))) (by kernel_rfl) (by kernel_rfl) h
theorem F141_3_ok (R : Rt) (p0 p1 : Option Addr) (n5 : Int) (ds : Ds) (w : World) (E : Env) (e0 : E 0 = .pointer p0) (e1 : E 1 = .pointer p1) (e5 : E 5 = .int .i64 n5) (h : F141_3 R p0 p1 n5 ds w) :
    TrL prog f141.ntmps [c141_7_0] (F141_q4 R) E ds w :=
  TrL_one (Tr_loop' (c := innerC c141_7_0) (σ := Int) (enc := (fun (s : Int) (E : Env) => E 5 = .int .i64 s)) (D := (fun E K => dInt .i64 (E 5) fun n5 => K n5)) (F := (fun (J1 : (Int) -> World -> Prop) (s : Int) (w : World) => F141_2 R J1 p0 p1 s ds w)) (s0 := n5) (by kernel_rfl) c141_7_0_l e5 (by kernel_rfl) (fun E K hD => by obtain ⟨n5, e5, hD⟩ := dInt_elim hD; exact ⟨n5, e5, hD⟩)
      (fun J1 s E' w' he ha hF => by
      have e5' := he
      exact F141_2_ok R J1 p0 p1 s ds w' E' ((ha 0 (by kernel_rfl)).trans e0) ((ha 1 (by kernel_rfl)).trans e1) e5' hF) h)
theorem F141_4_ok (R : Rt) (p0 p1 : Option Addr) (n5 : Int) (ds : Ds) (w : World) (E : Env) (e0 : E 0 = .pointer p0) (e1 : E 1 = .pointer p1) (e5 : E 5 = .int .i64 n5) (h : F141_4 R p0 p1 n5 ds w) :
    TrL prog f141.ntmps [c141_7, c141_8, c141_9] (F141_q1 R) E ds w :=
  TrL_head (K := (F141_k2 R)) (Tr_block' (c := innerC c141_7) (by kernel_rfl) c141_7_l (F141_3_ok R p0 p1 n5 ds w E e0 e1 e5 h))
    (fun E' ds' w' hD => by
      obtain ⟨p0, e0, hD⟩ := dPtr_elim hD; obtain ⟨p1, e1, hD⟩ := dPtr_elim hD; exact F141_1_ok R p0 p1 ds' w' E' e0 e1 hD)
theorem F141_5_ok (R : Rt) (p0 p1 : Option Addr) (ds : Ds) (w : World) (E : Env) (e0 : E 0 = .pointer p0) (e1 : E 1 = .pointer p1) (h : F141_5 R p0 p1 ds w) :
    TrL prog f141.ntmps [c141_6, c141_7, c141_8, c141_9] (F141_q1 R) E ds w :=
  TrL_piece (pre := [c141_6]) (K := (F141_k6 R)) (X := F141_5 R p0 p1 ds w) (setAll_cons e0 (setAll_cons e1 setAll_nil)) (by kernel_rfl) (by kernel_rfl)
    (fun E' ds' w' hD => by
      obtain ⟨p0, e0, hD⟩ := dPtr_elim hD; obtain ⟨p1, e1, hD⟩ := dPtr_elim hD; obtain ⟨n5, e5, hD⟩ := dInt_elim hD; exact F141_4_ok R p0 p1 n5 ds' w' E' e0 e1 e5 hD) h
theorem F141_6_ok (R : Rt) (J1 : (Int) -> World -> Prop) (p0 p1 : Option Addr) (n4 : Int) (ds : Ds) (w : World) (E : Env) (e0 : E 0 = .pointer p0) (e1 : E 1 = .pointer p1) (e4 : E 4 = .int .i64 n4) (h : F141_6 R J1 p0 p1 n4 ds w) :
    TrL prog f141.ntmps [c141_5_0_0, c141_5_0_1, c141_5_0_2, c141_5_0_3] (F141_q10 R J1) E ds w :=
  TrL_leaf (X := F141_6 R J1 p0 p1 n4 ds w) (setAll_cons e0 (setAll_cons e1 (setAll_cons e4 setAll_nil))) (by kernel_rfl) (by kernel_rfl) h
theorem F141_7_ok (R : Rt) (p0 p1 : Option Addr) (n4 : Int) (ds : Ds) (w : World) (E : Env) (e0 : E 0 = .pointer p0) (e1 : E 1 = .pointer p1) (e4 : E 4 = .int .i64 n4) (h : F141_7 R p0 p1 n4 ds w) :
    TrL prog f141.ntmps [c141_5_0] (F141_q9 R) E ds w :=
  TrL_one (Tr_loop' (c := innerC c141_5_0) (σ := Int) (enc := (fun (s : Int) (E : Env) => E 4 = .int .i64 s)) (D := (fun E K => dInt .i64 (E 4) fun n4 => K n4)) (F := (fun (J1 : (Int) -> World -> Prop) (s : Int) (w : World) => F141_6 R J1 p0 p1 s ds w)) (s0 := n4) (by kernel_rfl) c141_5_0_l e4 (by kernel_rfl) (fun E K hD => by obtain ⟨n4, e4, hD⟩ := dInt_elim hD; exact ⟨n4, e4, hD⟩)
      (fun J1 s E' w' he ha hF => by
      have e4' := he
      exact F141_6_ok R J1 p0 p1 s ds w' E' ((ha 0 (by kernel_rfl)).trans e0) ((ha 1 (by kernel_rfl)).trans e1) e4' hF) h)
theorem F141_8_ok (R : Rt) (p0 p1 : Option Addr) (n4 : Int) (ds : Ds) (w : World) (E : Env) (e0 : E 0 = .pointer p0) (e1 : E 1 = .pointer p1) (e4 : E 4 = .int .i64 n4) (h : F141_8 R p0 p1 n4 ds w) :
    TrL prog f141.ntmps [c141_5, c141_6, c141_7, c141_8, c141_9] (F141_q1 R) E ds w :=
  TrL_head (K := (F141_k7 R)) (Tr_block' (c := innerC c141_5) (by kernel_rfl) c141_5_l (F141_7_ok R p0 p1 n4 ds w E e0 e1 e4 h))
    (fun E' ds' w' hD => by
      obtain ⟨p0, e0, hD⟩ := dPtr_elim hD; obtain ⟨p1, e1, hD⟩ := dPtr_elim hD; exact F141_5_ok R p0 p1 ds' w' E' e0 e1 hD)
theorem F141_9_ok (R : Rt) (p0 p1 : Option Addr) (ds : Ds) (w : World) (E : Env) (e0 : E 0 = .pointer p0) (e1 : E 1 = .pointer p1) (h : F141_9 R p0 p1 ds w) :
    TrL prog f141.ntmps [c141_4, c141_5, c141_6, c141_7, c141_8, c141_9] (F141_q1 R) E ds w :=
  TrL_piece (pre := [c141_4]) (K := (F141_k11 R)) (X := F141_9 R p0 p1 ds w) (setAll_cons e0 (setAll_cons e1 setAll_nil)) (by kernel_rfl) (by kernel_rfl)
    (fun E' ds' w' hD => by
      obtain ⟨p0, e0, hD⟩ := dPtr_elim hD; obtain ⟨p1, e1, hD⟩ := dPtr_elim hD; obtain ⟨n4, e4, hD⟩ := dInt_elim hD; exact F141_8_ok R p0 p1 n4 ds' w' E' e0 e1 e4 hD) h
theorem F141_10_ok (R : Rt) (J1 : (Int) -> World -> Prop) (p0 p1 : Option Addr) (n6 : Int) (ds : Ds) (w : World) (E : Env) (e0 : E 0 = .pointer p0) (e1 : E 1 = .pointer p1) (e6 : E 6 = .int .i64 n6) (h : F141_10 R J1 p0 p1 n6 ds w) :
    TrL prog f141.ntmps [c141_3_0_0, c141_3_0_1, c141_3_0_2, c141_3_0_3] (F141_q15 R J1) E ds w :=
  TrL_leaf (X := F141_10 R J1 p0 p1 n6 ds w) (setAll_cons e0 (setAll_cons e1 (setAll_cons e6 setAll_nil))) (by kernel_rfl) (by kernel_rfl) h
theorem F141_11_ok (R : Rt) (p0 p1 : Option Addr) (n6 : Int) (ds : Ds) (w : World) (E : Env) (e0 : E 0 = .pointer p0) (e1 : E 1 = .pointer p1) (e6 : E 6 = .int .i64 n6) (h : F141_11 R p0 p1 n6 ds w) :
    TrL prog f141.ntmps [c141_3_0] (F141_q14 R) E ds w :=
  TrL_one (Tr_loop' (c := innerC c141_3_0) (σ := Int) (enc := (fun (s : Int) (E : Env) => E 6 = .int .i64 s)) (D := (fun E K => dInt .i64 (E 6) fun n6 => K n6)) (F := (fun (J1 : (Int) -> World -> Prop) (s : Int) (w : World) => F141_10 R J1 p0 p1 s ds w)) (s0 := n6) (by kernel_rfl) c141_3_0_l e6 (by kernel_rfl) (fun E K hD => by obtain ⟨n6, e6, hD⟩ := dInt_elim hD; exact ⟨n6, e6, hD⟩)
      (fun J1 s E' w' he ha hF => by
      have e6' := he
      exact F141_10_ok R J1 p0 p1 s ds w' E' ((ha 0 (by kernel_rfl)).trans e0) ((ha 1 (by kernel_rfl)).trans e1) e6' hF) h)
theorem F141_12_ok (R : Rt) (p0 p1 : Option Addr) (n6 : Int) (ds : Ds) (w : World) (E : Env) (e0 : E 0 = .pointer p0) (e1 : E 1 = .pointer p1) (e6 : E 6 = .int .i64 n6) (h : F141_12 R p0 p1 n6 ds w) :
    TrL prog f141.ntmps [c141_3, c141_4, c141_5, c141_6, c141_7, c141_8, c141_9] (F141_q1 R) E ds w :=
  TrL_head (K := (F141_k12 R)) (Tr_block' (c := innerC c141_3) (by kernel_rfl) c141_3_l (F141_11_ok R p0 p1 n6 ds w E e0 e1 e6 h))
    (fun E' ds' w' hD => by
      obtain ⟨p0, e0, hD⟩ := dPtr_elim hD; obtain ⟨p1, e1, hD⟩ := dPtr_elim hD; exact F141_9_ok R p0 p1 ds' w' E' e0 e1 hD)
theorem F141_13_ok (R : Rt) (ds : Ds) (w : World) (E : Env) (h : F141_13 R ds w) :
    TrL prog f141.ntmps [c141_0, c141_1, c141_2, c141_3, c141_4, c141_5, c141_6, c141_7, c141_8, c141_9] (F141_q1 R) E ds w :=
  TrL_piece (pre := [c141_0, c141_1, c141_2]) (K := (F141_k16 R)) (X := F141_13 R ds w) setAll_nil (by kernel_rfl) (by kernel_rfl)
    (fun E' ds' w' hD => by
      obtain ⟨p0, e0, hD⟩ := dPtr_elim hD; obtain ⟨p1, e1, hD⟩ := dPtr_elim hD; obtain ⟨n6, e6, hD⟩ := dInt_elim hD; exact F141_12_ok R p0 p1 n6 ds' w' E' e0 e1 e6 hD) h
theorem F141_calls  (w : World) (R : Rt) (h : F141_13 R [] w) : Calls prog 141 #[] w R :=
  calls_of_L (l := [c141_0, c141_1, c141_2, c141_3, c141_4, c141_5, c141_6, c141_7, c141_8, c141_9]) func141 (by kernel_rfl) (by rw [ntmps141]; exact Nat.le_of_ble_eq_true (by kernel_rfl)) c141_l
    (F141_13_ok R [] w _  h)
end Go.Proofs.YtecmfdfhpldmmaaGreatDoor

/- Shallow texts of functions, printed by program, each checked by the kernel against the loaded code. No condition. -/
set_option maxRecDepth 100000
set_option linter.unusedVariables false
namespace Go.Proofs.YtecmfdfhpldmmaaGreatDoor
open Go.Sh
open Tryz
@[reducible] noncomputable def cI4 (f : Func) (i : Nat) : Code := itemAt (flat (bodyOf f)) i
noncomputable def c13_0 := cI4 f13 0
noncomputable def c13_1 := cI4 f13 1
noncomputable def c13_2 := cI4 f13 2
noncomputable def c13_3 := cI4 f13 3
noncomputable def c13_4 := cI4 f13 4
noncomputable def c13_5 := cI4 f13 5
noncomputable def c13_6 := cI4 f13 6
noncomputable def c13_7 := cI4 f13 7
noncomputable def c13_8 := cI4 f13 8
noncomputable def c13_9 := cI4 f13 9
noncomputable def c13_10 := cI4 f13 10
noncomputable def c13_11 := cI4 f13 11
noncomputable def c13_12 := cI4 f13 12
noncomputable def c13_13 := cI4 f13 13
def F13_q1 (R : Rt) : EQ := endQ prog f13.results.toList R
def F13_1 (R : Rt) (n1 : Int) (p3 p5 p6 : Option Addr) (n42 : Int) (ds : Ds) (w : World) : Prop :=
 Br (n42 == 4) (
 ptrE p5 fun a1 =>
 ∃ s46 : ByteArray, w.cell? (a1.add 2) = some (.string s46) /\
 ptrE p5 fun a2 =>
 ∃ s48 : ByteArray, w.cell? (a2.add 2) = some (.string s48) /\
 ptrE p3 fun a3 =>
 ∃ n51 : Int, w.cell? (a3.add 2) = some (.int .i64 n51) /\
 ∃ n52 : Int, ∃ w4 : World, (Builtin.min_ #[3, 3] 3 #[.int .i64 (s48.size : Int), .int .i64 n51]).run prog w = .ok (.int .i64 n52) w4 /\
 0 ≤ n52 /\ n52.toNat ≤ s46.size /\ 0 ≤ n52.toNat /\
 Calls prog 51 #[.string (s46.extract 0 n52.toNat), .string (⟨#[32]⟩ : ByteArray)] w4 fun e w5 =>
 ∃ s54 : ByteArray, e = .returned (.string s54) /\
 ptrE p5 fun a6 =>
 st1 (a6.add 2) (.string s54) w5 fun w7 =>
 ptrE p5 fun a8 =>
 ∃ s57 : ByteArray, w7.cell? (a8.add 2) = some (.string s57) /\
 Calls prog 52 #[.string s57, .int .i64 n1] w7 fun e w9 =>
 ∃ b59 : Bool, e = .returned (.bool b59) /\
 Br (!b59) (
 ptrE p6 fun a10 =>
 stA prog 25 a10 #[.int .i64 0, .int .i64 0, .string (⟨#[]⟩ : ByteArray)] w9 fun w11 =>
 runD prog ds w11 fun w12 =>
 ptrE p6 fun a13 =>
 ∃ nR0_0 : Int, w12.cell? (a13.add 0) = some (.int .i64 nR0_0) /\
 ∃ nR0_1 : Int, w12.cell? (a13.add 1) = some (.int .i64 nR0_1) /\
 ∃ sR0_2 : ByteArray, w12.cell? (a13.add 2) = some (.string sR0_2) /\
 R (.returned (.tuple #[.agg #[.int .i64 nR0_0, .int .i64 nR0_1, .string sR0_2], .int .i64 10])) w12) (
 ptrE p5 fun a14 =>
 ∃ n90_0 : Int, w9.cell? (a14.add 0) = some (.int .i64 n90_0) /\
 ∃ n90_1 : Int, w9.cell? (a14.add 1) = some (.int .i64 n90_1) /\
 ∃ s90_2 : ByteArray, w9.cell? (a14.add 2) = some (.string s90_2) /\
 ptrE p6 fun a15 =>
 stA prog 25 a15 #[.int .i64 n90_0, .int .i64 n90_1, .string s90_2] w9 fun w16 =>
 runD prog ds w16 fun w17 =>
 ptrE p6 fun a18 =>
 ∃ nR0_0 : Int, w17.cell? (a18.add 0) = some (.int .i64 nR0_0) /\
 ∃ nR0_1 : Int, w17.cell? (a18.add 1) = some (.int .i64 nR0_1) /\
 ∃ sR0_2 : ByteArray, w17.cell? (a18.add 2) = some (.string sR0_2) /\
 R (.returned (.tuple #[.agg #[.int .i64 nR0_0, .int .i64 nR0_1, .string sR0_2], .int .i64 0])) w17)) (
 Br (n42 == 2) (
 ptrE p5 fun a19 =>
 ∃ n66 : Int, w.cell? (a19.add 1) = some (.int .i64 n66) /\
 ptrE p3 fun a20 =>
 ∃ n68 : Int, w.cell? (a20.add 2) = some (.int .i64 n68) /\
 Calls prog 53 #[.int .i64 n66, .int .i64 n68] w fun e w21 =>
 ∃ s69_0 : ByteArray, ∃ n69_1 : Int, e = .returned (.tuple #[.string s69_0, .int .i64 n69_1]) /\
 Br (n69_1 != 0) (
 ptrE p6 fun a22 =>
 stA prog 25 a22 #[.int .i64 0, .int .i64 0, .string (⟨#[]⟩ : ByteArray)] w21 fun w23 =>
 runD prog ds w23 fun w24 =>
 ptrE p6 fun a25 =>
 ∃ nR0_0 : Int, w24.cell? (a25.add 0) = some (.int .i64 nR0_0) /\
 ∃ nR0_1 : Int, w24.cell? (a25.add 1) = some (.int .i64 nR0_1) /\
 ∃ sR0_2 : ByteArray, w24.cell? (a25.add 2) = some (.string sR0_2) /\
 R (.returned (.tuple #[.agg #[.int .i64 nR0_0, .int .i64 nR0_1, .string sR0_2], .int .i64 10])) w24) (
 Calls prog 54 #[.string s69_0, .string (⟨#[42]⟩ : ByteArray)] w21 fun e w26 =>
 ∃ b76 : Bool, e = .returned (.bool b76) /\
 Br b76 (
 ptrE p6 fun a27 =>
 stA prog 25 a27 #[.int .i64 0, .int .i64 0, .string (⟨#[]⟩ : ByteArray)] w26 fun w28 =>
 runD prog ds w28 fun w29 =>
 ptrE p6 fun a30 =>
 ∃ nR0_0 : Int, w29.cell? (a30.add 0) = some (.int .i64 nR0_0) /\
 ∃ nR0_1 : Int, w29.cell? (a30.add 1) = some (.int .i64 nR0_1) /\
 ∃ sR0_2 : ByteArray, w29.cell? (a30.add 2) = some (.string sR0_2) /\
 R (.returned (.tuple #[.agg #[.int .i64 nR0_0, .int .i64 nR0_1, .string sR0_2], .int .i64 10])) w29) (
 ptrE p5 fun a31 =>
 ∃ n90_0 : Int, w26.cell? (a31.add 0) = some (.int .i64 n90_0) /\
 ∃ n90_1 : Int, w26.cell? (a31.add 1) = some (.int .i64 n90_1) /\
 ∃ s90_2 : ByteArray, w26.cell? (a31.add 2) = some (.string s90_2) /\
 ptrE p6 fun a32 =>
 stA prog 25 a32 #[.int .i64 n90_0, .int .i64 n90_1, .string s90_2] w26 fun w33 =>
 runD prog ds w33 fun w34 =>
 ptrE p6 fun a35 =>
 ∃ nR0_0 : Int, w34.cell? (a35.add 0) = some (.int .i64 nR0_0) /\
 ∃ nR0_1 : Int, w34.cell? (a35.add 1) = some (.int .i64 nR0_1) /\
 ∃ sR0_2 : ByteArray, w34.cell? (a35.add 2) = some (.string sR0_2) /\
 R (.returned (.tuple #[.agg #[.int .i64 nR0_0, .int .i64 nR0_1, .string sR0_2], .int .i64 0])) w34))) (
 Br (n42 == 5) (
 ptrE p5 fun a36 =>
 ∃ n82 : Int, w.cell? (a36.add 1) = some (.int .i64 n82) /\
 Br (decide (n82 < 0)) (
 ptrE p6 fun a37 =>
 stA prog 25 a37 #[.int .i64 0, .int .i64 0, .string (⟨#[]⟩ : ByteArray)] w fun w38 =>
 runD prog ds w38 fun w39 =>
 ptrE p6 fun a40 =>
 ∃ nR0_0 : Int, w39.cell? (a40.add 0) = some (.int .i64 nR0_0) /\
 ∃ nR0_1 : Int, w39.cell? (a40.add 1) = some (.int .i64 nR0_1) /\
 ∃ sR0_2 : ByteArray, w39.cell? (a40.add 2) = some (.string sR0_2) /\
 R (.returned (.tuple #[.agg #[.int .i64 nR0_0, .int .i64 nR0_1, .string sR0_2], .int .i64 10])) w39) (
 ptrE p5 fun a41 =>
 ∃ n86 : Int, w.cell? (a41.add 1) = some (.int .i64 n86) /\
 Br (decide (n86 > 99999999)) (
 ptrE p6 fun a42 =>
 stA prog 25 a42 #[.int .i64 0, .int .i64 0, .string (⟨#[]⟩ : ByteArray)] w fun w43 =>
 runD prog ds w43 fun w44 =>
 ptrE p6 fun a45 =>
 ∃ nR0_0 : Int, w44.cell? (a45.add 0) = some (.int .i64 nR0_0) /\
 ∃ nR0_1 : Int, w44.cell? (a45.add 1) = some (.int .i64 nR0_1) /\
 ∃ sR0_2 : ByteArray, w44.cell? (a45.add 2) = some (.string sR0_2) /\
 R (.returned (.tuple #[.agg #[.int .i64 nR0_0, .int .i64 nR0_1, .string sR0_2], .int .i64 10])) w44) (
 ptrE p5 fun a46 =>
 ∃ n90_0 : Int, w.cell? (a46.add 0) = some (.int .i64 n90_0) /\
 ∃ n90_1 : Int, w.cell? (a46.add 1) = some (.int .i64 n90_1) /\
 ∃ s90_2 : ByteArray, w.cell? (a46.add 2) = some (.string s90_2) /\
 ptrE p6 fun a47 =>
 stA prog 25 a47 #[.int .i64 n90_0, .int .i64 n90_1, .string s90_2] w fun w48 =>
 runD prog ds w48 fun w49 =>
 ptrE p6 fun a50 =>
 ∃ nR0_0 : Int, w49.cell? (a50.add 0) = some (.int .i64 nR0_0) /\
 ∃ nR0_1 : Int, w49.cell? (a50.add 1) = some (.int .i64 nR0_1) /\
 ∃ sR0_2 : ByteArray, w49.cell? (a50.add 2) = some (.string sR0_2) /\
 R (.returned (.tuple #[.agg #[.int .i64 nR0_0, .int .i64 nR0_1, .string sR0_2], .int .i64 0])) w49))) (
 ptrE p5 fun a51 =>
 ∃ n90_0 : Int, w.cell? (a51.add 0) = some (.int .i64 n90_0) /\
 ∃ n90_1 : Int, w.cell? (a51.add 1) = some (.int .i64 n90_1) /\
 ∃ s90_2 : ByteArray, w.cell? (a51.add 2) = some (.string s90_2) /\
 ptrE p6 fun a52 =>
 stA prog 25 a52 #[.int .i64 n90_0, .int .i64 n90_1, .string s90_2] w fun w53 =>
 runD prog ds w53 fun w54 =>
 ptrE p6 fun a55 =>
 ∃ nR0_0 : Int, w54.cell? (a55.add 0) = some (.int .i64 nR0_0) /\
 ∃ nR0_1 : Int, w54.cell? (a55.add 1) = some (.int .i64 nR0_1) /\
 ∃ sR0_2 : ByteArray, w54.cell? (a55.add 2) = some (.string sR0_2) /\
 R (.returned (.tuple #[.agg #[.int .i64 nR0_0, .int .i64 nR0_1, .string sR0_2], .int .i64 0])) w54)))
def F13_k2 (R : Rt) : EP := (fun E ds w => dInt .i64 (E 1) fun n1 => dPtr (E 3) fun p3 => dPtr (E 5) fun p5 => dPtr (E 6) fun p6 => dInt .i64 (E 42) fun n42 => F13_1 R n1 p3 p5 p6 n42 ds w)
def F13_2 (R : Rt) (s0_0 : ByteArray) (n0_1 n0_2 : Int) (b0_3 : Bool) (n1 n2_0 n2_1 : Int) (s2_2 : ByteArray) (ds : Ds) (w : World) : Prop :=
 alE (.cells #[.string s0_0, .int .i64 n0_1, .int .i64 n0_2, .bool b0_3] 23) w fun r3 w56 =>
 alE (.cells #[.int .i64 n2_0, .int .i64 n2_1, .string s2_2] 25) w56 fun r5 w57 =>
 alE (.cells #[.int .i64 0, .int .i64 0, .string (⟨#[]⟩ : ByteArray)] 25) w57 fun r6 w58 =>
 ∃ s11_0 : ByteArray, w58.cell? ((⟨r3, 0, none⟩ : Addr).add 0) = some (.string s11_0) /\
 ∃ n11_1 : Int, w58.cell? ((⟨r3, 0, none⟩ : Addr).add 1) = some (.int .i64 n11_1) /\
 ∃ n11_2 : Int, w58.cell? ((⟨r3, 0, none⟩ : Addr).add 2) = some (.int .i64 n11_2) /\
 ∃ b11_3 : Bool, w58.cell? ((⟨r3, 0, none⟩ : Addr).add 3) = some (.bool b11_3) /\
 Calls prog 47 #[.agg #[.string s11_0, .int .i64 n11_1, .int .i64 n11_2, .bool b11_3]] w58 fun e w59 =>
 ∃ b12 : Bool, e = .returned (.bool b12) /\
 Br (!b12) (
 stA prog 25 (⟨r6, 0, none⟩ : Addr) #[.int .i64 0, .int .i64 0, .string (⟨#[]⟩ : ByteArray)] w59 fun w60 =>
 runD prog ds w60 fun w61 =>
 ∃ nR0_0 : Int, w61.cell? ((⟨r6, 0, none⟩ : Addr).add 0) = some (.int .i64 nR0_0) /\
 ∃ nR0_1 : Int, w61.cell? ((⟨r6, 0, none⟩ : Addr).add 1) = some (.int .i64 nR0_1) /\
 ∃ sR0_2 : ByteArray, w61.cell? ((⟨r6, 0, none⟩ : Addr).add 2) = some (.string sR0_2) /\
 R (.returned (.tuple #[.agg #[.int .i64 nR0_0, .int .i64 nR0_1, .string sR0_2], .int .i64 1])) w61) (
 Calls prog 48 #[.int .i64 n1] w59 fun e w62 =>
 ∃ b16 : Bool, e = .returned (.bool b16) /\
 Br (!b16) (
 stA prog 25 (⟨r6, 0, none⟩ : Addr) #[.int .i64 0, .int .i64 0, .string (⟨#[]⟩ : ByteArray)] w62 fun w63 =>
 runD prog ds w63 fun w64 =>
 ∃ nR0_0 : Int, w64.cell? ((⟨r6, 0, none⟩ : Addr).add 0) = some (.int .i64 nR0_0) /\
 ∃ nR0_1 : Int, w64.cell? ((⟨r6, 0, none⟩ : Addr).add 1) = some (.int .i64 nR0_1) /\
 ∃ sR0_2 : ByteArray, w64.cell? ((⟨r6, 0, none⟩ : Addr).add 2) = some (.string sR0_2) /\
 R (.returned (.tuple #[.agg #[.int .i64 nR0_0, .int .i64 nR0_1, .string sR0_2], .int .i64 1])) w64) (
 ∃ n20_0 : Int, w62.cell? ((⟨r5, 0, none⟩ : Addr).add 0) = some (.int .i64 n20_0) /\
 ∃ n20_1 : Int, w62.cell? ((⟨r5, 0, none⟩ : Addr).add 1) = some (.int .i64 n20_1) /\
 ∃ s20_2 : ByteArray, w62.cell? ((⟨r5, 0, none⟩ : Addr).add 2) = some (.string s20_2) /\
 Calls prog 49 #[.agg #[.int .i64 n20_0, .int .i64 n20_1, .string s20_2]] w62 fun e w65 =>
 ∃ n21 : Int, e = .returned (.int .i64 n21) /\
 Br (n21 != 0) (
 stA prog 25 (⟨r6, 0, none⟩ : Addr) #[.int .i64 0, .int .i64 0, .string (⟨#[]⟩ : ByteArray)] w65 fun w66 =>
 runD prog ds w66 fun w67 =>
 ∃ nR0_0 : Int, w67.cell? ((⟨r6, 0, none⟩ : Addr).add 0) = some (.int .i64 nR0_0) /\
 ∃ nR0_1 : Int, w67.cell? ((⟨r6, 0, none⟩ : Addr).add 1) = some (.int .i64 nR0_1) /\
 ∃ sR0_2 : ByteArray, w67.cell? ((⟨r6, 0, none⟩ : Addr).add 2) = some (.string sR0_2) /\
 R (.returned (.tuple #[.agg #[.int .i64 nR0_0, .int .i64 nR0_1, .string sR0_2], .int .i64 n21])) w67) (
 ∃ n27 : Int, w65.cell? (⟨r5, 0, none⟩ : Addr) = some (.int .i64 n27) /\
 Br (n27 == 0) (
 ∃ b30 : Bool, w65.cell? ((⟨r3, 0, none⟩ : Addr).add 3) = some (.bool b30) /\
 Br (!b30) (
 stA prog 25 (⟨r6, 0, none⟩ : Addr) #[.int .i64 0, .int .i64 0, .string (⟨#[]⟩ : ByteArray)] w65 fun w68 =>
 runD prog ds w68 fun w69 =>
 ∃ nR0_0 : Int, w69.cell? ((⟨r6, 0, none⟩ : Addr).add 0) = some (.int .i64 nR0_0) /\
 ∃ nR0_1 : Int, w69.cell? ((⟨r6, 0, none⟩ : Addr).add 1) = some (.int .i64 nR0_1) /\
 ∃ sR0_2 : ByteArray, w69.cell? ((⟨r6, 0, none⟩ : Addr).add 2) = some (.string sR0_2) /\
 R (.returned (.tuple #[.agg #[.int .i64 nR0_0, .int .i64 nR0_1, .string sR0_2], .int .i64 7])) w69) (
 ∃ n33_0 : Int, w65.cell? ((⟨r5, 0, none⟩ : Addr).add 0) = some (.int .i64 n33_0) /\
 ∃ n33_1 : Int, w65.cell? ((⟨r5, 0, none⟩ : Addr).add 1) = some (.int .i64 n33_1) /\
 ∃ s33_2 : ByteArray, w65.cell? ((⟨r5, 0, none⟩ : Addr).add 2) = some (.string s33_2) /\
 stA prog 25 (⟨r6, 0, none⟩ : Addr) #[.int .i64 n33_0, .int .i64 n33_1, .string s33_2] w65 fun w70 =>
 runD prog ds w70 fun w71 =>
 ∃ nR0_0 : Int, w71.cell? ((⟨r6, 0, none⟩ : Addr).add 0) = some (.int .i64 nR0_0) /\
 ∃ nR0_1 : Int, w71.cell? ((⟨r6, 0, none⟩ : Addr).add 1) = some (.int .i64 nR0_1) /\
 ∃ sR0_2 : ByteArray, w71.cell? ((⟨r6, 0, none⟩ : Addr).add 2) = some (.string sR0_2) /\
 R (.returned (.tuple #[.agg #[.int .i64 nR0_0, .int .i64 nR0_1, .string sR0_2], .int .i64 0])) w71)) (
 dwE w65 fun w72 =>
 ∃ S1 : World -> Prop, S1 w72 /\
 ∃ n35 : Int, (∀ w', S1 w' -> w'.cell? (⟨r5, 0, none⟩ : Addr) = some (.int .i64 n35)) /\
 ∃ s36_0 : ByteArray, (∀ w', S1 w' -> w'.cell? ((⟨r3, 0, none⟩ : Addr).add 0) = some (.string s36_0)) /\
 ∃ n36_1 : Int, (∀ w', S1 w' -> w'.cell? ((⟨r3, 0, none⟩ : Addr).add 1) = some (.int .i64 n36_1)) /\
 ∃ n36_2 : Int, (∀ w', S1 w' -> w'.cell? ((⟨r3, 0, none⟩ : Addr).add 2) = some (.int .i64 n36_2)) /\
 ∃ b36_3 : Bool, (∀ w', S1 w' -> w'.cell? ((⟨r3, 0, none⟩ : Addr).add 3) = some (.bool b36_3)) /\
 Calls prog 50 #[.agg #[.string s36_0, .int .i64 n36_1, .int .i64 n36_2, .bool b36_3]] w72 fun e w73 =>
 ∃ n37_0 : Int, ∃ n37_1 : Int, ∃ s37_2 : ByteArray, e = .returned (.agg #[.int .i64 n37_0, .int .i64 n37_1, .string s37_2]) /\
 S1 w73 /\
 Br (n35 != n37_0) (
 stA prog 25 (⟨r6, 0, none⟩ : Addr) #[.int .i64 0, .int .i64 0, .string (⟨#[]⟩ : ByteArray)] w73 fun w74 =>
 runD prog ds w74 fun w75 =>
 ∃ nR0_0 : Int, w75.cell? ((⟨r6, 0, none⟩ : Addr).add 0) = some (.int .i64 nR0_0) /\
 ∃ nR0_1 : Int, w75.cell? ((⟨r6, 0, none⟩ : Addr).add 1) = some (.int .i64 nR0_1) /\
 ∃ sR0_2 : ByteArray, w75.cell? ((⟨r6, 0, none⟩ : Addr).add 2) = some (.string sR0_2) /\
 R (.returned (.tuple #[.agg #[.int .i64 nR0_0, .int .i64 nR0_1, .string sR0_2], .int .i64 6])) w75) (
 ∃ n42 : Int, w73.cell? ((⟨r3, 0, none⟩ : Addr).add 1) = some (.int .i64 n42) /\
 F13_1 R n1 (some (⟨r3, 0, none⟩ : Addr)) (some (⟨r5, 0, none⟩ : Addr)) (some (⟨r6, 0, none⟩ : Addr)) n42 ds w73)))))
theorem c13_l : flat (bodyOf f13) = [c13_0, c13_1, c13_2, c13_3, c13_4, c13_5, c13_6, c13_7, c13_8, c13_9, c13_10, c13_11, c13_12, c13_13] := by kernel_rfl
theorem F13_1_ok (R : Rt) (n1 : Int) (p3 p5 p6 : Option Addr) (n42 : Int) (ds : Ds) (w : World) (E : Env) (e1 : E 1 = .int .i64 n1) (e3 : E 3 = .pointer p3) (e5 : E 5 = .pointer p5) (e6 : E 6 = .pointer p6) (e42 : E 42 = .int .i64 n42) (h : F13_1 R n1 p3 p5 p6 n42 ds w) :
    TrL prog f13.ntmps [c13_11, c13_12, c13_13] (F13_q1 R) E ds w :=
  TrL_leaf (X := F13_1 R n1 p3 p5 p6 n42 ds w) (setAll_cons e1 (setAll_cons e3 (setAll_cons e5 (setAll_cons e6 (setAll_cons e42 setAll_nil))))) (by kernel_rfl) (by kernel_rfl) h
theorem F13_2_ok (R : Rt) (s0_0 : ByteArray) (n0_1 n0_2 : Int) (b0_3 : Bool) (n1 n2_0 n2_1 : Int) (s2_2 : ByteArray) (ds : Ds) (w : World) (E : Env) (e0 : E 0 = .agg #[.string s0_0, .int .i64 n0_1, .int .i64 n0_2, .bool b0_3]) (e1 : E 1 = .int .i64 n1) (e2 : E 2 = .agg #[.int .i64 n2_0, .int .i64 n2_1, .string s2_2]) (h : F13_2 R s0_0 n0_1 n0_2 b0_3 n1 n2_0 n2_1 s2_2 ds w) :
    TrL prog f13.ntmps [c13_0, c13_1, c13_2, c13_3, c13_4, c13_5, c13_6, c13_7, c13_8, c13_9, c13_10, c13_11, c13_12, c13_13] (F13_q1 R) E ds w :=
  TrL_piece (pre := [c13_0, c13_1, c13_2, c13_3, c13_4, c13_5, c13_6, c13_7, c13_8, c13_9, c13_10]) (K := (F13_k2 R)) (X := F13_2 R s0_0 n0_1 n0_2 b0_3 n1 n2_0 n2_1 s2_2 ds w) (setAll_cons e0 (setAll_cons e1 (setAll_cons e2 setAll_nil))) (by kernel_rfl) (by kernel_rfl)
    (fun E' ds' w' hD => by
      obtain ⟨n1, e1, hD⟩ := dInt_elim hD; obtain ⟨p3, e3, hD⟩ := dPtr_elim hD; obtain ⟨p5, e5, hD⟩ := dPtr_elim hD; obtain ⟨p6, e6, hD⟩ := dPtr_elim hD; obtain ⟨n42, e42, hD⟩ := dInt_elim hD; exact F13_1_ok R n1 p3 p5 p6 n42 ds' w' E' e1 e3 e5 e6 e42 hD) h
theorem F13_calls (s0_0 : ByteArray) (n0_1 n0_2 : Int) (b0_3 : Bool) (n1 n2_0 n2_1 : Int) (s2_2 : ByteArray) (w : World) (R : Rt) (h : F13_2 R s0_0 n0_1 n0_2 b0_3 n1 n2_0 n2_1 s2_2 [] w) : Calls prog 13 #[.agg #[.string s0_0, .int .i64 n0_1, .int .i64 n0_2, .bool b0_3], .int .i64 n1, .agg #[.int .i64 n2_0, .int .i64 n2_1, .string s2_2]] w R :=
  calls_of_L (l := [c13_0, c13_1, c13_2, c13_3, c13_4, c13_5, c13_6, c13_7, c13_8, c13_9, c13_10, c13_11, c13_12, c13_13]) func13 (by kernel_rfl) (by rw [ntmps13]; exact Nat.le_of_ble_eq_true (by kernel_rfl)) c13_l
    (F13_2_ok R s0_0 n0_1 n0_2 b0_3 n1 n2_0 n2_1 s2_2 [] w _ rfl rfl rfl h)
end Go.Proofs.YtecmfdfhpldmmaaGreatDoor

/- Shallow texts of functions, printed by program, each checked by the kernel against the loaded code. No condition. -/
set_option maxRecDepth 100000
set_option linter.unusedVariables false
namespace Go.Proofs.YtecmfdfhpldmmaaGreatDoor
open Go.Sh
open Tryz
@[reducible] noncomputable def cI5 (f : Func) (i : Nat) : Code := itemAt (flat (bodyOf f)) i
@[reducible] noncomputable def cJ5 (c : Code) (i : Nat) : Code := itemAt (flat (innerC c)) i
noncomputable def c183_0 := cI5 f183 0
noncomputable def c183_1 := cI5 f183 1
noncomputable def c183_2 := cI5 f183 2
def F183_q1 (R : Rt) : EQ := endQ prog f183.results.toList R
def F183_1 (R : Rt) (n0 : Int) (ds : Ds) (w : World) : Prop :=
 IntKind.i64 = IntKind.i64 /\ (4 : Int) ≠ 0 /\
 Br ((n0.tmod 4) == 0) (
 IntKind.i64 = IntKind.i64 /\ (100 : Int) ≠ 0 /\
 Br ((n0.tmod 100) != 0) (
 runD prog ds w fun w1 =>
 R (.returned (.bool true)) w1) (
 IntKind.i64 = IntKind.i64 /\ (400 : Int) ≠ 0 /\
 runD prog ds w fun w2 =>
 R (.returned (.bool ((n0.tmod 400) == 0))) w2)) (
 runD prog ds w fun w3 =>
 R (.returned (.bool false)) w3)
theorem c183_l : flat (bodyOf f183) = [c183_0, c183_1, c183_2] := by kernel_rfl
theorem F183_1_ok (R : Rt) (n0 : Int) (ds : Ds) (w : World) (E : Env) (e0 : E 0 = .int .i64 n0) (h : F183_1 R n0 ds w) :
    TrL prog f183.ntmps [c183_0, c183_1, c183_2] (F183_q1 R) E ds w :=
  TrL_leaf (X := F183_1 R n0 ds w) (setAll_cons e0 setAll_nil) (by kernel_rfl) (by kernel_rfl) h
theorem F183_calls (n0 : Int) (w : World) (R : Rt) (h : F183_1 R n0 [] w) : Calls prog 183 #[.int .i64 n0] w R :=
  calls_of_L (l := [c183_0, c183_1, c183_2]) func183 (by kernel_rfl) (by rw [ntmps183]; exact Nat.le_of_ble_eq_true (by kernel_rfl)) c183_l
    (F183_1_ok R n0 [] w _ rfl h)
noncomputable def c179_0 := cI5 f179 0
noncomputable def c179_1 := cI5 f179 1
noncomputable def c179_2 := cI5 f179 2
noncomputable def c179_3 := cI5 f179 3
noncomputable def c179_4 := cI5 f179 4
noncomputable def c179_5 := cI5 f179 5
def F179_q1 (R : Rt) : EQ := endQ prog f179.results.toList R
def F179_1 (R : Rt) (n0 n1 : Int) (ds : Ds) (w : World) : Prop :=
 alE (.cells #[.int .i64 0, .int .i64 0, .int .i64 0, .int .i64 0, .int .i64 0, .int .i64 0, .int .i64 0, .int .i64 0, .int .i64 0, .int .i64 0, .int .i64 0, .int .i64 0] 184) w fun r5 w1 =>
 stA prog 184 (⟨r5, 0, none⟩ : Addr) #[.int .i64 31, .int .i64 28, .int .i64 31, .int .i64 30, .int .i64 31, .int .i64 30, .int .i64 31, .int .i64 31, .int .i64 30, .int .i64 31, .int .i64 30, .int .i64 31] w1 fun w2 =>
 Br (n1 == 2) (
 Calls prog 183 #[.int .i64 n0] w2 fun e w3 =>
 ∃ b11 : Bool, e = .returned (.bool b11) /\
 Br b11 (
 runD prog ds w3 fun w4 =>
 R (.returned (.int .i64 29)) w4) (
 0 ≤ (IntKind.i64.wrap (n1 - 1)) /\ (IntKind.i64.wrap (n1 - 1)) < (12 : Int) /\
 ∃ n16 : Int, w3.cell? ((⟨r5, 0, none⟩ : Addr).add ((IntKind.i64.wrap (n1 - 1)).toNat * 1)) = some (.int .i64 n16) /\
 runD prog ds w3 fun w5 =>
 R (.returned (.int .i64 n16)) w5)) (
 0 ≤ (IntKind.i64.wrap (n1 - 1)) /\ (IntKind.i64.wrap (n1 - 1)) < (12 : Int) /\
 ∃ n16 : Int, w2.cell? ((⟨r5, 0, none⟩ : Addr).add ((IntKind.i64.wrap (n1 - 1)).toNat * 1)) = some (.int .i64 n16) /\
 runD prog ds w2 fun w6 =>
 R (.returned (.int .i64 n16)) w6)
theorem c179_l : flat (bodyOf f179) = [c179_0, c179_1, c179_2, c179_3, c179_4, c179_5] := by kernel_rfl
theorem F179_1_ok (R : Rt) (n0 n1 : Int) (ds : Ds) (w : World) (E : Env) (e0 : E 0 = .int .i64 n0) (e1 : E 1 = .int .i64 n1) (h : F179_1 R n0 n1 ds w) :
    TrL prog f179.ntmps [c179_0, c179_1, c179_2, c179_3, c179_4, c179_5] (F179_q1 R) E ds w :=
  TrL_leaf (X := F179_1 R n0 n1 ds w) (setAll_cons e0 (setAll_cons e1 setAll_nil)) (by kernel_rfl) (by kernel_rfl) h
theorem F179_calls (n0 n1 : Int) (w : World) (R : Rt) (h : F179_1 R n0 n1 [] w) : Calls prog 179 #[.int .i64 n0, .int .i64 n1] w R :=
  calls_of_L (l := [c179_0, c179_1, c179_2, c179_3, c179_4, c179_5]) func179 (by kernel_rfl) (by rw [ntmps179]; exact Nat.le_of_ble_eq_true (by kernel_rfl)) c179_l
    (F179_1_ok R n0 n1 [] w _ rfl rfl h)
noncomputable def c180_0 := cI5 f180 0
noncomputable def c180_1 := cI5 f180 1
noncomputable def c180_2 := cI5 f180 2
noncomputable def c180_3 := cI5 f180 3
def F180_q1 (R : Rt) : EQ := endQ prog f180.results.toList R
def F180_1 (R : Rt) (n0 : Int) (ds : Ds) (w : World) : Prop :=
 IntKind.i64 = IntKind.i64 /\ (4 : Int) ≠ 0 /\
 IntKind.i64 = IntKind.i64 /\ (100 : Int) ≠ 0 /\
 IntKind.i64 = IntKind.i64 /\ (400 : Int) ≠ 0 /\
 runD prog ds w fun w1 =>
 R (.returned (.int .i64 (IntKind.i64.wrap ((IntKind.i64.wrap ((IntKind.i64.wrap ((IntKind.i64.wrap ((365 : Int) * (IntKind.i64.wrap (n0 - 1)))) + (IntKind.i64.wrap ((IntKind.i64.wrap (n0 - 1)).tdiv 4)))) - (IntKind.i64.wrap ((IntKind.i64.wrap (n0 - 1)).tdiv 100)))) + (IntKind.i64.wrap ((IntKind.i64.wrap (n0 - 1)).tdiv 400)))))) w1
theorem c180_l : flat (bodyOf f180) = [c180_0, c180_1, c180_2, c180_3] := by kernel_rfl
theorem F180_1_ok (R : Rt) (n0 : Int) (ds : Ds) (w : World) (E : Env) (e0 : E 0 = .int .i64 n0) (h : F180_1 R n0 ds w) :
    TrL prog f180.ntmps [c180_0, c180_1, c180_2, c180_3] (F180_q1 R) E ds w :=
  TrL_leaf (X := F180_1 R n0 ds w) (setAll_cons e0 setAll_nil) (by kernel_rfl) (by kernel_rfl) h
theorem F180_calls (n0 : Int) (w : World) (R : Rt) (h : F180_1 R n0 [] w) : Calls prog 180 #[.int .i64 n0] w R :=
  calls_of_L (l := [c180_0, c180_1, c180_2, c180_3]) func180 (by kernel_rfl) (by rw [ntmps180]; exact Nat.le_of_ble_eq_true (by kernel_rfl)) c180_l
    (F180_1_ok R n0 [] w _ rfl h)
noncomputable def c169_0 := cI5 f169 0
noncomputable def c169_1 := cI5 f169 1
noncomputable def c169_2 := cI5 f169 2
noncomputable def c169_3 := cI5 f169 3
noncomputable def c169_4 := cI5 f169 4
noncomputable def c169_5 := cI5 f169 5
noncomputable def c169_6 := cI5 f169 6
noncomputable def c169_7 := cI5 f169 7
noncomputable def c169_5_0 := cJ5 c169_5 0
noncomputable def c169_5_0_0 := cJ5 c169_5_0 0
noncomputable def c169_5_0_1 := cJ5 c169_5_0 1
noncomputable def c169_5_0_2 := cJ5 c169_5_0 2
noncomputable def c169_5_0_3 := cJ5 c169_5_0 3
def F169_q1 (R : Rt) : EQ := endQ prog f169.results.toList R
def F169_1 (R : Rt) (n8 : Int) (ds : Ds) (w : World) : Prop :=
 runD prog ds w fun w1 =>
 R (.returned (.tuple #[.int .i64 n8, .int .i64 0])) w1
def F169_k2 (R : Rt) : EP := (fun E ds w => dInt .i64 (E 8) fun n8 => F169_1 R n8 ds w)
def F169_q3 (R : Rt) : EQ := (thenQ (F169_k2 R) (F169_q1 R))
def F169_q4 (R : Rt) : EQ := (blockQ 0 (F169_q3 R))
def F169_q5 (R : Rt) (J1 : (Int × Int) -> World -> Prop) : EQ := (thenQ (fun E _ w => dInt .i64 (E 8) fun n8 => dInt .i64 (E 41) fun n41 => J1 (n8, n41) w) (F169_q4 R))
def F169_2 (R : Rt) (J1 : (Int × Int) -> World -> Prop) (n0 n8 n40 n41 : Int) (ds : Ds) (w : World) : Prop :=
 Br (decide (n41 < n40)) (
 Calls prog 179 #[.int .i64 n0, .int .i64 (IntKind.i64.wrap (n41 + 1))] w fun e w2 =>
 ∃ n48 : Int, e = .returned (.int .i64 n48) /\
 J1 ((IntKind.i64.wrap (n8 + n48)), (IntKind.i64.wrap (n41 + 1))) w2) (
 F169_1 R n8 ds w)
def F169_3 (R : Rt) (n0 n8 n40 n41 : Int) (ds : Ds) (w : World) : Prop :=
 loopT (fun (J1 : (Int × Int) -> World -> Prop) (s : Int × Int) (w : World) => F169_2 R J1 n0 s.1 n40 s.2 ds w) (n8, n41) w
abbrev F169_4 (R : Rt) (n0 n8 n40 n41 : Int) (ds : Ds) (w : World) : Prop := F169_3 R n0 n8 n40 n41 ds w
def F169_k6 (R : Rt) : EP := (fun E ds w => dInt .i64 (E 0) fun n0 => dInt .i64 (E 8) fun n8 => dInt .i64 (E 40) fun n40 => dInt .i64 (E 41) fun n41 => F169_4 R n0 n8 n40 n41 ds w)
def F169_5 (R : Rt) (n0 n1 n2 : Int) (b34 : Bool) (ds : Ds) (w : World) : Prop :=
 Br b34 (
 runD prog ds w fun w3 =>
 R (.returned (.tuple #[.int .i64 0, .int .i64 1])) w3) (
 Calls prog 180 #[.int .i64 n0] w fun e w4 =>
 ∃ n36 : Int, e = .returned (.int .i64 n36) /\
 F169_4 R n0 (IntKind.i64.wrap (n36 + n2)) (IntKind.i64.wrap (n1 - 1)) 0 ds w4)
def F169_k7 (R : Rt) : EP := (fun E ds w => dInt .i64 (E 0) fun n0 => dInt .i64 (E 1) fun n1 => dInt .i64 (E 2) fun n2 => dBl (E 34) fun b34 => F169_5 R n0 n1 n2 b34 ds w)
def F169_6 (R : Rt) (n0 n1 n2 : Int) (ds : Ds) (w : World) : Prop :=
 Br (decide (n0 < 1)) (
 F169_5 R n0 n1 n2 true ds w) (
 Br (decide (n0 > 9999)) (
 F169_5 R n0 n1 n2 true ds w) (
 Br (decide (n1 < 1)) (
 F169_5 R n0 n1 n2 true ds w) (
 Br (decide (n1 > 12)) (
 F169_5 R n0 n1 n2 true ds w) (
 Br (decide (n2 < 1)) (
 F169_5 R n0 n1 n2 true ds w) (
 Calls prog 179 #[.int .i64 n0, .int .i64 n1] w fun e w5 =>
 ∃ n32 : Int, e = .returned (.int .i64 n32) /\
 F169_5 R n0 n1 n2 (decide (n2 > n32)) ds w5)))))
def F169_k8 (R : Rt) : EP := (fun E ds w => dInt .i64 (E 0) fun n0 => dInt .i64 (E 1) fun n1 => dInt .i64 (E 2) fun n2 => F169_6 R n0 n1 n2 ds w)
def F169_7 (R : Rt) (n0 n1 n2 : Int) (ds : Ds) (w : World) : Prop :=
 F169_6 R n0 n1 n2 ds w
theorem c169_l : flat (bodyOf f169) = [c169_0, c169_1, c169_2, c169_3, c169_4, c169_5, c169_6, c169_7] := by kernel_rfl
theorem c169_5_l : flat (innerC c169_5) = [c169_5_0] := by kernel_rfl
theorem c169_5_0_l : flat (innerC c169_5_0) = [c169_5_0_0, c169_5_0_1, c169_5_0_2, c169_5_0_3] := by kernel_rfl
theorem F169_1_ok (R : Rt) (n8 : Int) (ds : Ds) (w : World) (E : Env) (e8 : E 8 = .int .i64 n8) (h : F169_1 R n8 ds w) :
    TrL prog f169.ntmps [c169_6, c169_7] (F169_q1 R) E ds w :=
  TrL_leaf (X := F169_1 R n8 ds w) (setAll_cons e8 setAll_nil) (by kernel_rfl) (by kernel_rfl) h
theorem F169_2_ok (R : Rt) (J1 : (Int × Int) -> World -> Prop) (n0 n8 n40 n41 : Int) (ds : Ds) (w : World) (E : Env) (e0 : E 0 = .int .i64 n0) (e8 : E 8 = .int .i64 n8) (e40 : E 40 = .int .i64 n40) (e41 : E 41 = .int .i64 n41) (h : F169_2 R J1 n0 n8 n40 n41 ds w) :
    TrL prog f169.ntmps [c169_5_0_0, c169_5_0_1, c169_5_0_2, c169_5_0_3] (F169_q5 R J1) E ds w :=
  TrL_leaf (X := F169_2 R J1 n0 n8 n40 n41 ds w) (setAll_cons e0 (setAll_cons e8 (setAll_cons e40 (setAll_cons e41 setAll_nil)))) (by kernel_rfl) (by kernel_rfl) h
theorem F169_3_ok (R : Rt) (n0 n8 n40 n41 : Int) (ds : Ds) (w : World) (E : Env) (e0 : E 0 = .int .i64 n0) (e8 : E 8 = .int .i64 n8) (e40 : E 40 = .int .i64 n40) (e41 : E 41 = .int .i64 n41) (h : F169_3 R n0 n8 n40 n41 ds w) :
    TrL prog f169.ntmps [c169_5_0] (F169_q4 R) E ds w :=
  TrL_one (Tr_loop' (c := innerC c169_5_0) (σ := Int × Int) (enc := (fun (s : Int × Int) (E : Env) => E 8 = .int .i64 s.1 /\ E 41 = .int .i64 s.2)) (D := (fun E K => dInt .i64 (E 8) fun n8 => dInt .i64 (E 41) fun n41 => K (n8, n41))) (F := (fun (J1 : (Int × Int) -> World -> Prop) (s : Int × Int) (w : World) => F169_2 R J1 n0 s.1 n40 s.2 ds w)) (s0 := (n8, n41)) (by kernel_rfl) c169_5_0_l ⟨e8, e41⟩ (by kernel_rfl) (fun E K hD => by obtain ⟨n8, e8, hD⟩ := dInt_elim hD; obtain ⟨n41, e41, hD⟩ := dInt_elim hD; exact ⟨(n8, n41), ⟨e8, e41⟩, hD⟩)
      (fun J1 s E' w' he ha hF => by
      obtain ⟨e8', e41'⟩ := he
      exact F169_2_ok R J1 n0 s.1 n40 s.2 ds w' E' ((ha 0 (by kernel_rfl)).trans e0) e8' ((ha 40 (by kernel_rfl)).trans e40) e41' hF) h)
theorem F169_4_ok (R : Rt) (n0 n8 n40 n41 : Int) (ds : Ds) (w : World) (E : Env) (e0 : E 0 = .int .i64 n0) (e8 : E 8 = .int .i64 n8) (e40 : E 40 = .int .i64 n40) (e41 : E 41 = .int .i64 n41) (h : F169_4 R n0 n8 n40 n41 ds w) :
    TrL prog f169.ntmps [c169_5, c169_6, c169_7] (F169_q1 R) E ds w :=
  TrL_head (K := (F169_k2 R)) (Tr_block' (c := innerC c169_5) (by kernel_rfl) c169_5_l (F169_3_ok R n0 n8 n40 n41 ds w E e0 e8 e40 e41 h))
    (fun E' ds' w' hD => by
      obtain ⟨n8, e8, hD⟩ := dInt_elim hD; exact F169_1_ok R n8 ds' w' E' e8 hD)
theorem F169_5_ok (R : Rt) (n0 n1 n2 : Int) (b34 : Bool) (ds : Ds) (w : World) (E : Env) (e0 : E 0 = .int .i64 n0) (e1 : E 1 = .int .i64 n1) (e2 : E 2 = .int .i64 n2) (e34 : E 34 = .bool b34) (h : F169_5 R n0 n1 n2 b34 ds w) :
    TrL prog f169.ntmps [c169_2, c169_3, c169_4, c169_5, c169_6, c169_7] (F169_q1 R) E ds w :=
  TrL_piece (pre := [c169_2, c169_3, c169_4]) (K := (F169_k6 R)) (X := F169_5 R n0 n1 n2 b34 ds w) (setAll_cons e0 (setAll_cons e1 (setAll_cons e2 (setAll_cons e34 setAll_nil)))) (by kernel_rfl) (by kernel_rfl)
    (fun E' ds' w' hD => by
      obtain ⟨n0, e0, hD⟩ := dInt_elim hD; obtain ⟨n8, e8, hD⟩ := dInt_elim hD; obtain ⟨n40, e40, hD⟩ := dInt_elim hD; obtain ⟨n41, e41, hD⟩ := dInt_elim hD; exact F169_4_ok R n0 n8 n40 n41 ds' w' E' e0 e8 e40 e41 hD) h
theorem F169_6_ok (R : Rt) (n0 n1 n2 : Int) (ds : Ds) (w : World) (E : Env) (e0 : E 0 = .int .i64 n0) (e1 : E 1 = .int .i64 n1) (e2 : E 2 = .int .i64 n2) (h : F169_6 R n0 n1 n2 ds w) :
    TrL prog f169.ntmps [c169_1, c169_2, c169_3, c169_4, c169_5, c169_6, c169_7] (F169_q1 R) E ds w :=
  TrL_piece (pre := [c169_1]) (K := (F169_k7 R)) (X := F169_6 R n0 n1 n2 ds w) (setAll_cons e0 (setAll_cons e1 (setAll_cons e2 setAll_nil))) (by kernel_rfl) (by kernel_rfl)
    (fun E' ds' w' hD => by
      obtain ⟨n0, e0, hD⟩ := dInt_elim hD; obtain ⟨n1, e1, hD⟩ := dInt_elim hD; obtain ⟨n2, e2, hD⟩ := dInt_elim hD; obtain ⟨b34, e34, hD⟩ := dBl_elim hD; exact F169_5_ok R n0 n1 n2 b34 ds' w' E' e0 e1 e2 e34 hD) h
theorem F169_7_ok (R : Rt) (n0 n1 n2 : Int) (ds : Ds) (w : World) (E : Env) (e0 : E 0 = .int .i64 n0) (e1 : E 1 = .int .i64 n1) (e2 : E 2 = .int .i64 n2) (h : F169_7 R n0 n1 n2 ds w) :
    TrL prog f169.ntmps [c169_0, c169_1, c169_2, c169_3, c169_4, c169_5, c169_6, c169_7] (F169_q1 R) E ds w :=
  TrL_piece (pre := [c169_0]) (K := (F169_k8 R)) (X := F169_7 R n0 n1 n2 ds w) (setAll_cons e0 (setAll_cons e1 (setAll_cons e2 setAll_nil))) (by kernel_rfl) (by kernel_rfl)
    (fun E' ds' w' hD => by
      obtain ⟨n0, e0, hD⟩ := dInt_elim hD; obtain ⟨n1, e1, hD⟩ := dInt_elim hD; obtain ⟨n2, e2, hD⟩ := dInt_elim hD; exact F169_6_ok R n0 n1 n2 ds' w' E' e0 e1 e2 hD) h
theorem F169_calls (n0 n1 n2 : Int) (w : World) (R : Rt) (h : F169_7 R n0 n1 n2 [] w) : Calls prog 169 #[.int .i64 n0, .int .i64 n1, .int .i64 n2] w R :=
  calls_of_L (l := [c169_0, c169_1, c169_2, c169_3, c169_4, c169_5, c169_6, c169_7]) func169 (by kernel_rfl) (by rw [ntmps169]; exact Nat.le_of_ble_eq_true (by kernel_rfl)) c169_l
    (F169_7_ok R n0 n1 n2 [] w _ rfl rfl rfl h)
noncomputable def c177_0 := cI5 f177 0
noncomputable def c177_1 := cI5 f177 1
noncomputable def c177_2 := cI5 f177 2
noncomputable def c177_3 := cI5 f177 3
noncomputable def c177_4 := cI5 f177 4
noncomputable def c177_5 := cI5 f177 5
noncomputable def c177_6 := cI5 f177 6
noncomputable def c177_7 := cI5 f177 7
noncomputable def c177_8 := cI5 f177 8
noncomputable def c177_9 := cI5 f177 9
noncomputable def c177_10 := cI5 f177 10
noncomputable def c177_8_0 := cJ5 c177_8 0
noncomputable def c177_8_0_0 := cJ5 c177_8_0 0
noncomputable def c177_8_0_1 := cJ5 c177_8_0 1
noncomputable def c177_8_0_2 := cJ5 c177_8_0 2
noncomputable def c177_6_0 := cJ5 c177_6 0
noncomputable def c177_6_0_0 := cJ5 c177_6_0 0
noncomputable def c177_6_0_1 := cJ5 c177_6_0 1
noncomputable def c177_6_0_2 := cJ5 c177_6_0 2
def F177_q1 (R : Rt) : EQ := endQ prog f177.results.toList R
def F177_1 (R : Rt) (n6 n7 n8 : Int) (ds : Ds) (w : World) : Prop :=
 runD prog ds w fun w1 =>
 R (.returned (.tuple #[.int .i64 n6, .int .i64 n8, .int .i64 n7, .int .i64 0])) w1
def F177_k2 (R : Rt) : EP := (fun E ds w => dInt .i64 (E 6) fun n6 => dInt .i64 (E 7) fun n7 => dInt .i64 (E 8) fun n8 => F177_1 R n6 n7 n8 ds w)
def F177_q3 (R : Rt) : EQ := (thenQ (F177_k2 R) (F177_q1 R))
def F177_q4 (R : Rt) : EQ := (blockQ 2 (F177_q3 R))
def F177_q5 (R : Rt) (J1 : (Int × Int) -> World -> Prop) : EQ := (thenQ (fun E _ w => dInt .i64 (E 7) fun n7 => dInt .i64 (E 8) fun n8 => J1 (n7, n8) w) (F177_q4 R))
def F177_2 (R : Rt) (J1 : (Int × Int) -> World -> Prop) (n6 n7 n8 : Int) (ds : Ds) (w : World) : Prop :=
 Calls prog 179 #[.int .i64 n6, .int .i64 n8] w fun e w2 =>
 ∃ n31 : Int, e = .returned (.int .i64 n31) /\
 Br (decide (n7 > n31)) (
 Calls prog 179 #[.int .i64 n6, .int .i64 n8] w2 fun e w3 =>
 ∃ n36 : Int, e = .returned (.int .i64 n36) /\
 J1 ((IntKind.i64.wrap (n7 - n36)), (IntKind.i64.wrap (n8 + 1))) w3) (
 F177_1 R n6 n7 n8 ds w2)
def F177_3 (R : Rt) (n6 n7 n8 : Int) (ds : Ds) (w : World) : Prop :=
 loopT (fun (J1 : (Int × Int) -> World -> Prop) (s : Int × Int) (w : World) => F177_2 R J1 n6 s.1 s.2 ds w) (n7, n8) w
abbrev F177_4 (R : Rt) (n6 n7 n8 : Int) (ds : Ds) (w : World) : Prop := F177_3 R n6 n7 n8 ds w
def F177_k6 (R : Rt) : EP := (fun E ds w => dInt .i64 (E 6) fun n6 => dInt .i64 (E 7) fun n7 => dInt .i64 (E 8) fun n8 => F177_4 R n6 n7 n8 ds w)
def F177_5 (R : Rt) (n0 n6 : Int) (ds : Ds) (w : World) : Prop :=
 Calls prog 180 #[.int .i64 n6] w fun e w4 =>
 ∃ n26 : Int, e = .returned (.int .i64 n26) /\
 F177_4 R n6 (IntKind.i64.wrap (n0 - n26)) 1 ds w4
def F177_k7 (R : Rt) : EP := (fun E ds w => dInt .i64 (E 0) fun n0 => dInt .i64 (E 6) fun n6 => F177_5 R n0 n6 ds w)
def F177_q8 (R : Rt) : EQ := (thenQ (F177_k7 R) (F177_q1 R))
def F177_q9 (R : Rt) : EQ := (blockQ 0 (F177_q8 R))
def F177_q10 (R : Rt) (J1 : (Int) -> World -> Prop) : EQ := (thenQ (fun E _ w => dInt .i64 (E 6) fun n6 => J1 n6 w) (F177_q9 R))
def F177_6 (R : Rt) (J1 : (Int) -> World -> Prop) (n0 n6 : Int) (ds : Ds) (w : World) : Prop :=
 Calls prog 180 #[.int .i64 (IntKind.i64.wrap (n6 + 1))] w fun e w5 =>
 ∃ n19 : Int, e = .returned (.int .i64 n19) /\
 Br (decide (n19 < n0)) (
 J1 (IntKind.i64.wrap (n6 + 1)) w5) (
 F177_5 R n0 n6 ds w5)
def F177_7 (R : Rt) (n0 n6 : Int) (ds : Ds) (w : World) : Prop :=
 loopT (fun (J1 : (Int) -> World -> Prop) (s : Int) (w : World) => F177_6 R J1 n0 s ds w) n6 w
abbrev F177_8 (R : Rt) (n0 n6 : Int) (ds : Ds) (w : World) : Prop := F177_7 R n0 n6 ds w
def F177_k11 (R : Rt) : EP := (fun E ds w => dInt .i64 (E 0) fun n0 => dInt .i64 (E 6) fun n6 => F177_8 R n0 n6 ds w)
def F177_9 (R : Rt) (n0 : Int) (ds : Ds) (w : World) : Prop :=
 Calls prog 136 #[.int .i64 n0] w fun e w6 =>
 ∃ b10 : Bool, e = .returned (.bool b10) /\
 Br (!b10) (
 runD prog ds w6 fun w7 =>
 R (.returned (.tuple #[.int .i64 0, .int .i64 0, .int .i64 0, .int .i64 1])) w7) (
 Br (n0 == 0) (
 runD prog ds w6 fun w8 =>
 R (.returned (.tuple #[.int .i64 0, .int .i64 0, .int .i64 0, .int .i64 0])) w8) (
 IntKind.i64 = IntKind.i64 /\ (366 : Int) ≠ 0 /\
 F177_8 R n0 (IntKind.i64.wrap ((IntKind.i64.wrap (n0.tdiv 366)) + 1)) ds w6))
theorem c177_l : flat (bodyOf f177) = [c177_0, c177_1, c177_2, c177_3, c177_4, c177_5, c177_6, c177_7, c177_8, c177_9, c177_10] := by kernel_rfl
theorem c177_8_l : flat (innerC c177_8) = [c177_8_0] := by kernel_rfl
theorem c177_8_0_l : flat (innerC c177_8_0) = [c177_8_0_0, c177_8_0_1, c177_8_0_2] := by kernel_rfl
theorem c177_6_l : flat (innerC c177_6) = [c177_6_0] := by kernel_rfl
theorem c177_6_0_l : flat (innerC c177_6_0) = [c177_6_0_0, c177_6_0_1, c177_6_0_2] := by kernel_rfl
theorem F177_1_ok (R : Rt) (n6 n7 n8 : Int) (ds : Ds) (w : World) (E : Env) (e6 : E 6 = .int .i64 n6) (e7 : E 7 = .int .i64 n7) (e8 : E 8 = .int .i64 n8) (h : F177_1 R n6 n7 n8 ds w) :
    TrL prog f177.ntmps [c177_9, c177_10] (F177_q1 R) E ds w :=
  TrL_leaf (X := F177_1 R n6 n7 n8 ds w) (setAll_cons e6 (setAll_cons e7 (setAll_cons e8 setAll_nil))) (by kernel_rfl) (by kernel_rfl) h
theorem F177_2_ok (R : Rt) (J1 : (Int × Int) -> World -> Prop) (n6 n7 n8 : Int) (ds : Ds) (w : World) (E : Env) (e6 : E 6 = .int .i64 n6) (e7 : E 7 = .int .i64 n7) (e8 : E 8 = .int .i64 n8) (h : F177_2 R J1 n6 n7 n8 ds w) :
    TrL prog f177.ntmps [c177_8_0_0, c177_8_0_1, c177_8_0_2] (F177_q5 R J1) E ds w :=
  TrL_leaf (X := F177_2 R J1 n6 n7 n8 ds w) (setAll_cons e6 (setAll_cons e7 (setAll_cons e8 setAll_nil))) (by kernel_rfl) (by kernel_rfl) h
theorem F177_3_ok (R : Rt) (n6 n7 n8 : Int) (ds : Ds) (w : World) (E : Env) (e6 : E 6 = .int .i64 n6) (e7 : E 7 = .int .i64 n7) (e8 : E 8 = .int .i64 n8) (h : F177_3 R n6 n7 n8 ds w) :
    TrL prog f177.ntmps [c177_8_0] (F177_q4 R) E ds w :=
  TrL_one (Tr_loop' (c := innerC c177_8_0) (σ := Int × Int) (enc := (fun (s : Int × Int) (E : Env) => E 7 = .int .i64 s.1 /\ E 8 = .int .i64 s.2)) (D := (fun E K => dInt .i64 (E 7) fun n7 => dInt .i64 (E 8) fun n8 => K (n7, n8))) (F := (fun (J1 : (Int × Int) -> World -> Prop) (s : Int × Int) (w : World) => F177_2 R J1 n6 s.1 s.2 ds w)) (s0 := (n7, n8)) (by kernel_rfl) c177_8_0_l ⟨e7, e8⟩ (by kernel_rfl) (fun E K hD => by obtain ⟨n7, e7, hD⟩ := dInt_elim hD; obtain ⟨n8, e8, hD⟩ := dInt_elim hD; exact ⟨(n7, n8), ⟨e7, e8⟩, hD⟩)
      (fun J1 s E' w' he ha hF => by
      obtain ⟨e7', e8'⟩ := he
      exact F177_2_ok R J1 n6 s.1 s.2 ds w' E' ((ha 6 (by kernel_rfl)).trans e6) e7' e8' hF) h)
theorem F177_4_ok (R : Rt) (n6 n7 n8 : Int) (ds : Ds) (w : World) (E : Env) (e6 : E 6 = .int .i64 n6) (e7 : E 7 = .int .i64 n7) (e8 : E 8 = .int .i64 n8) (h : F177_4 R n6 n7 n8 ds w) :
    TrL prog f177.ntmps [c177_8, c177_9, c177_10] (F177_q1 R) E ds w :=
  TrL_head (K := (F177_k2 R)) (Tr_block' (c := innerC c177_8) (by kernel_rfl) c177_8_l (F177_3_ok R n6 n7 n8 ds w E e6 e7 e8 h))
    (fun E' ds' w' hD => by
      obtain ⟨n6, e6, hD⟩ := dInt_elim hD; obtain ⟨n7, e7, hD⟩ := dInt_elim hD; obtain ⟨n8, e8, hD⟩ := dInt_elim hD; exact F177_1_ok R n6 n7 n8 ds' w' E' e6 e7 e8 hD)
theorem F177_5_ok (R : Rt) (n0 n6 : Int) (ds : Ds) (w : World) (E : Env) (e0 : E 0 = .int .i64 n0) (e6 : E 6 = .int .i64 n6) (h : F177_5 R n0 n6 ds w) :
    TrL prog f177.ntmps [c177_7, c177_8, c177_9, c177_10] (F177_q1 R) E ds w :=
  TrL_piece (pre := [c177_7]) (K := (F177_k6 R)) (X := F177_5 R n0 n6 ds w) (setAll_cons e0 (setAll_cons e6 setAll_nil)) (by kernel_rfl) (by kernel_rfl)
    (fun E' ds' w' hD => by
      obtain ⟨n6, e6, hD⟩ := dInt_elim hD; obtain ⟨n7, e7, hD⟩ := dInt_elim hD; obtain ⟨n8, e8, hD⟩ := dInt_elim hD; exact F177_4_ok R n6 n7 n8 ds' w' E' e6 e7 e8 hD) h
theorem F177_6_ok (R : Rt) (J1 : (Int) -> World -> Prop) (n0 n6 : Int) (ds : Ds) (w : World) (E : Env) (e0 : E 0 = .int .i64 n0) (e6 : E 6 = .int .i64 n6) (h : F177_6 R J1 n0 n6 ds w) :
    TrL prog f177.ntmps [c177_6_0_0, c177_6_0_1, c177_6_0_2] (F177_q10 R J1) E ds w :=
  TrL_leaf (X := F177_6 R J1 n0 n6 ds w) (setAll_cons e0 (setAll_cons e6 setAll_nil)) (by kernel_rfl) (by kernel_rfl) h
theorem F177_7_ok (R : Rt) (n0 n6 : Int) (ds : Ds) (w : World) (E : Env) (e0 : E 0 = .int .i64 n0) (e6 : E 6 = .int .i64 n6) (h : F177_7 R n0 n6 ds w) :
    TrL prog f177.ntmps [c177_6_0] (F177_q9 R) E ds w :=
  TrL_one (Tr_loop' (c := innerC c177_6_0) (σ := Int) (enc := (fun (s : Int) (E : Env) => E 6 = .int .i64 s)) (D := (fun E K => dInt .i64 (E 6) fun n6 => K n6)) (F := (fun (J1 : (Int) -> World -> Prop) (s : Int) (w : World) => F177_6 R J1 n0 s ds w)) (s0 := n6) (by kernel_rfl) c177_6_0_l e6 (by kernel_rfl) (fun E K hD => by obtain ⟨n6, e6, hD⟩ := dInt_elim hD; exact ⟨n6, e6, hD⟩)
      (fun J1 s E' w' he ha hF => by
      have e6' := he
      exact F177_6_ok R J1 n0 s ds w' E' ((ha 0 (by kernel_rfl)).trans e0) e6' hF) h)
theorem F177_8_ok (R : Rt) (n0 n6 : Int) (ds : Ds) (w : World) (E : Env) (e0 : E 0 = .int .i64 n0) (e6 : E 6 = .int .i64 n6) (h : F177_8 R n0 n6 ds w) :
    TrL prog f177.ntmps [c177_6, c177_7, c177_8, c177_9, c177_10] (F177_q1 R) E ds w :=
  TrL_head (K := (F177_k7 R)) (Tr_block' (c := innerC c177_6) (by kernel_rfl) c177_6_l (F177_7_ok R n0 n6 ds w E e0 e6 h))
    (fun E' ds' w' hD => by
      obtain ⟨n0, e0, hD⟩ := dInt_elim hD; obtain ⟨n6, e6, hD⟩ := dInt_elim hD; exact F177_5_ok R n0 n6 ds' w' E' e0 e6 hD)
theorem F177_9_ok (R : Rt) (n0 : Int) (ds : Ds) (w : World) (E : Env) (e0 : E 0 = .int .i64 n0) (h : F177_9 R n0 ds w) :
    TrL prog f177.ntmps [c177_0, c177_1, c177_2, c177_3, c177_4, c177_5, c177_6, c177_7, c177_8, c177_9, c177_10] (F177_q1 R) E ds w :=
  TrL_piece (pre := [c177_0, c177_1, c177_2, c177_3, c177_4, c177_5]) (K := (F177_k11 R)) (X := F177_9 R n0 ds w) (setAll_cons e0 setAll_nil) (by kernel_rfl) (by kernel_rfl)
    (fun E' ds' w' hD => by
      obtain ⟨n0, e0, hD⟩ := dInt_elim hD; obtain ⟨n6, e6, hD⟩ := dInt_elim hD; exact F177_8_ok R n0 n6 ds' w' E' e0 e6 hD) h
theorem F177_calls (n0 : Int) (w : World) (R : Rt) (h : F177_9 R n0 [] w) : Calls prog 177 #[.int .i64 n0] w R :=
  calls_of_L (l := [c177_0, c177_1, c177_2, c177_3, c177_4, c177_5, c177_6, c177_7, c177_8, c177_9, c177_10]) func177 (by kernel_rfl) (by rw [ntmps177]; exact Nat.le_of_ble_eq_true (by kernel_rfl)) c177_l
    (F177_9_ok R n0 [] w _ rfl h)
noncomputable def c178_0 := cI5 f178 0
noncomputable def c178_1 := cI5 f178 1
noncomputable def c178_2 := cI5 f178 2
noncomputable def c178_3 := cI5 f178 3
def F178_q1 (R : Rt) : EQ := endQ prog f178.results.toList R
def F178_1 (R : Rt) (n0 n1 : Int) (ds : Ds) (w : World) : Prop :=
 Calls prog 98 #[.int .i64 n0] w fun e w1 =>
 ∃ s7 : ByteArray, e = .returned (.string s7) /\
 Calls prog 99 #[.string (⟨#[48]⟩ : ByteArray), .int .i64 (IntKind.i64.wrap (n1 - (s7.size : Int)))] w1 fun e w2 =>
 ∃ s12 : ByteArray, e = .returned (.string s12) /\
 ((s12.size + s7.size : Nat) : Int) ≤ 9223372036854775807 /\
 runD prog ds w2 fun w3 =>
 R (.returned (.string (s12 ++ s7))) w3
theorem c178_l : flat (bodyOf f178) = [c178_0, c178_1, c178_2, c178_3] := by kernel_rfl
theorem F178_1_ok (R : Rt) (n0 n1 : Int) (ds : Ds) (w : World) (E : Env) (e0 : E 0 = .int .i64 n0) (e1 : E 1 = .int .i64 n1) (h : F178_1 R n0 n1 ds w) :
    TrL prog f178.ntmps [c178_0, c178_1, c178_2, c178_3] (F178_q1 R) E ds w :=
  TrL_leaf (X := F178_1 R n0 n1 ds w) (setAll_cons e0 (setAll_cons e1 setAll_nil)) (by kernel_rfl) (by kernel_rfl) h
theorem F178_calls (n0 n1 : Int) (w : World) (R : Rt) (h : F178_1 R n0 n1 [] w) : Calls prog 178 #[.int .i64 n0, .int .i64 n1] w R :=
  calls_of_L (l := [c178_0, c178_1, c178_2, c178_3]) func178 (by kernel_rfl) (by rw [ntmps178]; exact Nat.le_of_ble_eq_true (by kernel_rfl)) c178_l
    (F178_1_ok R n0 n1 [] w _ rfl rfl h)
noncomputable def c167_0 := cI5 f167 0
noncomputable def c167_1 := cI5 f167 1
noncomputable def c167_2 := cI5 f167 2
noncomputable def c167_3 := cI5 f167 3
def F167_q1 (R : Rt) : EQ := endQ prog f167.results.toList R
def F167_1 (R : Rt) (n0 : Int) (ds : Ds) (w : World) : Prop :=
 Calls prog 177 #[.int .i64 n0] w fun e w1 =>
 ∃ n9_0 : Int, ∃ n9_1 : Int, ∃ n9_2 : Int, ∃ n9_3 : Int, e = .returned (.tuple #[.int .i64 n9_0, .int .i64 n9_1, .int .i64 n9_2, .int .i64 n9_3]) /\
 Calls prog 178 #[.int .i64 n9_0, .int .i64 4] w1 fun e w2 =>
 ∃ s15 : ByteArray, e = .returned (.string s15) /\
 Calls prog 178 #[.int .i64 n9_1, .int .i64 2] w2 fun e w3 =>
 ∃ s17 : ByteArray, e = .returned (.string s17) /\
 ((s15.size + s17.size : Nat) : Int) ≤ 9223372036854775807 /\
 Calls prog 178 #[.int .i64 n9_2, .int .i64 2] w3 fun e w4 =>
 ∃ s20 : ByteArray, e = .returned (.string s20) /\
 (((s15 ++ s17).size + s20.size : Nat) : Int) ≤ 9223372036854775807 /\
 runD prog ds w4 fun w5 =>
 R (.returned (.string ((s15 ++ s17) ++ s20))) w5
theorem c167_l : flat (bodyOf f167) = [c167_0, c167_1, c167_2, c167_3] := by kernel_rfl
theorem F167_1_ok (R : Rt) (n0 : Int) (ds : Ds) (w : World) (E : Env) (e0 : E 0 = .int .i64 n0) (h : F167_1 R n0 ds w) :
    TrL prog f167.ntmps [c167_0, c167_1, c167_2, c167_3] (F167_q1 R) E ds w :=
  TrL_leaf (X := F167_1 R n0 ds w) (setAll_cons e0 setAll_nil) (by kernel_rfl) (by kernel_rfl) h
theorem F167_calls (n0 : Int) (w : World) (R : Rt) (h : F167_1 R n0 [] w) : Calls prog 167 #[.int .i64 n0] w R :=
  calls_of_L (l := [c167_0, c167_1, c167_2, c167_3]) func167 (by kernel_rfl) (by rw [ntmps167]; exact Nat.le_of_ble_eq_true (by kernel_rfl)) c167_l
    (F167_1_ok R n0 [] w _ rfl h)
noncomputable def c156_0 := cI5 f156 0
noncomputable def c156_1 := cI5 f156 1
noncomputable def c156_2 := cI5 f156 2
noncomputable def c156_3 := cI5 f156 3
noncomputable def c156_4 := cI5 f156 4
noncomputable def c156_5 := cI5 f156 5
noncomputable def c156_6 := cI5 f156 6
def F156_q1 (R : Rt) : EQ := endQ prog f156.results.toList R
def F156_1 (R : Rt) (n0 : Int) (ds : Ds) (w : World) : Prop :=
 Calls prog 136 #[.int .i64 n0] w fun e w1 =>
 ∃ b5 : Bool, e = .returned (.bool b5) /\
 Br (!b5) (
 runD prog ds w1 fun w2 =>
 R (.returned (.tuple #[.string (⟨#[]⟩ : ByteArray), .int .i64 1])) w2) (
 Br (n0 == 0) (
 runD prog ds w1 fun w3 =>
 R (.returned (.tuple #[.string (⟨#[32, 32, 32, 32, 32, 32, 32, 32]⟩ : ByteArray), .int .i64 0])) w3) (
 Calls prog 167 #[.int .i64 n0] w1 fun e w4 =>
 ∃ s10 : ByteArray, e = .returned (.string s10) /\
 runD prog ds w4 fun w5 =>
 R (.returned (.tuple #[.string s10, .int .i64 0])) w5))
theorem c156_l : flat (bodyOf f156) = [c156_0, c156_1, c156_2, c156_3, c156_4, c156_5, c156_6] := by kernel_rfl
theorem F156_1_ok (R : Rt) (n0 : Int) (ds : Ds) (w : World) (E : Env) (e0 : E 0 = .int .i64 n0) (h : F156_1 R n0 ds w) :
    TrL prog f156.ntmps [c156_0, c156_1, c156_2, c156_3, c156_4, c156_5, c156_6] (F156_q1 R) E ds w :=
  TrL_leaf (X := F156_1 R n0 ds w) (setAll_cons e0 setAll_nil) (by kernel_rfl) (by kernel_rfl) h
theorem F156_calls (n0 : Int) (w : World) (R : Rt) (h : F156_1 R n0 [] w) : Calls prog 156 #[.int .i64 n0] w R :=
  calls_of_L (l := [c156_0, c156_1, c156_2, c156_3, c156_4, c156_5, c156_6]) func156 (by kernel_rfl) (by rw [ntmps156]; exact Nat.le_of_ble_eq_true (by kernel_rfl)) c156_l
    (F156_1_ok R n0 [] w _ rfl h)
end Go.Proofs.YtecmfdfhpldmmaaGreatDoor

/- Shallow texts of functions, printed by program, each checked by the kernel against the loaded code. No condition. -/
set_option maxRecDepth 100000
set_option linter.unusedVariables false
namespace Go.Proofs.YtecmfdfhpldmmaaGreatDoor
open Go.Sh
open Tryz
end Go.Proofs.YtecmfdfhpldmmaaGreatDoor

/- Shallow texts of functions, printed by program, each checked by the kernel against the loaded code. No condition. -/
set_option maxRecDepth 100000
set_option linter.unusedVariables false
namespace Go.Proofs.YtecmfdfhpldmmaaGreatDoor
open Go.Sh
open Tryz
@[reducible] noncomputable def cI7 (f : Func) (i : Nat) : Code := itemAt (flat (bodyOf f)) i
@[reducible] noncomputable def cJ7 (c : Code) (i : Nat) : Code := itemAt (flat (innerC c)) i
noncomputable def c36_0 := cI7 f36 0
noncomputable def c36_1 := cI7 f36 1
noncomputable def c36_2 := cI7 f36 2
noncomputable def c36_3 := cI7 f36 3
noncomputable def c36_4 := cI7 f36 4
noncomputable def c36_5 := cI7 f36 5
noncomputable def c36_6 := cI7 f36 6
noncomputable def c36_7 := cI7 f36 7
noncomputable def c36_8 := cI7 f36 8
noncomputable def c36_9 := cI7 f36 9
noncomputable def c36_5_0 := cJ7 c36_5 0
noncomputable def c36_5_0_0 := cJ7 c36_5_0 0
noncomputable def c36_5_0_1 := cJ7 c36_5_0 1
noncomputable def c36_5_0_2 := cJ7 c36_5_0 2
noncomputable def c36_5_0_3 := cJ7 c36_5_0 3
def F36_q1 (R : Rt) : EQ := endQ prog f36.results.toList R
def F36_1 (R : Rt) (l0 : SV) (ds : Ds) (w : World) : Prop :=
 Br (decide ((l0.len : Int) > 16)) (
 runD prog ds w fun w1 =>
 R (.returned (.int .i64 3)) w1) (
 Calls prog 69 #[.slice l0.a l0.len l0.cap] w fun e w2 =>
 ∃ n33 : Int, e = .returned (.int .i64 n33) /\
 Br (decide (n33 > 2000)) (
 runD prog ds w2 fun w3 =>
 R (.returned (.int .i64 3)) w3) (
 runD prog ds w2 fun w4 =>
 R (.returned (.int .i64 0)) w4))
def F36_k2 (R : Rt) : EP := (fun E ds w => dSl (E 0) fun l0 => F36_1 R l0 ds w)
def F36_q3 (R : Rt) : EQ := (thenQ (F36_k2 R) (F36_q1 R))
def F36_q4 (R : Rt) : EQ := (blockQ 0 (F36_q3 R))
def F36_q5 (R : Rt) (J1 : (Int) -> World -> Prop) : EQ := (thenQ (fun E _ w => dInt .i64 (E 16) fun n16 => J1 n16 w) (F36_q4 R))
def F36_2 (R : Rt) (J1 : (Int) -> World -> Prop) (l0 : SV) (m3 : Option Nat) (l14 : SV) (n15 n16 : Int) (ds : Ds) (w : World) : Prop :=
 Br (decide (n16 < n15)) (
 ∃ a5 : Addr, l14.a = some a5 /\ 0 ≤ n16 /\ n16 < (l14.len : Int) /\
 ∃ s19_0 : ByteArray, w.cell? ((a5.add (n16.toNat * 4)).add 0) = some (.string s19_0) /\
 ∃ n19_1 : Int, w.cell? ((a5.add (n16.toNat * 4)).add 1) = some (.int .i64 n19_1) /\
 ∃ n19_2 : Int, w.cell? ((a5.add (n16.toNat * 4)).add 2) = some (.int .i64 n19_2) /\
 ∃ b19_3 : Bool, w.cell? ((a5.add (n16.toNat * 4)).add 3) = some (.bool b19_3) /\
 alE (.cells #[.string (⟨#[]⟩ : ByteArray), .int .i64 0, .int .i64 0, .bool false] 23) w fun r5 w6 =>
 stA prog 23 (⟨r5, 0, none⟩ : Addr) #[.string s19_0, .int .i64 n19_1, .int .i64 n19_2, .bool b19_3] w6 fun w7 =>
 ∃ s22 : ByteArray, w7.cell? (⟨r5, 0, none⟩ : Addr) = some (.string s22) /\
 ∃ b23 : Bool, ∃ w8 : World, (Instr.lookup 88 (.map m3) (.string s22) false).run prog w7 = .ok (.bool b23) w8 /\
 Br b23 (
 runD prog ds w8 fun w9 =>
 R (.returned (.int .i64 5)) w9) (
 ∃ s26 : ByteArray, w8.cell? (⟨r5, 0, none⟩ : Addr) = some (.string s26) /\
 doE prog (Instr.mapUpdate 88 (.map m3) (.string s26) (.bool true)) w8 fun w10 =>
 J1 (IntKind.i64.wrap (n16 + 1)) w10)) (
 F36_1 R l0 ds w)
def F36_3 (R : Rt) (l0 : SV) (m3 : Option Nat) (l14 : SV) (n15 n16 : Int) (ds : Ds) (w : World) : Prop :=
 loopT (fun (J1 : (Int) -> World -> Prop) (s : Int) (w : World) => F36_2 R J1 l0 m3 l14 n15 s ds w) n16 w
abbrev F36_4 (R : Rt) (l0 : SV) (m3 : Option Nat) (l14 : SV) (n15 n16 : Int) (ds : Ds) (w : World) : Prop := F36_3 R l0 m3 l14 n15 n16 ds w
def F36_k6 (R : Rt) : EP := (fun E ds w => dSl (E 0) fun l0 => dMap (E 3) fun m3 => dSl (E 14) fun l14 => dInt .i64 (E 15) fun n15 => dInt .i64 (E 16) fun n16 => F36_4 R l0 m3 l14 n15 n16 ds w)
def F36_5 (R : Rt) (l0 : SV) (ds : Ds) (w : World) : Prop :=
 Br ((l0.len : Int) == 0) (
 runD prog ds w fun w11 =>
 R (.returned (.int .i64 1)) w11) (
 Calls prog 75 #[.slice l0.a l0.len l0.cap, .func (.func 76) #[] #[]] w fun e w12 =>
 ∃ b11 : Bool, e = .returned (.bool b11) /\
 Br b11 (
 runD prog ds w12 fun w13 =>
 R (.returned (.int .i64 1)) w13) (
 alE (.map #[] 0) w12 fun r13 w14 =>
 F36_4 R l0 (some r13) l0 (l0.len : Int) 0 ds w14))
theorem c36_l : flat (bodyOf f36) = [c36_0, c36_1, c36_2, c36_3, c36_4, c36_5, c36_6, c36_7, c36_8, c36_9] := by kernel_rfl
theorem c36_5_l : flat (innerC c36_5) = [c36_5_0] := by kernel_rfl
theorem c36_5_0_l : flat (innerC c36_5_0) = [c36_5_0_0, c36_5_0_1, c36_5_0_2, c36_5_0_3] := by kernel_rfl
theorem F36_1_ok (R : Rt) (l0 : SV) (ds : Ds) (w : World) (E : Env) (e0 : E 0 = .slice l0.a l0.len l0.cap) (h : F36_1 R l0 ds w) :
    TrL prog f36.ntmps [c36_6, c36_7, c36_8, c36_9] (F36_q1 R) E ds w :=
  TrL_leaf (X := F36_1 R l0 ds w) (setAll_cons e0 setAll_nil) (by kernel_rfl) (by kernel_rfl) h
theorem F36_2_ok (R : Rt) (J1 : (Int) -> World -> Prop) (l0 : SV) (m3 : Option Nat) (l14 : SV) (n15 n16 : Int) (ds : Ds) (w : World) (E : Env) (e0 : E 0 = .slice l0.a l0.len l0.cap) (e3 : E 3 = .map m3) (e14 : E 14 = .slice l14.a l14.len l14.cap) (e15 : E 15 = .int .i64 n15) (e16 : E 16 = .int .i64 n16) (h : F36_2 R J1 l0 m3 l14 n15 n16 ds w) :
    TrL prog f36.ntmps [c36_5_0_0, c36_5_0_1, c36_5_0_2, c36_5_0_3] (F36_q5 R J1) E ds w :=
  TrL_leaf (X := F36_2 R J1 l0 m3 l14 n15 n16 ds w) (setAll_cons e0 (setAll_cons e3 (setAll_cons e14 (setAll_cons e15 (setAll_cons e16 setAll_nil))))) (by kernel_rfl) (by kernel_rfl) h
theorem F36_3_ok (R : Rt) (l0 : SV) (m3 : Option Nat) (l14 : SV) (n15 n16 : Int) (ds : Ds) (w : World) (E : Env) (e0 : E 0 = .slice l0.a l0.len l0.cap) (e3 : E 3 = .map m3) (e14 : E 14 = .slice l14.a l14.len l14.cap) (e15 : E 15 = .int .i64 n15) (e16 : E 16 = .int .i64 n16) (h : F36_3 R l0 m3 l14 n15 n16 ds w) :
    TrL prog f36.ntmps [c36_5_0] (F36_q4 R) E ds w :=
  TrL_one (Tr_loop' (c := innerC c36_5_0) (σ := Int) (enc := (fun (s : Int) (E : Env) => E 16 = .int .i64 s)) (D := (fun E K => dInt .i64 (E 16) fun n16 => K n16)) (F := (fun (J1 : (Int) -> World -> Prop) (s : Int) (w : World) => F36_2 R J1 l0 m3 l14 n15 s ds w)) (s0 := n16) (by kernel_rfl) c36_5_0_l e16 (by kernel_rfl) (fun E K hD => by obtain ⟨n16, e16, hD⟩ := dInt_elim hD; exact ⟨n16, e16, hD⟩)
      (fun J1 s E' w' he ha hF => by
      have e16' := he
      exact F36_2_ok R J1 l0 m3 l14 n15 s ds w' E' ((ha 0 (by kernel_rfl)).trans e0) ((ha 3 (by kernel_rfl)).trans e3) ((ha 14 (by kernel_rfl)).trans e14) ((ha 15 (by kernel_rfl)).trans e15) e16' hF) h)
theorem F36_4_ok (R : Rt) (l0 : SV) (m3 : Option Nat) (l14 : SV) (n15 n16 : Int) (ds : Ds) (w : World) (E : Env) (e0 : E 0 = .slice l0.a l0.len l0.cap) (e3 : E 3 = .map m3) (e14 : E 14 = .slice l14.a l14.len l14.cap) (e15 : E 15 = .int .i64 n15) (e16 : E 16 = .int .i64 n16) (h : F36_4 R l0 m3 l14 n15 n16 ds w) :
    TrL prog f36.ntmps [c36_5, c36_6, c36_7, c36_8, c36_9] (F36_q1 R) E ds w :=
  TrL_head (K := (F36_k2 R)) (Tr_block' (c := innerC c36_5) (by kernel_rfl) c36_5_l (F36_3_ok R l0 m3 l14 n15 n16 ds w E e0 e3 e14 e15 e16 h))
    (fun E' ds' w' hD => by
      obtain ⟨l0, e0, hD⟩ := dSl_elim hD; exact F36_1_ok R l0 ds' w' E' e0 hD)
theorem F36_5_ok (R : Rt) (l0 : SV) (ds : Ds) (w : World) (E : Env) (e0 : E 0 = .slice l0.a l0.len l0.cap) (h : F36_5 R l0 ds w) :
    TrL prog f36.ntmps [c36_0, c36_1, c36_2, c36_3, c36_4, c36_5, c36_6, c36_7, c36_8, c36_9] (F36_q1 R) E ds w :=
  TrL_piece (pre := [c36_0, c36_1, c36_2, c36_3, c36_4]) (K := (F36_k6 R)) (X := F36_5 R l0 ds w) (setAll_cons e0 setAll_nil) (by kernel_rfl) (by kernel_rfl)
    (fun E' ds' w' hD => by
      obtain ⟨l0, e0, hD⟩ := dSl_elim hD; obtain ⟨m3, e3, hD⟩ := dMap_elim hD; obtain ⟨l14, e14, hD⟩ := dSl_elim hD; obtain ⟨n15, e15, hD⟩ := dInt_elim hD; obtain ⟨n16, e16, hD⟩ := dInt_elim hD; exact F36_4_ok R l0 m3 l14 n15 n16 ds' w' E' e0 e3 e14 e15 e16 hD) h
theorem F36_calls (l0 : SV) (w : World) (R : Rt) (h : F36_5 R l0 [] w) : Calls prog 36 #[.slice l0.a l0.len l0.cap] w R :=
  calls_of_L (l := [c36_0, c36_1, c36_2, c36_3, c36_4, c36_5, c36_6, c36_7, c36_8, c36_9]) func36 (by kernel_rfl) (by rw [ntmps36]; exact Nat.le_of_ble_eq_true (by kernel_rfl)) c36_l
    (F36_5_ok R l0 [] w _ rfl h)
noncomputable def c75_0 := cI7 f75 0
noncomputable def c75_1 := cI7 f75 1
noncomputable def c75_2 := cI7 f75 2
def F75_q1 (R : Rt) : EQ := endQ prog f75.results.toList R
def F75_1 (R : Rt) (l0 : SV) (v1 : Value) (ds : Ds) (w : World) : Prop :=
 Calls prog 66 #[.slice l0.a l0.len l0.cap, v1] w fun e w1 =>
 ∃ n7 : Int, e = .returned (.int .i64 n7) /\
 runD prog ds w1 fun w2 =>
 R (.returned (.bool (decide (n7 ≥ 0)))) w2
theorem c75_l : flat (bodyOf f75) = [c75_0, c75_1, c75_2] := by kernel_rfl
theorem F75_1_ok (R : Rt) (l0 : SV) (v1 : Value) (ds : Ds) (w : World) (E : Env) (e0 : E 0 = .slice l0.a l0.len l0.cap) (e1 : E 1 = v1) (h : F75_1 R l0 v1 ds w) :
    TrL prog f75.ntmps [c75_0, c75_1, c75_2] (F75_q1 R) E ds w :=
  TrL_leaf (X := F75_1 R l0 v1 ds w) (setAll_cons e0 (setAll_cons e1 setAll_nil)) (by kernel_rfl) (by kernel_rfl) h
theorem F75_calls (l0 : SV) (v1 : Value) (w : World) (R : Rt) (h : F75_1 R l0 v1 [] w) : Calls prog 75 #[.slice l0.a l0.len l0.cap, v1] w R :=
  calls_of_L (l := [c75_0, c75_1, c75_2]) func75 (by kernel_rfl) (by rw [ntmps75]; exact Nat.le_of_ble_eq_true (by kernel_rfl)) c75_l
    (F75_1_ok R l0 v1 [] w _ rfl rfl h)
noncomputable def c76_0 := cI7 f76 0
noncomputable def c76_1 := cI7 f76 1
noncomputable def c76_2 := cI7 f76 2
def F76_q1 (R : Rt) : EQ := endQ prog f76.results.toList R
def F76_1 (R : Rt) (s0_0 : ByteArray) (n0_1 n0_2 : Int) (b0_3 : Bool) (ds : Ds) (w : World) : Prop :=
 alE (.cells #[.string s0_0, .int .i64 n0_1, .int .i64 n0_2, .bool b0_3] 23) w fun r1 w1 =>
 ∃ s3_0 : ByteArray, w1.cell? ((⟨r1, 0, none⟩ : Addr).add 0) = some (.string s3_0) /\
 ∃ n3_1 : Int, w1.cell? ((⟨r1, 0, none⟩ : Addr).add 1) = some (.int .i64 n3_1) /\
 ∃ n3_2 : Int, w1.cell? ((⟨r1, 0, none⟩ : Addr).add 2) = some (.int .i64 n3_2) /\
 ∃ b3_3 : Bool, w1.cell? ((⟨r1, 0, none⟩ : Addr).add 3) = some (.bool b3_3) /\
 Calls prog 47 #[.agg #[.string s3_0, .int .i64 n3_1, .int .i64 n3_2, .bool b3_3]] w1 fun e w2 =>
 ∃ b4 : Bool, e = .returned (.bool b4) /\
 runD prog ds w2 fun w3 =>
 R (.returned (.bool (!b4))) w3
theorem c76_l : flat (bodyOf f76) = [c76_0, c76_1, c76_2] := by kernel_rfl
theorem F76_1_ok (R : Rt) (s0_0 : ByteArray) (n0_1 n0_2 : Int) (b0_3 : Bool) (ds : Ds) (w : World) (E : Env) (e0 : E 0 = .agg #[.string s0_0, .int .i64 n0_1, .int .i64 n0_2, .bool b0_3]) (h : F76_1 R s0_0 n0_1 n0_2 b0_3 ds w) :
    TrL prog f76.ntmps [c76_0, c76_1, c76_2] (F76_q1 R) E ds w :=
  TrL_leaf (X := F76_1 R s0_0 n0_1 n0_2 b0_3 ds w) (setAll_cons e0 setAll_nil) (by kernel_rfl) (by kernel_rfl) h
theorem F76_calls (s0_0 : ByteArray) (n0_1 n0_2 : Int) (b0_3 : Bool) (w : World) (R : Rt) (h : F76_1 R s0_0 n0_1 n0_2 b0_3 [] w) : Calls prog 76 #[.agg #[.string s0_0, .int .i64 n0_1, .int .i64 n0_2, .bool b0_3]] w R :=
  calls_of_L (l := [c76_0, c76_1, c76_2]) func76 (by kernel_rfl) (by rw [ntmps76]; exact Nat.le_of_ble_eq_true (by kernel_rfl)) c76_l
    (F76_1_ok R s0_0 n0_1 n0_2 b0_3 [] w _ rfl h)
noncomputable def c69_0 := cI7 f69 0
noncomputable def c69_1 := cI7 f69 1
noncomputable def c69_2 := cI7 f69 2
noncomputable def c69_3 := cI7 f69 3
noncomputable def c69_4 := cI7 f69 4
noncomputable def c69_5 := cI7 f69 5
noncomputable def c69_3_0 := cJ7 c69_3 0
noncomputable def c69_3_0_0 := cJ7 c69_3_0 0
noncomputable def c69_3_0_1 := cJ7 c69_3_0 1
noncomputable def c69_3_0_2 := cJ7 c69_3_0 2
noncomputable def c69_3_0_3 := cJ7 c69_3_0 3
def F69_q1 (R : Rt) : EQ := endQ prog f69.results.toList R
def F69_1 (R : Rt) (n3 : Int) (ds : Ds) (w : World) : Prop :=
 runD prog ds w fun w1 =>
 R (.returned (.int .i64 n3)) w1
def F69_k2 (R : Rt) : EP := (fun E ds w => dInt .i64 (E 3) fun n3 => F69_1 R n3 ds w)
def F69_q3 (R : Rt) : EQ := (thenQ (F69_k2 R) (F69_q1 R))
def F69_q4 (R : Rt) : EQ := (blockQ 0 (F69_q3 R))
def F69_q5 (R : Rt) (J1 : (Int × Int) -> World -> Prop) : EQ := (thenQ (fun E _ w => dInt .i64 (E 3) fun n3 => dInt .i64 (E 11) fun n11 => J1 (n3, n11) w) (F69_q4 R))
def F69_2 (R : Rt) (J1 : (Int × Int) -> World -> Prop) (n3 : Int) (l9 : SV) (n10 n11 : Int) (ds : Ds) (w : World) : Prop :=
 Br (decide (n11 < n10)) (
 ∃ a2 : Addr, l9.a = some a2 /\ 0 ≤ n11 /\ n11 < (l9.len : Int) /\
 ∃ s14_0 : ByteArray, w.cell? ((a2.add (n11.toNat * 4)).add 0) = some (.string s14_0) /\
 ∃ n14_1 : Int, w.cell? ((a2.add (n11.toNat * 4)).add 1) = some (.int .i64 n14_1) /\
 ∃ n14_2 : Int, w.cell? ((a2.add (n11.toNat * 4)).add 2) = some (.int .i64 n14_2) /\
 ∃ b14_3 : Bool, w.cell? ((a2.add (n11.toNat * 4)).add 3) = some (.bool b14_3) /\
 alE (.cells #[.string (⟨#[]⟩ : ByteArray), .int .i64 0, .int .i64 0, .bool false] 23) w fun r5 w3 =>
 stA prog 23 (⟨r5, 0, none⟩ : Addr) #[.string s14_0, .int .i64 n14_1, .int .i64 n14_2, .bool b14_3] w3 fun w4 =>
 ∃ n17 : Int, w4.cell? ((⟨r5, 0, none⟩ : Addr).add 2) = some (.int .i64 n17) /\
 J1 ((IntKind.i64.wrap (n3 + n17)), (IntKind.i64.wrap (n11 + 1))) w4) (
 F69_1 R n3 ds w)
def F69_3 (R : Rt) (n3 : Int) (l9 : SV) (n10 n11 : Int) (ds : Ds) (w : World) : Prop :=
 loopT (fun (J1 : (Int × Int) -> World -> Prop) (s : Int × Int) (w : World) => F69_2 R J1 s.1 l9 n10 s.2 ds w) (n3, n11) w
abbrev F69_4 (R : Rt) (n3 : Int) (l9 : SV) (n10 n11 : Int) (ds : Ds) (w : World) : Prop := F69_3 R n3 l9 n10 n11 ds w
def F69_k6 (R : Rt) : EP := (fun E ds w => dInt .i64 (E 3) fun n3 => dSl (E 9) fun l9 => dInt .i64 (E 10) fun n10 => dInt .i64 (E 11) fun n11 => F69_4 R n3 l9 n10 n11 ds w)
def F69_5 (R : Rt) (l0 : SV) (ds : Ds) (w : World) : Prop :=
 Calls prog 71 #[.slice l0.a l0.len l0.cap] w fun e w5 =>
 ∃ n7 : Int, e = .returned (.int .i64 n7) /\
 F69_4 R (IntKind.i64.wrap ((1 : Int) + n7)) l0 (l0.len : Int) 0 ds w5
theorem c69_l : flat (bodyOf f69) = [c69_0, c69_1, c69_2, c69_3, c69_4, c69_5] := by kernel_rfl
theorem c69_3_l : flat (innerC c69_3) = [c69_3_0] := by kernel_rfl
theorem c69_3_0_l : flat (innerC c69_3_0) = [c69_3_0_0, c69_3_0_1, c69_3_0_2, c69_3_0_3] := by kernel_rfl
theorem F69_1_ok (R : Rt) (n3 : Int) (ds : Ds) (w : World) (E : Env) (e3 : E 3 = .int .i64 n3) (h : F69_1 R n3 ds w) :
    TrL prog f69.ntmps [c69_4, c69_5] (F69_q1 R) E ds w :=
  TrL_leaf (X := F69_1 R n3 ds w) (setAll_cons e3 setAll_nil) (by kernel_rfl) (by kernel_rfl) h
theorem F69_2_ok (R : Rt) (J1 : (Int × Int) -> World -> Prop) (n3 : Int) (l9 : SV) (n10 n11 : Int) (ds : Ds) (w : World) (E : Env) (e3 : E 3 = .int .i64 n3) (e9 : E 9 = .slice l9.a l9.len l9.cap) (e10 : E 10 = .int .i64 n10) (e11 : E 11 = .int .i64 n11) (h : F69_2 R J1 n3 l9 n10 n11 ds w) :
    TrL prog f69.ntmps [c69_3_0_0, c69_3_0_1, c69_3_0_2, c69_3_0_3] (F69_q5 R J1) E ds w :=
  TrL_leaf (X := F69_2 R J1 n3 l9 n10 n11 ds w) (setAll_cons e3 (setAll_cons e9 (setAll_cons e10 (setAll_cons e11 setAll_nil)))) (by kernel_rfl) (by kernel_rfl) h
theorem F69_3_ok (R : Rt) (n3 : Int) (l9 : SV) (n10 n11 : Int) (ds : Ds) (w : World) (E : Env) (e3 : E 3 = .int .i64 n3) (e9 : E 9 = .slice l9.a l9.len l9.cap) (e10 : E 10 = .int .i64 n10) (e11 : E 11 = .int .i64 n11) (h : F69_3 R n3 l9 n10 n11 ds w) :
    TrL prog f69.ntmps [c69_3_0] (F69_q4 R) E ds w :=
  TrL_one (Tr_loop' (c := innerC c69_3_0) (σ := Int × Int) (enc := (fun (s : Int × Int) (E : Env) => E 3 = .int .i64 s.1 /\ E 11 = .int .i64 s.2)) (D := (fun E K => dInt .i64 (E 3) fun n3 => dInt .i64 (E 11) fun n11 => K (n3, n11))) (F := (fun (J1 : (Int × Int) -> World -> Prop) (s : Int × Int) (w : World) => F69_2 R J1 s.1 l9 n10 s.2 ds w)) (s0 := (n3, n11)) (by kernel_rfl) c69_3_0_l ⟨e3, e11⟩ (by kernel_rfl) (fun E K hD => by obtain ⟨n3, e3, hD⟩ := dInt_elim hD; obtain ⟨n11, e11, hD⟩ := dInt_elim hD; exact ⟨(n3, n11), ⟨e3, e11⟩, hD⟩)
      (fun J1 s E' w' he ha hF => by
      obtain ⟨e3', e11'⟩ := he
      exact F69_2_ok R J1 s.1 l9 n10 s.2 ds w' E' e3' ((ha 9 (by kernel_rfl)).trans e9) ((ha 10 (by kernel_rfl)).trans e10) e11' hF) h)
theorem F69_4_ok (R : Rt) (n3 : Int) (l9 : SV) (n10 n11 : Int) (ds : Ds) (w : World) (E : Env) (e3 : E 3 = .int .i64 n3) (e9 : E 9 = .slice l9.a l9.len l9.cap) (e10 : E 10 = .int .i64 n10) (e11 : E 11 = .int .i64 n11) (h : F69_4 R n3 l9 n10 n11 ds w) :
    TrL prog f69.ntmps [c69_3, c69_4, c69_5] (F69_q1 R) E ds w :=
  TrL_head (K := (F69_k2 R)) (Tr_block' (c := innerC c69_3) (by kernel_rfl) c69_3_l (F69_3_ok R n3 l9 n10 n11 ds w E e3 e9 e10 e11 h))
    (fun E' ds' w' hD => by
      obtain ⟨n3, e3, hD⟩ := dInt_elim hD; exact F69_1_ok R n3 ds' w' E' e3 hD)
theorem F69_5_ok (R : Rt) (l0 : SV) (ds : Ds) (w : World) (E : Env) (e0 : E 0 = .slice l0.a l0.len l0.cap) (h : F69_5 R l0 ds w) :
    TrL prog f69.ntmps [c69_0, c69_1, c69_2, c69_3, c69_4, c69_5] (F69_q1 R) E ds w :=
  TrL_piece (pre := [c69_0, c69_1, c69_2]) (K := (F69_k6 R)) (X := F69_5 R l0 ds w) (setAll_cons e0 setAll_nil) (by kernel_rfl) (by kernel_rfl)
    (fun E' ds' w' hD => by
      obtain ⟨n3, e3, hD⟩ := dInt_elim hD; obtain ⟨l9, e9, hD⟩ := dSl_elim hD; obtain ⟨n10, e10, hD⟩ := dInt_elim hD; obtain ⟨n11, e11, hD⟩ := dInt_elim hD; exact F69_4_ok R n3 l9 n10 n11 ds' w' E' e3 e9 e10 e11 hD) h
theorem F69_calls (l0 : SV) (w : World) (R : Rt) (h : F69_5 R l0 [] w) : Calls prog 69 #[.slice l0.a l0.len l0.cap] w R :=
  calls_of_L (l := [c69_0, c69_1, c69_2, c69_3, c69_4, c69_5]) func69 (by kernel_rfl) (by rw [ntmps69]; exact Nat.le_of_ble_eq_true (by kernel_rfl)) c69_l
    (F69_5_ok R l0 [] w _ rfl h)
noncomputable def c71_0 := cI7 f71 0
noncomputable def c71_1 := cI7 f71 1
noncomputable def c71_2 := cI7 f71 2
noncomputable def c71_3 := cI7 f71 3
noncomputable def c71_4 := cI7 f71 4
noncomputable def c71_5 := cI7 f71 5
noncomputable def c71_3_0 := cJ7 c71_3 0
noncomputable def c71_3_0_0 := cJ7 c71_3_0 0
noncomputable def c71_3_0_1 := cJ7 c71_3_0 1
noncomputable def c71_3_0_2 := cJ7 c71_3_0 2
noncomputable def c71_3_0_3 := cJ7 c71_3_0 3
def F71_q1 (R : Rt) : EQ := endQ prog f71.results.toList R
def F71_1 (R : Rt) (n3 : Int) (ds : Ds) (w : World) : Prop :=
 IntKind.i64 = IntKind.i64 /\ (8 : Int) ≠ 0 /\
 runD prog ds w fun w1 =>
 R (.returned (.int .i64 (IntKind.i64.wrap ((IntKind.i64.wrap (n3 + 7)).tdiv 8)))) w1
def F71_k2 (R : Rt) : EP := (fun E ds w => dInt .i64 (E 3) fun n3 => F71_1 R n3 ds w)
def F71_q3 (R : Rt) : EQ := (thenQ (F71_k2 R) (F71_q1 R))
def F71_q4 (R : Rt) : EQ := (blockQ 0 (F71_q3 R))
def F71_q5 (R : Rt) (J1 : (Int × Int) -> World -> Prop) : EQ := (thenQ (fun E _ w => dInt .i64 (E 3) fun n3 => dInt .i64 (E 8) fun n8 => J1 (n3, n8) w) (F71_q4 R))
def F71_2 (R : Rt) (J1 : (Int × Int) -> World -> Prop) (n3 : Int) (l6 : SV) (n7 n8 : Int) (ds : Ds) (w : World) : Prop :=
 Br (decide (n8 < n7)) (
 ∃ a2 : Addr, l6.a = some a2 /\ 0 ≤ n8 /\ n8 < (l6.len : Int) /\
 ∃ s11_0 : ByteArray, w.cell? ((a2.add (n8.toNat * 4)).add 0) = some (.string s11_0) /\
 ∃ n11_1 : Int, w.cell? ((a2.add (n8.toNat * 4)).add 1) = some (.int .i64 n11_1) /\
 ∃ n11_2 : Int, w.cell? ((a2.add (n8.toNat * 4)).add 2) = some (.int .i64 n11_2) /\
 ∃ b11_3 : Bool, w.cell? ((a2.add (n8.toNat * 4)).add 3) = some (.bool b11_3) /\
 alE (.cells #[.string (⟨#[]⟩ : ByteArray), .int .i64 0, .int .i64 0, .bool false] 23) w fun r5 w3 =>
 stA prog 23 (⟨r5, 0, none⟩ : Addr) #[.string s11_0, .int .i64 n11_1, .int .i64 n11_2, .bool b11_3] w3 fun w4 =>
 ∃ b13 : Bool, w4.cell? ((⟨r5, 0, none⟩ : Addr).add 3) = some (.bool b13) /\
 Br b13 (
 J1 ((IntKind.i64.wrap (n3 + 1)), (IntKind.i64.wrap (n8 + 1))) w4) (
 J1 (n3, (IntKind.i64.wrap (n8 + 1))) w4)) (
 F71_1 R n3 ds w)
def F71_3 (R : Rt) (n3 : Int) (l6 : SV) (n7 n8 : Int) (ds : Ds) (w : World) : Prop :=
 loopT (fun (J1 : (Int × Int) -> World -> Prop) (s : Int × Int) (w : World) => F71_2 R J1 s.1 l6 n7 s.2 ds w) (n3, n8) w
abbrev F71_4 (R : Rt) (n3 : Int) (l6 : SV) (n7 n8 : Int) (ds : Ds) (w : World) : Prop := F71_3 R n3 l6 n7 n8 ds w
def F71_k6 (R : Rt) : EP := (fun E ds w => dInt .i64 (E 3) fun n3 => dSl (E 6) fun l6 => dInt .i64 (E 7) fun n7 => dInt .i64 (E 8) fun n8 => F71_4 R n3 l6 n7 n8 ds w)
def F71_5 (R : Rt) (l0 : SV) (ds : Ds) (w : World) : Prop :=
 F71_4 R 0 l0 (l0.len : Int) 0 ds w
theorem c71_l : flat (bodyOf f71) = [c71_0, c71_1, c71_2, c71_3, c71_4, c71_5] := by kernel_rfl
theorem c71_3_l : flat (innerC c71_3) = [c71_3_0] := by kernel_rfl
theorem c71_3_0_l : flat (innerC c71_3_0) = [c71_3_0_0, c71_3_0_1, c71_3_0_2, c71_3_0_3] := by kernel_rfl
theorem F71_1_ok (R : Rt) (n3 : Int) (ds : Ds) (w : World) (E : Env) (e3 : E 3 = .int .i64 n3) (h : F71_1 R n3 ds w) :
    TrL prog f71.ntmps [c71_4, c71_5] (F71_q1 R) E ds w :=
  TrL_leaf (X := F71_1 R n3 ds w) (setAll_cons e3 setAll_nil) (by kernel_rfl) (by kernel_rfl) h
theorem F71_2_ok (R : Rt) (J1 : (Int × Int) -> World -> Prop) (n3 : Int) (l6 : SV) (n7 n8 : Int) (ds : Ds) (w : World) (E : Env) (e3 : E 3 = .int .i64 n3) (e6 : E 6 = .slice l6.a l6.len l6.cap) (e7 : E 7 = .int .i64 n7) (e8 : E 8 = .int .i64 n8) (h : F71_2 R J1 n3 l6 n7 n8 ds w) :
    TrL prog f71.ntmps [c71_3_0_0, c71_3_0_1, c71_3_0_2, c71_3_0_3] (F71_q5 R J1) E ds w :=
  TrL_leaf (X := F71_2 R J1 n3 l6 n7 n8 ds w) (setAll_cons e3 (setAll_cons e6 (setAll_cons e7 (setAll_cons e8 setAll_nil)))) (by kernel_rfl) (by kernel_rfl) h
theorem F71_3_ok (R : Rt) (n3 : Int) (l6 : SV) (n7 n8 : Int) (ds : Ds) (w : World) (E : Env) (e3 : E 3 = .int .i64 n3) (e6 : E 6 = .slice l6.a l6.len l6.cap) (e7 : E 7 = .int .i64 n7) (e8 : E 8 = .int .i64 n8) (h : F71_3 R n3 l6 n7 n8 ds w) :
    TrL prog f71.ntmps [c71_3_0] (F71_q4 R) E ds w :=
  TrL_one (Tr_loop' (c := innerC c71_3_0) (σ := Int × Int) (enc := (fun (s : Int × Int) (E : Env) => E 3 = .int .i64 s.1 /\ E 8 = .int .i64 s.2)) (D := (fun E K => dInt .i64 (E 3) fun n3 => dInt .i64 (E 8) fun n8 => K (n3, n8))) (F := (fun (J1 : (Int × Int) -> World -> Prop) (s : Int × Int) (w : World) => F71_2 R J1 s.1 l6 n7 s.2 ds w)) (s0 := (n3, n8)) (by kernel_rfl) c71_3_0_l ⟨e3, e8⟩ (by kernel_rfl) (fun E K hD => by obtain ⟨n3, e3, hD⟩ := dInt_elim hD; obtain ⟨n8, e8, hD⟩ := dInt_elim hD; exact ⟨(n3, n8), ⟨e3, e8⟩, hD⟩)
      (fun J1 s E' w' he ha hF => by
      obtain ⟨e3', e8'⟩ := he
      exact F71_2_ok R J1 s.1 l6 n7 s.2 ds w' E' e3' ((ha 6 (by kernel_rfl)).trans e6) ((ha 7 (by kernel_rfl)).trans e7) e8' hF) h)
theorem F71_4_ok (R : Rt) (n3 : Int) (l6 : SV) (n7 n8 : Int) (ds : Ds) (w : World) (E : Env) (e3 : E 3 = .int .i64 n3) (e6 : E 6 = .slice l6.a l6.len l6.cap) (e7 : E 7 = .int .i64 n7) (e8 : E 8 = .int .i64 n8) (h : F71_4 R n3 l6 n7 n8 ds w) :
    TrL prog f71.ntmps [c71_3, c71_4, c71_5] (F71_q1 R) E ds w :=
  TrL_head (K := (F71_k2 R)) (Tr_block' (c := innerC c71_3) (by kernel_rfl) c71_3_l (F71_3_ok R n3 l6 n7 n8 ds w E e3 e6 e7 e8 h))
    (fun E' ds' w' hD => by
      obtain ⟨n3, e3, hD⟩ := dInt_elim hD; exact F71_1_ok R n3 ds' w' E' e3 hD)
theorem F71_5_ok (R : Rt) (l0 : SV) (ds : Ds) (w : World) (E : Env) (e0 : E 0 = .slice l0.a l0.len l0.cap) (h : F71_5 R l0 ds w) :
    TrL prog f71.ntmps [c71_0, c71_1, c71_2, c71_3, c71_4, c71_5] (F71_q1 R) E ds w :=
  TrL_piece (pre := [c71_0, c71_1, c71_2]) (K := (F71_k6 R)) (X := F71_5 R l0 ds w) (setAll_cons e0 setAll_nil) (by kernel_rfl) (by kernel_rfl)
    (fun E' ds' w' hD => by
      obtain ⟨n3, e3, hD⟩ := dInt_elim hD; obtain ⟨l6, e6, hD⟩ := dSl_elim hD; obtain ⟨n7, e7, hD⟩ := dInt_elim hD; obtain ⟨n8, e8, hD⟩ := dInt_elim hD; exact F71_4_ok R n3 l6 n7 n8 ds' w' E' e3 e6 e7 e8 hD) h
theorem F71_calls (l0 : SV) (w : World) (R : Rt) (h : F71_5 R l0 [] w) : Calls prog 71 #[.slice l0.a l0.len l0.cap] w R :=
  calls_of_L (l := [c71_0, c71_1, c71_2, c71_3, c71_4, c71_5]) func71 (by kernel_rfl) (by rw [ntmps71]; exact Nat.le_of_ble_eq_true (by kernel_rfl)) c71_l
    (F71_5_ok R l0 [] w _ rfl h)
end Go.Proofs.YtecmfdfhpldmmaaGreatDoor

/- Shallow texts of functions, printed by program, each checked by the kernel against the loaded code. No condition. -/
set_option maxRecDepth 100000
set_option linter.unusedVariables false
namespace Go.Proofs.YtecmfdfhpldmmaaGreatDoor
open Go.Sh
open Tryz
@[reducible] noncomputable def cI8 (f : Func) (i : Nat) : Code := itemAt (flat (bodyOf f)) i
@[reducible] noncomputable def cJ8 (c : Code) (i : Nat) : Code := itemAt (flat (innerC c)) i
noncomputable def c66_0 := cI8 f66 0
noncomputable def c66_1 := cI8 f66 1
noncomputable def c66_2 := cI8 f66 2
noncomputable def c66_3 := cI8 f66 3
noncomputable def c66_4 := cI8 f66 4
noncomputable def c66_2_0 := cJ8 c66_2 0
noncomputable def c66_2_0_0 := cJ8 c66_2_0 0
noncomputable def c66_2_0_1 := cJ8 c66_2_0 1
noncomputable def c66_2_0_2 := cJ8 c66_2_0 2
noncomputable def c66_2_0_3 := cJ8 c66_2_0 3
def F66_q1 (R : Rt) : EQ := endQ prog f66.results.toList R
def F66_1 (R : Rt) (ds : Ds) (w : World) : Prop :=
 runD prog ds w fun w1 =>
 R (.returned (.int .i64 (-1))) w1
def F66_k2 (R : Rt) : EP := (fun E ds w => F66_1 R ds w)
def F66_q3 (R : Rt) : EQ := (thenQ (F66_k2 R) (F66_q1 R))
def F66_q4 (R : Rt) : EQ := (blockQ 0 (F66_q3 R))
def F66_q5 (R : Rt) (J1 : (Int) -> World -> Prop) : EQ := (thenQ (fun E _ w => dInt .i64 (E 8) fun n8 => J1 n8 w) (F66_q4 R))
def F66_2 (R : Rt) (J1 : (Int) -> World -> Prop) (l0 : SV) (v1 : Value) (n7 n8 : Int) (ds : Ds) (w : World) : Prop :=
 Br (decide (n8 < n7)) (
 ∃ a2 : Addr, l0.a = some a2 /\ 0 ≤ n8 /\ n8 < (l0.len : Int) /\
 ∃ s15_0 : ByteArray, w.cell? ((a2.add (n8.toNat * 4)).add 0) = some (.string s15_0) /\
 ∃ n15_1 : Int, w.cell? ((a2.add (n8.toNat * 4)).add 1) = some (.int .i64 n15_1) /\
 ∃ n15_2 : Int, w.cell? ((a2.add (n8.toNat * 4)).add 2) = some (.int .i64 n15_2) /\
 ∃ b15_3 : Bool, w.cell? ((a2.add (n8.toNat * 4)).add 3) = some (.bool b15_3) /\
 fnE v1 fun f16 first16 cap16 =>
 hasBody prog f16 = true /\ Calls prog f16 (first16.toList ++ (([.agg #[.string s15_0, .int .i64 n15_1, .int .i64 n15_2, .bool b15_3]] : List Value) ++ cap16.toList)).toArray w fun e w3 =>
 ∃ b16 : Bool, e = .returned (.bool b16) /\
 Br b16 (
 runD prog ds w3 fun w4 =>
 R (.returned (.int .i64 n8)) w4) (
 J1 (IntKind.i64.wrap (n8 + 1)) w3)) (
 F66_1 R ds w)
def F66_3 (R : Rt) (l0 : SV) (v1 : Value) (n7 n8 : Int) (ds : Ds) (w : World) : Prop :=
 loopT (fun (J1 : (Int) -> World -> Prop) (s : Int) (w : World) => F66_2 R J1 l0 v1 n7 s ds w) n8 w
abbrev F66_4 (R : Rt) (l0 : SV) (v1 : Value) (n7 n8 : Int) (ds : Ds) (w : World) : Prop := F66_3 R l0 v1 n7 n8 ds w
def F66_k6 (R : Rt) : EP := (fun E ds w => dSl (E 0) fun l0 => dInt .i64 (E 7) fun n7 => dInt .i64 (E 8) fun n8 => F66_4 R l0 (E 1) n7 n8 ds w)
def F66_5 (R : Rt) (l0 : SV) (v1 : Value) (ds : Ds) (w : World) : Prop :=
 F66_4 R l0 (v1) (l0.len : Int) 0 ds w
theorem c66_l : flat (bodyOf f66) = [c66_0, c66_1, c66_2, c66_3, c66_4] := by kernel_rfl
theorem c66_2_l : flat (innerC c66_2) = [c66_2_0] := by kernel_rfl
theorem c66_2_0_l : flat (innerC c66_2_0) = [c66_2_0_0, c66_2_0_1, c66_2_0_2, c66_2_0_3] := by kernel_rfl
theorem F66_1_ok (R : Rt) (ds : Ds) (w : World) (E : Env) (h : F66_1 R ds w) :
    TrL prog f66.ntmps [c66_3, c66_4] (F66_q1 R) E ds w :=
  TrL_leaf (X := F66_1 R ds w) setAll_nil (by kernel_rfl) (by kernel_rfl) h
theorem F66_2_ok (R : Rt) (J1 : (Int) -> World -> Prop) (l0 : SV) (v1 : Value) (n7 n8 : Int) (ds : Ds) (w : World) (E : Env) (e0 : E 0 = .slice l0.a l0.len l0.cap) (e1 : E 1 = v1) (e7 : E 7 = .int .i64 n7) (e8 : E 8 = .int .i64 n8) (h : F66_2 R J1 l0 v1 n7 n8 ds w) :
    TrL prog f66.ntmps [c66_2_0_0, c66_2_0_1, c66_2_0_2, c66_2_0_3] (F66_q5 R J1) E ds w :=
  TrL_leaf (X := F66_2 R J1 l0 v1 n7 n8 ds w) (setAll_cons e0 (setAll_cons e1 (setAll_cons e7 (setAll_cons e8 setAll_nil)))) (by kernel_rfl) (by kernel_rfl) h
theorem F66_3_ok (R : Rt) (l0 : SV) (v1 : Value) (n7 n8 : Int) (ds : Ds) (w : World) (E : Env) (e0 : E 0 = .slice l0.a l0.len l0.cap) (e1 : E 1 = v1) (e7 : E 7 = .int .i64 n7) (e8 : E 8 = .int .i64 n8) (h : F66_3 R l0 v1 n7 n8 ds w) :
    TrL prog f66.ntmps [c66_2_0] (F66_q4 R) E ds w :=
  TrL_one (Tr_loop' (c := innerC c66_2_0) (σ := Int) (enc := (fun (s : Int) (E : Env) => E 8 = .int .i64 s)) (D := (fun E K => dInt .i64 (E 8) fun n8 => K n8)) (F := (fun (J1 : (Int) -> World -> Prop) (s : Int) (w : World) => F66_2 R J1 l0 v1 n7 s ds w)) (s0 := n8) (by kernel_rfl) c66_2_0_l e8 (by kernel_rfl) (fun E K hD => by obtain ⟨n8, e8, hD⟩ := dInt_elim hD; exact ⟨n8, e8, hD⟩)
      (fun J1 s E' w' he ha hF => by
      have e8' := he
      exact F66_2_ok R J1 l0 v1 n7 s ds w' E' ((ha 0 (by kernel_rfl)).trans e0) ((ha 1 (by kernel_rfl)).trans e1) ((ha 7 (by kernel_rfl)).trans e7) e8' hF) h)
theorem F66_4_ok (R : Rt) (l0 : SV) (v1 : Value) (n7 n8 : Int) (ds : Ds) (w : World) (E : Env) (e0 : E 0 = .slice l0.a l0.len l0.cap) (e1 : E 1 = v1) (e7 : E 7 = .int .i64 n7) (e8 : E 8 = .int .i64 n8) (h : F66_4 R l0 v1 n7 n8 ds w) :
    TrL prog f66.ntmps [c66_2, c66_3, c66_4] (F66_q1 R) E ds w :=
  TrL_head (K := (F66_k2 R)) (Tr_block' (c := innerC c66_2) (by kernel_rfl) c66_2_l (F66_3_ok R l0 v1 n7 n8 ds w E e0 e1 e7 e8 h))
    (fun E' ds' w' hD => by
      exact F66_1_ok R ds' w' E'  hD)
theorem F66_5_ok (R : Rt) (l0 : SV) (v1 : Value) (ds : Ds) (w : World) (E : Env) (e0 : E 0 = .slice l0.a l0.len l0.cap) (e1 : E 1 = v1) (h : F66_5 R l0 v1 ds w) :
    TrL prog f66.ntmps [c66_0, c66_1, c66_2, c66_3, c66_4] (F66_q1 R) E ds w :=
  TrL_piece (pre := [c66_0, c66_1]) (K := (F66_k6 R)) (X := F66_5 R l0 v1 ds w) (setAll_cons e0 (setAll_cons e1 setAll_nil)) (by kernel_rfl) (by kernel_rfl)
    (fun E' ds' w' hD => by
      obtain ⟨l0, e0, hD⟩ := dSl_elim hD; obtain ⟨n7, e7, hD⟩ := dInt_elim hD; obtain ⟨n8, e8, hD⟩ := dInt_elim hD; exact F66_4_ok R l0 (E' 1) n7 n8 ds' w' E' e0 rfl e7 e8 hD) h
theorem F66_calls (l0 : SV) (v1 : Value) (w : World) (R : Rt) (h : F66_5 R l0 v1 [] w) : Calls prog 66 #[.slice l0.a l0.len l0.cap, v1] w R :=
  calls_of_L (l := [c66_0, c66_1, c66_2, c66_3, c66_4]) func66 (by kernel_rfl) (by rw [ntmps66]; exact Nat.le_of_ble_eq_true (by kernel_rfl)) c66_l
    (F66_5_ok R l0 v1 [] w _ rfl rfl h)
end Go.Proofs.YtecmfdfhpldmmaaGreatDoor

/- Shallow texts of functions, printed by program, each checked by the kernel against the loaded code. No condition. -/
set_option maxRecDepth 100000
set_option linter.unusedVariables false
namespace Go.Proofs.YtecmfdfhpldmmaaGreatDoor
open Go.Sh
open Tryz
@[reducible] noncomputable def cI9 (f : Func) (i : Nat) : Code := itemAt (flat (bodyOf f)) i
@[reducible] noncomputable def cJ9 (c : Code) (i : Nat) : Code := itemAt (flat (innerC c)) i
noncomputable def c34_0 := cI9 f34 0
noncomputable def c34_1 := cI9 f34 1
noncomputable def c34_2 := cI9 f34 2
noncomputable def c34_3 := cI9 f34 3
noncomputable def c34_4 := cI9 f34 4
noncomputable def c34_5 := cI9 f34 5
noncomputable def c34_6 := cI9 f34 6
noncomputable def c34_7 := cI9 f34 7
noncomputable def c34_8 := cI9 f34 8
noncomputable def c34_9 := cI9 f34 9
noncomputable def c34_10 := cI9 f34 10
noncomputable def c34_11 := cI9 f34 11
noncomputable def c34_9_0 := cJ9 c34_9 0
noncomputable def c34_9_0_0 := cJ9 c34_9_0 0
noncomputable def c34_9_0_1 := cJ9 c34_9_0 1
noncomputable def c34_9_0_2 := cJ9 c34_9_0 2
noncomputable def c34_9_0_3 := cJ9 c34_9_0 3
noncomputable def c34_9_0_2_0 := cJ9 c34_9_0_2 0
noncomputable def c34_9_0_2_1 := cJ9 c34_9_0_2 1
noncomputable def c34_9_0_2_2 := cJ9 c34_9_0_2 2
noncomputable def c34_9_0_2_3 := cJ9 c34_9_0_2 3
noncomputable def c34_9_0_2_4 := cJ9 c34_9_0_2 4
noncomputable def c34_9_0_2_4_0 := cJ9 c34_9_0_2_4 0
noncomputable def c34_9_0_2_4_0_0 := cJ9 c34_9_0_2_4_0 0
noncomputable def c34_9_0_2_4_0_1 := cJ9 c34_9_0_2_4_0 1
noncomputable def c34_9_0_2_4_0_2 := cJ9 c34_9_0_2_4_0 2
noncomputable def c34_9_0_2_4_0_3 := cJ9 c34_9_0_2_4_0 3
def F34_q1 (R : Rt) : EQ := endQ prog f34.results.toList R
def F34_1 (R : Rt) (ds : Ds) (w : World) : Prop :=
 runD prog ds w fun w1 =>
 R (.returned (.int .i64 0)) w1
def F34_k2 (R : Rt) : EP := (fun E ds w => F34_1 R ds w)
def F34_q3 (R : Rt) : EQ := (thenQ (F34_k2 R) (F34_q1 R))
def F34_q4 (R : Rt) : EQ := (blockQ 0 (F34_q3 R))
def F34_q5 (R : Rt) (J1 : (Int) -> World -> Prop) : EQ := (thenQ (fun E _ w => dInt .i64 (E 25) fun n25 => J1 n25 w) (F34_q4 R))
def F34_2 (R : Rt) (J1 : (Int) -> World -> Prop) (p1 : Option Addr) (l23 : SV) (n24 n25 : Int) (ds : Ds) (w : World) : Prop :=
 J1 (IntKind.i64.wrap (n25 + 1)) w
def F34_k6 (R : Rt) (J1 : (Int) -> World -> Prop) : EP := (fun E ds w => dPtr (E 1) fun p1 => dSl (E 23) fun l23 => dInt .i64 (E 24) fun n24 => dInt .i64 (E 25) fun n25 => F34_2 R J1 p1 l23 n24 n25 ds w)
def F34_q7 (R : Rt) (J1 : (Int) -> World -> Prop) : EQ := (thenQ (F34_k6 R J1) (F34_q5 R J1))
def F34_q8 (R : Rt) (J1 : (Int) -> World -> Prop) : EQ := (blockQ 1 (F34_q7 R J1))
def F34_q9 (R : Rt) (J1 : (Int) -> World -> Prop) : EQ := (blockQ 2 (F34_q8 R J1))
def F34_q10 (R : Rt) (J1 : (Int) -> World -> Prop) (J2 : (Int) -> World -> Prop) : EQ := (thenQ (fun E _ w => dInt .i64 (E 39) fun n39 => J2 n39 w) (F34_q9 R J1))
def F34_3 (R : Rt) (J1 : (Int) -> World -> Prop) (J2 : (Int) -> World -> Prop) (p1 p5 : Option Addr) (l23 : SV) (n24 n25 : Int) (l37 : SV) (n38 n39 : Int) (ds : Ds) (w : World) : Prop :=
 Br (decide (n39 < n38)) (
 ∃ a2 : Addr, l37.a = some a2 /\ 0 ≤ n39 /\ n39 < (l37.len : Int) /\
 ∃ s43_0 : ByteArray, w.cell? ((a2.add (n39.toNat * 4)).add 0) = some (.string s43_0) /\
 ∃ n43_1 : Int, w.cell? ((a2.add (n39.toNat * 4)).add 1) = some (.int .i64 n43_1) /\
 ∃ n43_2 : Int, w.cell? ((a2.add (n39.toNat * 4)).add 2) = some (.int .i64 n43_2) /\
 ∃ b43_3 : Bool, w.cell? ((a2.add (n39.toNat * 4)).add 3) = some (.bool b43_3) /\
 alE (.cells #[.string (⟨#[]⟩ : ByteArray), .int .i64 0, .int .i64 0, .bool false] 23) w fun r7 w3 =>
 stA prog 23 (⟨r7, 0, none⟩ : Addr) #[.string s43_0, .int .i64 n43_1, .int .i64 n43_2, .bool b43_3] w3 fun w4 =>
 dwE w4 fun w5 =>
 ∃ s44_0 : ByteArray, w5.cell? ((⟨r7, 0, none⟩ : Addr).add 0) = some (.string s44_0) /\
 ∃ n44_1 : Int, w5.cell? ((⟨r7, 0, none⟩ : Addr).add 1) = some (.int .i64 n44_1) /\
 ∃ n44_2 : Int, w5.cell? ((⟨r7, 0, none⟩ : Addr).add 2) = some (.int .i64 n44_2) /\
 ∃ b44_3 : Bool, w5.cell? ((⟨r7, 0, none⟩ : Addr).add 3) = some (.bool b44_3) /\
 ptrE p1 fun a6 =>
 ∃ n46 : Int, w5.cell? a6 = some (.int .i64 n46) /\
 ptrE p5 fun a7 =>
 ∃ l48 : SV, w5.cell? (a7.add 1) = some (.slice l48.a l48.len l48.cap) /\
 ∃ a8 : Addr, l48.a = some a8 /\ 0 ≤ n39 /\ n39 < (l48.len : Int) /\
 ∃ n51_0 : Int, w5.cell? ((a8.add (n39.toNat * 3)).add 0) = some (.int .i64 n51_0) /\
 ∃ n51_1 : Int, w5.cell? ((a8.add (n39.toNat * 3)).add 1) = some (.int .i64 n51_1) /\
 ∃ s51_2 : ByteArray, w5.cell? ((a8.add (n39.toNat * 3)).add 2) = some (.string s51_2) /\
 Calls prog 73 #[.agg #[.string s44_0, .int .i64 n44_1, .int .i64 n44_2, .bool b44_3], .int .i64 n46, .agg #[.int .i64 n51_0, .int .i64 n51_1, .string s51_2]] w5 fun e w9 =>
 ∃ b52 : Bool, e = .returned (.bool b52) /\
 Br (!b52) (
 runD prog ds w9 fun w10 =>
 R (.returned (.int .i64 1)) w10) (
 J2 (IntKind.i64.wrap (n39 + 1)) w9)) (
 F34_2 R J1 p1 l23 n24 n25 ds w)
def F34_4 (R : Rt) (J1 : (Int) -> World -> Prop) (p1 p5 : Option Addr) (l23 : SV) (n24 n25 : Int) (l37 : SV) (n38 n39 : Int) (ds : Ds) (w : World) : Prop :=
 loopT (fun (J2 : (Int) -> World -> Prop) (s : Int) (w : World) => F34_3 R J1 J2 p1 p5 l23 n24 n25 l37 n38 s ds w) n39 w
abbrev F34_5 (R : Rt) (J1 : (Int) -> World -> Prop) (p1 p5 : Option Addr) (l23 : SV) (n24 n25 : Int) (l37 : SV) (n38 n39 : Int) (ds : Ds) (w : World) : Prop := F34_4 R J1 p1 p5 l23 n24 n25 l37 n38 n39 ds w
def F34_k11 (R : Rt) (J1 : (Int) -> World -> Prop) : EP := (fun E ds w => dPtr (E 1) fun p1 => dPtr (E 5) fun p5 => dSl (E 23) fun l23 => dInt .i64 (E 24) fun n24 => dInt .i64 (E 25) fun n25 => dSl (E 37) fun l37 => dInt .i64 (E 38) fun n38 => dInt .i64 (E 39) fun n39 => F34_5 R J1 p1 p5 l23 n24 n25 l37 n38 n39 ds w)
def F34_6 (R : Rt) (J1 : (Int) -> World -> Prop) (p1 : Option Addr) (l23 : SV) (n24 n25 : Int) (ds : Ds) (w : World) : Prop :=
 ∃ a11 : Addr, l23.a = some a11 /\ 0 ≤ n25 /\ n25 < (l23.len : Int) /\
 ∃ b28_0 : Bool, w.cell? ((a11.add (n25.toNat * 2)).add 0) = some (.bool b28_0) /\
 ∃ l28_1 : SV, w.cell? ((a11.add (n25.toNat * 2)).add 1) = some (.slice l28_1.a l28_1.len l28_1.cap) /\
 alE (.cells #[.bool false, .slice none 0 0] 46) w fun r5 w12 =>
 stA prog 46 (⟨r5, 0, none⟩ : Addr) #[.bool b28_0, .slice l28_1.a l28_1.len l28_1.cap] w12 fun w13 =>
 ∃ l30 : SV, w13.cell? ((⟨r5, 0, none⟩ : Addr).add 1) = some (.slice l30.a l30.len l30.cap) /\
 ptrE p1 fun a14 =>
 ∃ l33 : SV, w13.cell? (a14.add 1) = some (.slice l33.a l33.len l33.cap) /\
 Br ((l30.len : Int) != (l33.len : Int)) (
 runD prog ds w13 fun w15 =>
 R (.returned (.int .i64 10)) w15) (
 ptrE p1 fun a16 =>
 ∃ l37 : SV, w13.cell? (a16.add 1) = some (.slice l37.a l37.len l37.cap) /\
 F34_5 R J1 p1 (some (⟨r5, 0, none⟩ : Addr)) l23 n24 n25 l37 (l37.len : Int) 0 ds w13)
abbrev F34_7 (R : Rt) (J1 : (Int) -> World -> Prop) (p1 : Option Addr) (l23 : SV) (n24 n25 : Int) (ds : Ds) (w : World) : Prop := F34_6 R J1 p1 l23 n24 n25 ds w
def F34_k12 (R : Rt) (J1 : (Int) -> World -> Prop) : EP := (fun E ds w => dPtr (E 1) fun p1 => dSl (E 23) fun l23 => dInt .i64 (E 24) fun n24 => dInt .i64 (E 25) fun n25 => F34_7 R J1 p1 l23 n24 n25 ds w)
def F34_8 (R : Rt) (J1 : (Int) -> World -> Prop) (p1 : Option Addr) (l23 : SV) (n24 n25 : Int) (ds : Ds) (w : World) : Prop :=
 Br (decide (n25 < n24)) (
 F34_7 R J1 p1 l23 n24 n25 ds w) (
 F34_1 R ds w)
def F34_9 (R : Rt) (p1 : Option Addr) (l23 : SV) (n24 n25 : Int) (ds : Ds) (w : World) : Prop :=
 loopT (fun (J1 : (Int) -> World -> Prop) (s : Int) (w : World) => F34_8 R J1 p1 l23 n24 s ds w) n25 w
abbrev F34_10 (R : Rt) (p1 : Option Addr) (l23 : SV) (n24 n25 : Int) (ds : Ds) (w : World) : Prop := F34_9 R p1 l23 n24 n25 ds w
def F34_k13 (R : Rt) : EP := (fun E ds w => dPtr (E 1) fun p1 => dSl (E 23) fun l23 => dInt .i64 (E 24) fun n24 => dInt .i64 (E 25) fun n25 => F34_10 R p1 l23 n24 n25 ds w)
def F34_11 (R : Rt) (n0_0 : Int) (l0_1 l0_2 : SV) (ds : Ds) (w : World) : Prop :=
 alE (.cells #[.int .i64 n0_0, .slice l0_1.a l0_1.len l0_1.cap, .slice l0_2.a l0_2.len l0_2.cap] 35) w fun r1 w17 =>
 ∃ n9 : Int, w17.cell? (⟨r1, 0, none⟩ : Addr) = some (.int .i64 n9) /\
 Calls prog 48 #[.int .i64 n9] w17 fun e w18 =>
 ∃ b10 : Bool, e = .returned (.bool b10) /\
 Br (!b10) (
 runD prog ds w18 fun w19 =>
 R (.returned (.int .i64 1)) w19) (
 ∃ l13 : SV, w18.cell? ((⟨r1, 0, none⟩ : Addr).add 1) = some (.slice l13.a l13.len l13.cap) /\
 Calls prog 36 #[.slice l13.a l13.len l13.cap] w18 fun e w20 =>
 ∃ n14 : Int, e = .returned (.int .i64 n14) /\
 Br (n14 != 0) (
 runD prog ds w20 fun w21 =>
 R (.returned (.int .i64 n14)) w21) (
 ∃ l19 : SV, w20.cell? ((⟨r1, 0, none⟩ : Addr).add 2) = some (.slice l19.a l19.len l19.cap) /\
 Br (decide ((l19.len : Int) > 300)) (
 runD prog ds w20 fun w22 =>
 R (.returned (.int .i64 3)) w22) (
 ∃ l23 : SV, w20.cell? ((⟨r1, 0, none⟩ : Addr).add 2) = some (.slice l23.a l23.len l23.cap) /\
 F34_10 R (some (⟨r1, 0, none⟩ : Addr)) l23 (l23.len : Int) 0 ds w20)))
theorem c34_l : flat (bodyOf f34) = [c34_0, c34_1, c34_2, c34_3, c34_4, c34_5, c34_6, c34_7, c34_8, c34_9, c34_10, c34_11] := by kernel_rfl
theorem c34_9_l : flat (innerC c34_9) = [c34_9_0] := by kernel_rfl
theorem c34_9_0_l : flat (innerC c34_9_0) = [c34_9_0_0, c34_9_0_1, c34_9_0_2, c34_9_0_3] := by kernel_rfl
theorem c34_9_0_2_l : flat (innerC c34_9_0_2) = [c34_9_0_2_0, c34_9_0_2_1, c34_9_0_2_2, c34_9_0_2_3, c34_9_0_2_4] := by kernel_rfl
theorem c34_9_0_2_4_l : flat (innerC c34_9_0_2_4) = [c34_9_0_2_4_0] := by kernel_rfl
theorem c34_9_0_2_4_0_l : flat (innerC c34_9_0_2_4_0) = [c34_9_0_2_4_0_0, c34_9_0_2_4_0_1, c34_9_0_2_4_0_2, c34_9_0_2_4_0_3] := by kernel_rfl
theorem F34_1_ok (R : Rt) (ds : Ds) (w : World) (E : Env) (h : F34_1 R ds w) :
    TrL prog f34.ntmps [c34_10, c34_11] (F34_q1 R) E ds w :=
  TrL_leaf (X := F34_1 R ds w) setAll_nil (by kernel_rfl) (by kernel_rfl) h
theorem F34_2_ok (R : Rt) (J1 : (Int) -> World -> Prop) (p1 : Option Addr) (l23 : SV) (n24 n25 : Int) (ds : Ds) (w : World) (E : Env) (e1 : E 1 = .pointer p1) (e23 : E 23 = .slice l23.a l23.len l23.cap) (e24 : E 24 = .int .i64 n24) (e25 : E 25 = .int .i64 n25) (h : F34_2 R J1 p1 l23 n24 n25 ds w) :
    TrL prog f34.ntmps [c34_9_0_3] (F34_q5 R J1) E ds w :=
  TrL_leaf (X := F34_2 R J1 p1 l23 n24 n25 ds w) (setAll_cons e1 (setAll_cons e23 (setAll_cons e24 (setAll_cons e25 setAll_nil)))) (by kernel_rfl) (by kernel_rfl) h
theorem F34_3_ok (R : Rt) (J1 : (Int) -> World -> Prop) (J2 : (Int) -> World -> Prop) (p1 p5 : Option Addr) (l23 : SV) (n24 n25 : Int) (l37 : SV) (n38 n39 : Int) (ds : Ds) (w : World) (E : Env) (e1 : E 1 = .pointer p1) (e5 : E 5 = .pointer p5) (e23 : E 23 = .slice l23.a l23.len l23.cap) (e24 : E 24 = .int .i64 n24) (e25 : E 25 = .int .i64 n25) (e37 : E 37 = .slice l37.a l37.len l37.cap) (e38 : E 38 = .int .i64 n38) (e39 : E 39 = .int .i64 n39) (h : F34_3 R J1 J2 p1 p5 l23 n24 n25 l37 n38 n39 ds w) :
    TrL prog f34.ntmps [c34_9_0_2_4_0_0, c34_9_0_2_4_0_1, c34_9_0_2_4_0_2, c34_9_0_2_4_0_3] (F34_q10 R J1 J2) E ds w :=
  TrL_leaf (X := F34_3 R J1 J2 p1 p5 l23 n24 n25 l37 n38 n39 ds w) (setAll_cons e1 (setAll_cons e5 (setAll_cons e23 (setAll_cons e24 (setAll_cons e25 (setAll_cons e37 (setAll_cons e38 (setAll_cons e39 setAll_nil)))))))) (by kernel_rfl) (by kernel_rfl) h
theorem F34_4_ok (R : Rt) (J1 : (Int) -> World -> Prop) (p1 p5 : Option Addr) (l23 : SV) (n24 n25 : Int) (l37 : SV) (n38 n39 : Int) (ds : Ds) (w : World) (E : Env) (e1 : E 1 = .pointer p1) (e5 : E 5 = .pointer p5) (e23 : E 23 = .slice l23.a l23.len l23.cap) (e24 : E 24 = .int .i64 n24) (e25 : E 25 = .int .i64 n25) (e37 : E 37 = .slice l37.a l37.len l37.cap) (e38 : E 38 = .int .i64 n38) (e39 : E 39 = .int .i64 n39) (h : F34_4 R J1 p1 p5 l23 n24 n25 l37 n38 n39 ds w) :
    TrL prog f34.ntmps [c34_9_0_2_4_0] (F34_q9 R J1) E ds w :=
  TrL_one (Tr_loop' (c := innerC c34_9_0_2_4_0) (σ := Int) (enc := (fun (s : Int) (E : Env) => E 39 = .int .i64 s)) (D := (fun E K => dInt .i64 (E 39) fun n39 => K n39)) (F := (fun (J2 : (Int) -> World -> Prop) (s : Int) (w : World) => F34_3 R J1 J2 p1 p5 l23 n24 n25 l37 n38 s ds w)) (s0 := n39) (by kernel_rfl) c34_9_0_2_4_0_l e39 (by kernel_rfl) (fun E K hD => by obtain ⟨n39, e39, hD⟩ := dInt_elim hD; exact ⟨n39, e39, hD⟩)
      (fun J2 s E' w' he ha hF => by
      have e39' := he
      exact F34_3_ok R J1 J2 p1 p5 l23 n24 n25 l37 n38 s ds w' E' ((ha 1 (by kernel_rfl)).trans e1) ((ha 5 (by kernel_rfl)).trans e5) ((ha 23 (by kernel_rfl)).trans e23) ((ha 24 (by kernel_rfl)).trans e24) ((ha 25 (by kernel_rfl)).trans e25) ((ha 37 (by kernel_rfl)).trans e37) ((ha 38 (by kernel_rfl)).trans e38) e39' hF) h)
theorem F34_5_ok (R : Rt) (J1 : (Int) -> World -> Prop) (p1 p5 : Option Addr) (l23 : SV) (n24 n25 : Int) (l37 : SV) (n38 n39 : Int) (ds : Ds) (w : World) (E : Env) (e1 : E 1 = .pointer p1) (e5 : E 5 = .pointer p5) (e23 : E 23 = .slice l23.a l23.len l23.cap) (e24 : E 24 = .int .i64 n24) (e25 : E 25 = .int .i64 n25) (e37 : E 37 = .slice l37.a l37.len l37.cap) (e38 : E 38 = .int .i64 n38) (e39 : E 39 = .int .i64 n39) (h : F34_5 R J1 p1 p5 l23 n24 n25 l37 n38 n39 ds w) :
    TrL prog f34.ntmps [c34_9_0_2_4] (F34_q8 R J1) E ds w :=
  TrL_one (Tr_block' (c := innerC c34_9_0_2_4) (by kernel_rfl) c34_9_0_2_4_l (F34_4_ok R J1 p1 p5 l23 n24 n25 l37 n38 n39 ds w E e1 e5 e23 e24 e25 e37 e38 e39 h))
theorem F34_6_ok (R : Rt) (J1 : (Int) -> World -> Prop) (p1 : Option Addr) (l23 : SV) (n24 n25 : Int) (ds : Ds) (w : World) (E : Env) (e1 : E 1 = .pointer p1) (e23 : E 23 = .slice l23.a l23.len l23.cap) (e24 : E 24 = .int .i64 n24) (e25 : E 25 = .int .i64 n25) (h : F34_6 R J1 p1 l23 n24 n25 ds w) :
    TrL prog f34.ntmps [c34_9_0_2_0, c34_9_0_2_1, c34_9_0_2_2, c34_9_0_2_3, c34_9_0_2_4] (F34_q8 R J1) E ds w :=
  TrL_piece (pre := [c34_9_0_2_0, c34_9_0_2_1, c34_9_0_2_2, c34_9_0_2_3]) (K := (F34_k11 R J1)) (X := F34_6 R J1 p1 l23 n24 n25 ds w) (setAll_cons e1 (setAll_cons e23 (setAll_cons e24 (setAll_cons e25 setAll_nil)))) (by kernel_rfl) (by kernel_rfl)
    (fun E' ds' w' hD => by
      obtain ⟨p1, e1, hD⟩ := dPtr_elim hD; obtain ⟨p5, e5, hD⟩ := dPtr_elim hD; obtain ⟨l23, e23, hD⟩ := dSl_elim hD; obtain ⟨n24, e24, hD⟩ := dInt_elim hD; obtain ⟨n25, e25, hD⟩ := dInt_elim hD; obtain ⟨l37, e37, hD⟩ := dSl_elim hD; obtain ⟨n38, e38, hD⟩ := dInt_elim hD; obtain ⟨n39, e39, hD⟩ := dInt_elim hD; exact F34_5_ok R J1 p1 p5 l23 n24 n25 l37 n38 n39 ds' w' E' e1 e5 e23 e24 e25 e37 e38 e39 hD) h
theorem F34_7_ok (R : Rt) (J1 : (Int) -> World -> Prop) (p1 : Option Addr) (l23 : SV) (n24 n25 : Int) (ds : Ds) (w : World) (E : Env) (e1 : E 1 = .pointer p1) (e23 : E 23 = .slice l23.a l23.len l23.cap) (e24 : E 24 = .int .i64 n24) (e25 : E 25 = .int .i64 n25) (h : F34_7 R J1 p1 l23 n24 n25 ds w) :
    TrL prog f34.ntmps [c34_9_0_2, c34_9_0_3] (F34_q5 R J1) E ds w :=
  TrL_head (K := (F34_k6 R J1)) (Tr_block' (c := innerC c34_9_0_2) (by kernel_rfl) c34_9_0_2_l (F34_6_ok R J1 p1 l23 n24 n25 ds w E e1 e23 e24 e25 h))
    (fun E' ds' w' hD => by
      obtain ⟨p1, e1, hD⟩ := dPtr_elim hD; obtain ⟨l23, e23, hD⟩ := dSl_elim hD; obtain ⟨n24, e24, hD⟩ := dInt_elim hD; obtain ⟨n25, e25, hD⟩ := dInt_elim hD; exact F34_2_ok R J1 p1 l23 n24 n25 ds' w' E' e1 e23 e24 e25 hD)
theorem F34_8_ok (R : Rt) (J1 : (Int) -> World -> Prop) (p1 : Option Addr) (l23 : SV) (n24 n25 : Int) (ds : Ds) (w : World) (E : Env) (e1 : E 1 = .pointer p1) (e23 : E 23 = .slice l23.a l23.len l23.cap) (e24 : E 24 = .int .i64 n24) (e25 : E 25 = .int .i64 n25) (h : F34_8 R J1 p1 l23 n24 n25 ds w) :
    TrL prog f34.ntmps [c34_9_0_0, c34_9_0_1, c34_9_0_2, c34_9_0_3] (F34_q5 R J1) E ds w :=
  TrL_piece (pre := [c34_9_0_0, c34_9_0_1]) (K := (F34_k12 R J1)) (X := F34_8 R J1 p1 l23 n24 n25 ds w) (setAll_cons e1 (setAll_cons e23 (setAll_cons e24 (setAll_cons e25 setAll_nil)))) (by kernel_rfl) (by kernel_rfl)
    (fun E' ds' w' hD => by
      obtain ⟨p1, e1, hD⟩ := dPtr_elim hD; obtain ⟨l23, e23, hD⟩ := dSl_elim hD; obtain ⟨n24, e24, hD⟩ := dInt_elim hD; obtain ⟨n25, e25, hD⟩ := dInt_elim hD; exact F34_7_ok R J1 p1 l23 n24 n25 ds' w' E' e1 e23 e24 e25 hD) h
theorem F34_9_ok (R : Rt) (p1 : Option Addr) (l23 : SV) (n24 n25 : Int) (ds : Ds) (w : World) (E : Env) (e1 : E 1 = .pointer p1) (e23 : E 23 = .slice l23.a l23.len l23.cap) (e24 : E 24 = .int .i64 n24) (e25 : E 25 = .int .i64 n25) (h : F34_9 R p1 l23 n24 n25 ds w) :
    TrL prog f34.ntmps [c34_9_0] (F34_q4 R) E ds w :=
  TrL_one (Tr_loop' (c := innerC c34_9_0) (σ := Int) (enc := (fun (s : Int) (E : Env) => E 25 = .int .i64 s)) (D := (fun E K => dInt .i64 (E 25) fun n25 => K n25)) (F := (fun (J1 : (Int) -> World -> Prop) (s : Int) (w : World) => F34_8 R J1 p1 l23 n24 s ds w)) (s0 := n25) (by kernel_rfl) c34_9_0_l e25 (by kernel_rfl) (fun E K hD => by obtain ⟨n25, e25, hD⟩ := dInt_elim hD; exact ⟨n25, e25, hD⟩)
      (fun J1 s E' w' he ha hF => by
      have e25' := he
      exact F34_8_ok R J1 p1 l23 n24 s ds w' E' ((ha 1 (by kernel_rfl)).trans e1) ((ha 23 (by kernel_rfl)).trans e23) ((ha 24 (by kernel_rfl)).trans e24) e25' hF) h)
theorem F34_10_ok (R : Rt) (p1 : Option Addr) (l23 : SV) (n24 n25 : Int) (ds : Ds) (w : World) (E : Env) (e1 : E 1 = .pointer p1) (e23 : E 23 = .slice l23.a l23.len l23.cap) (e24 : E 24 = .int .i64 n24) (e25 : E 25 = .int .i64 n25) (h : F34_10 R p1 l23 n24 n25 ds w) :
    TrL prog f34.ntmps [c34_9, c34_10, c34_11] (F34_q1 R) E ds w :=
  TrL_head (K := (F34_k2 R)) (Tr_block' (c := innerC c34_9) (by kernel_rfl) c34_9_l (F34_9_ok R p1 l23 n24 n25 ds w E e1 e23 e24 e25 h))
    (fun E' ds' w' hD => by
      exact F34_1_ok R ds' w' E'  hD)
theorem F34_11_ok (R : Rt) (n0_0 : Int) (l0_1 l0_2 : SV) (ds : Ds) (w : World) (E : Env) (e0 : E 0 = .agg #[.int .i64 n0_0, .slice l0_1.a l0_1.len l0_1.cap, .slice l0_2.a l0_2.len l0_2.cap]) (h : F34_11 R n0_0 l0_1 l0_2 ds w) :
    TrL prog f34.ntmps [c34_0, c34_1, c34_2, c34_3, c34_4, c34_5, c34_6, c34_7, c34_8, c34_9, c34_10, c34_11] (F34_q1 R) E ds w :=
  TrL_piece (pre := [c34_0, c34_1, c34_2, c34_3, c34_4, c34_5, c34_6, c34_7, c34_8]) (K := (F34_k13 R)) (X := F34_11 R n0_0 l0_1 l0_2 ds w) (setAll_cons e0 setAll_nil) (by kernel_rfl) (by kernel_rfl)
    (fun E' ds' w' hD => by
      obtain ⟨p1, e1, hD⟩ := dPtr_elim hD; obtain ⟨l23, e23, hD⟩ := dSl_elim hD; obtain ⟨n24, e24, hD⟩ := dInt_elim hD; obtain ⟨n25, e25, hD⟩ := dInt_elim hD; exact F34_10_ok R p1 l23 n24 n25 ds' w' E' e1 e23 e24 e25 hD) h
theorem F34_calls (n0_0 : Int) (l0_1 l0_2 : SV) (w : World) (R : Rt) (h : F34_11 R n0_0 l0_1 l0_2 [] w) : Calls prog 34 #[.agg #[.int .i64 n0_0, .slice l0_1.a l0_1.len l0_1.cap, .slice l0_2.a l0_2.len l0_2.cap]] w R :=
  calls_of_L (l := [c34_0, c34_1, c34_2, c34_3, c34_4, c34_5, c34_6, c34_7, c34_8, c34_9, c34_10, c34_11]) func34 (by kernel_rfl) (by rw [ntmps34]; exact Nat.le_of_ble_eq_true (by kernel_rfl)) c34_l
    (F34_11_ok R n0_0 l0_1 l0_2 [] w _ rfl h)
noncomputable def c73_0 := cI9 f73 0
noncomputable def c73_1 := cI9 f73 1
noncomputable def c73_2 := cI9 f73 2
noncomputable def c73_3 := cI9 f73 3
noncomputable def c73_4 := cI9 f73 4
noncomputable def c73_5 := cI9 f73 5
noncomputable def c73_6 := cI9 f73 6
noncomputable def c73_7 := cI9 f73 7
def F73_q1 (R : Rt) : EQ := endQ prog f73.results.toList R
def F73_1 (R : Rt) (s0_0 : ByteArray) (n0_1 n0_2 : Int) (b0_3 : Bool) (n1 n2_0 n2_1 : Int) (s2_2 : ByteArray) (ds : Ds) (w : World) : Prop :=
 alE (.cells #[.string s0_0, .int .i64 n0_1, .int .i64 n0_2, .bool b0_3] 23) w fun r3 w1 =>
 alE (.cells #[.int .i64 n2_0, .int .i64 n2_1, .string s2_2] 25) w1 fun r5 w2 =>
 ∃ n10 : Int, w2.cell? (⟨r5, 0, none⟩ : Addr) = some (.int .i64 n10) /\
 Br (n10 == 0) (
 ∃ b13 : Bool, w2.cell? ((⟨r3, 0, none⟩ : Addr).add 3) = some (.bool b13) /\
 Br b13 (
 ∃ n15_0 : Int, w2.cell? ((⟨r5, 0, none⟩ : Addr).add 0) = some (.int .i64 n15_0) /\
 ∃ n15_1 : Int, w2.cell? ((⟨r5, 0, none⟩ : Addr).add 1) = some (.int .i64 n15_1) /\
 ∃ s15_2 : ByteArray, w2.cell? ((⟨r5, 0, none⟩ : Addr).add 2) = some (.string s15_2) /\
 ∃ b17 : Bool, ∃ w3 : World, (eqS .eql 25 (.tmp 15) (.tmp 16) (.agg #[.int .i64 n15_0, .int .i64 n15_1, .string s15_2]) (.agg #[.int .i64 0, .int .i64 0, .string (⟨#[]⟩ : ByteArray)])).run prog w2 = .ok (.bool b17) w3 /\
 runD prog ds w3 fun w4 =>
 R (.returned (.bool b17)) w4) (
 runD prog ds w2 fun w5 =>
 R (.returned (.bool false)) w5)) (
 ∃ n19_0 : Int, w2.cell? ((⟨r5, 0, none⟩ : Addr).add 0) = some (.int .i64 n19_0) /\
 ∃ n19_1 : Int, w2.cell? ((⟨r5, 0, none⟩ : Addr).add 1) = some (.int .i64 n19_1) /\
 ∃ s19_2 : ByteArray, w2.cell? ((⟨r5, 0, none⟩ : Addr).add 2) = some (.string s19_2) /\
 Calls prog 49 #[.agg #[.int .i64 n19_0, .int .i64 n19_1, .string s19_2]] w2 fun e w6 =>
 ∃ n20 : Int, e = .returned (.int .i64 n20) /\
 Br (n20 != 0) (
 runD prog ds w6 fun w7 =>
 R (.returned (.bool false)) w7) (
 ∃ s23_0 : ByteArray, w6.cell? ((⟨r3, 0, none⟩ : Addr).add 0) = some (.string s23_0) /\
 ∃ n23_1 : Int, w6.cell? ((⟨r3, 0, none⟩ : Addr).add 1) = some (.int .i64 n23_1) /\
 ∃ n23_2 : Int, w6.cell? ((⟨r3, 0, none⟩ : Addr).add 2) = some (.int .i64 n23_2) /\
 ∃ b23_3 : Bool, w6.cell? ((⟨r3, 0, none⟩ : Addr).add 3) = some (.bool b23_3) /\
 ∃ n25_0 : Int, w6.cell? ((⟨r5, 0, none⟩ : Addr).add 0) = some (.int .i64 n25_0) /\
 ∃ n25_1 : Int, w6.cell? ((⟨r5, 0, none⟩ : Addr).add 1) = some (.int .i64 n25_1) /\
 ∃ s25_2 : ByteArray, w6.cell? ((⟨r5, 0, none⟩ : Addr).add 2) = some (.string s25_2) /\
 Calls prog 13 #[.agg #[.string s23_0, .int .i64 n23_1, .int .i64 n23_2, .bool b23_3], .int .i64 n1, .agg #[.int .i64 n25_0, .int .i64 n25_1, .string s25_2]] w6 fun e w8 =>
 ∃ n26_0_0 : Int, ∃ n26_0_1 : Int, ∃ s26_0_2 : ByteArray, ∃ n26_1 : Int, e = .returned (.tuple #[.agg #[.int .i64 n26_0_0, .int .i64 n26_0_1, .string s26_0_2], .int .i64 n26_1]) /\
 alE (.cells #[.int .i64 0, .int .i64 0, .string (⟨#[]⟩ : ByteArray)] 25) w8 fun r7 w9 =>
 stA prog 25 (⟨r7, 0, none⟩ : Addr) #[.int .i64 n26_0_0, .int .i64 n26_0_1, .string s26_0_2] w9 fun w10 =>
 Br (n26_1 == 0) (
 ∃ n32_0 : Int, w10.cell? ((⟨r7, 0, none⟩ : Addr).add 0) = some (.int .i64 n32_0) /\
 ∃ n32_1 : Int, w10.cell? ((⟨r7, 0, none⟩ : Addr).add 1) = some (.int .i64 n32_1) /\
 ∃ s32_2 : ByteArray, w10.cell? ((⟨r7, 0, none⟩ : Addr).add 2) = some (.string s32_2) /\
 ∃ n33_0 : Int, w10.cell? ((⟨r5, 0, none⟩ : Addr).add 0) = some (.int .i64 n33_0) /\
 ∃ n33_1 : Int, w10.cell? ((⟨r5, 0, none⟩ : Addr).add 1) = some (.int .i64 n33_1) /\
 ∃ s33_2 : ByteArray, w10.cell? ((⟨r5, 0, none⟩ : Addr).add 2) = some (.string s33_2) /\
 ∃ b34 : Bool, ∃ w11 : World, (eqS .eql 25 (.tmp 32) (.tmp 33) (.agg #[.int .i64 n32_0, .int .i64 n32_1, .string s32_2]) (.agg #[.int .i64 n33_0, .int .i64 n33_1, .string s33_2])).run prog w10 = .ok (.bool b34) w11 /\
 runD prog ds w11 fun w12 =>
 R (.returned (.bool b34)) w12) (
 runD prog ds w10 fun w13 =>
 R (.returned (.bool false)) w13)))
theorem c73_l : flat (bodyOf f73) = [c73_0, c73_1, c73_2, c73_3, c73_4, c73_5, c73_6, c73_7] := by kernel_rfl
theorem F73_1_ok (R : Rt) (s0_0 : ByteArray) (n0_1 n0_2 : Int) (b0_3 : Bool) (n1 n2_0 n2_1 : Int) (s2_2 : ByteArray) (ds : Ds) (w : World) (E : Env) (e0 : E 0 = .agg #[.string s0_0, .int .i64 n0_1, .int .i64 n0_2, .bool b0_3]) (e1 : E 1 = .int .i64 n1) (e2 : E 2 = .agg #[.int .i64 n2_0, .int .i64 n2_1, .string s2_2]) (h : F73_1 R s0_0 n0_1 n0_2 b0_3 n1 n2_0 n2_1 s2_2 ds w) :
    TrL prog f73.ntmps [c73_0, c73_1, c73_2, c73_3, c73_4, c73_5, c73_6, c73_7] (F73_q1 R) E ds w :=
  TrL_leaf (X := F73_1 R s0_0 n0_1 n0_2 b0_3 n1 n2_0 n2_1 s2_2 ds w) (setAll_cons e0 (setAll_cons e1 (setAll_cons e2 setAll_nil))) (by kernel_rfl) (by kernel_rfl) h
theorem F73_calls (s0_0 : ByteArray) (n0_1 n0_2 : Int) (b0_3 : Bool) (n1 n2_0 n2_1 : Int) (s2_2 : ByteArray) (w : World) (R : Rt) (h : F73_1 R s0_0 n0_1 n0_2 b0_3 n1 n2_0 n2_1 s2_2 [] w) : Calls prog 73 #[.agg #[.string s0_0, .int .i64 n0_1, .int .i64 n0_2, .bool b0_3], .int .i64 n1, .agg #[.int .i64 n2_0, .int .i64 n2_1, .string s2_2]] w R :=
  calls_of_L (l := [c73_0, c73_1, c73_2, c73_3, c73_4, c73_5, c73_6, c73_7]) func73 (by kernel_rfl) (by rw [ntmps73]; exact Nat.le_of_ble_eq_true (by kernel_rfl)) c73_l
    (F73_1_ok R s0_0 n0_1 n0_2 b0_3 n1 n2_0 n2_1 s2_2 [] w _ rfl rfl rfl h)
end Go.Proofs.YtecmfdfhpldmmaaGreatDoor

/- Shallow texts of functions, printed by program, each checked by the kernel against the loaded code. No condition. -/
set_option maxRecDepth 100000
set_option linter.unusedVariables false
namespace Go.Proofs.YtecmfdfhpldmmaaGreatDoor
open Go.Sh
open Tryz
@[reducible] noncomputable def cI10 (f : Func) (i : Nat) : Code := itemAt (flat (bodyOf f)) i
@[reducible] noncomputable def cJ10 (c : Code) (i : Nat) : Code := itemAt (flat (innerC c)) i
noncomputable def c19_0 := cI10 f19 0
noncomputable def c19_1 := cI10 f19 1
noncomputable def c19_2 := cI10 f19 2
noncomputable def c19_3 := cI10 f19 3
noncomputable def c19_4 := cI10 f19 4
noncomputable def c19_5 := cI10 f19 5
def F19_q1 (R : Rt) : EQ := endQ prog f19.results.toList R
def F19_1 (R : Rt) (n0_0 : Int) (l0_1 l0_2 : SV) (ds : Ds) (w : World) : Prop :=
 alE (.cells #[.int .i64 n0_0, .slice l0_1.a l0_1.len l0_1.cap, .slice l0_2.a l0_2.len l0_2.cap] 35) w fun r1 w1 =>
 ∃ n5_0 : Int, w1.cell? ((⟨r1, 0, none⟩ : Addr).add 0) = some (.int .i64 n5_0) /\
 ∃ l5_1 : SV, w1.cell? ((⟨r1, 0, none⟩ : Addr).add 1) = some (.slice l5_1.a l5_1.len l5_1.cap) /\
 ∃ l5_2 : SV, w1.cell? ((⟨r1, 0, none⟩ : Addr).add 2) = some (.slice l5_2.a l5_2.len l5_2.cap) /\
 Calls prog 34 #[.agg #[.int .i64 n5_0, .slice l5_1.a l5_1.len l5_1.cap, .slice l5_2.a l5_2.len l5_2.cap]] w1 fun e w2 =>
 ∃ n6 : Int, e = .returned (.int .i64 n6) /\
 Br (n6 != 0) (
 runD prog ds w2 fun w3 =>
 R (.returned (.tuple #[.slice none 0 0, .int .i64 n6])) w3) (
 ∃ n10_0 : Int, w2.cell? ((⟨r1, 0, none⟩ : Addr).add 0) = some (.int .i64 n10_0) /\
 ∃ l10_1 : SV, w2.cell? ((⟨r1, 0, none⟩ : Addr).add 1) = some (.slice l10_1.a l10_1.len l10_1.cap) /\
 ∃ l10_2 : SV, w2.cell? ((⟨r1, 0, none⟩ : Addr).add 2) = some (.slice l10_2.a l10_2.len l10_2.cap) /\
 Calls prog 62 #[.agg #[.int .i64 n10_0, .slice l10_1.a l10_1.len l10_1.cap, .slice l10_2.a l10_2.len l10_2.cap]] w2 fun e w4 =>
 ∃ l11 : SV, e = .returned (.slice l11.a l11.len l11.cap) /\
 runD prog ds w4 fun w5 =>
 R (.returned (.tuple #[.slice l11.a l11.len l11.cap, .int .i64 0])) w5)
theorem c19_l : flat (bodyOf f19) = [c19_0, c19_1, c19_2, c19_3, c19_4, c19_5] := by kernel_rfl
theorem F19_1_ok (R : Rt) (n0_0 : Int) (l0_1 l0_2 : SV) (ds : Ds) (w : World) (E : Env) (e0 : E 0 = .agg #[.int .i64 n0_0, .slice l0_1.a l0_1.len l0_1.cap, .slice l0_2.a l0_2.len l0_2.cap]) (h : F19_1 R n0_0 l0_1 l0_2 ds w) :
    TrL prog f19.ntmps [c19_0, c19_1, c19_2, c19_3, c19_4, c19_5] (F19_q1 R) E ds w :=
  TrL_leaf (X := F19_1 R n0_0 l0_1 l0_2 ds w) (setAll_cons e0 setAll_nil) (by kernel_rfl) (by kernel_rfl) h
theorem F19_calls (n0_0 : Int) (l0_1 l0_2 : SV) (w : World) (R : Rt) (h : F19_1 R n0_0 l0_1 l0_2 [] w) : Calls prog 19 #[.agg #[.int .i64 n0_0, .slice l0_1.a l0_1.len l0_1.cap, .slice l0_2.a l0_2.len l0_2.cap]] w R :=
  calls_of_L (l := [c19_0, c19_1, c19_2, c19_3, c19_4, c19_5]) func19 (by kernel_rfl) (by rw [ntmps19]; exact Nat.le_of_ble_eq_true (by kernel_rfl)) c19_l
    (F19_1_ok R n0_0 l0_1 l0_2 [] w _ rfl h)
noncomputable def c62_0 := cI10 f62 0
noncomputable def c62_1 := cI10 f62 1
noncomputable def c62_2 := cI10 f62 2
noncomputable def c62_3 := cI10 f62 3
noncomputable def c62_4 := cI10 f62 4
noncomputable def c62_5 := cI10 f62 5
noncomputable def c62_6 := cI10 f62 6
noncomputable def c62_7 := cI10 f62 7
noncomputable def c62_8 := cI10 f62 8
noncomputable def c62_6_0 := cJ10 c62_6 0
noncomputable def c62_6_0_0 := cJ10 c62_6_0 0
noncomputable def c62_6_0_1 := cJ10 c62_6_0 1
noncomputable def c62_6_0_2 := cJ10 c62_6_0 2
noncomputable def c62_6_0_3 := cJ10 c62_6_0 3
def F62_q1 (R : Rt) : EQ := endQ prog f62.results.toList R
def F62_1 (R : Rt) (l3 : SV) (ds : Ds) (w : World) : Prop :=
 alE (.cells #[.int .u8 13] 5) w fun r65 w1 =>
 ∃ l66 : SV, ∃ w2 : World, (Builtin.append_ #[37, 37] 37 #[.slice l3.a l3.len l3.cap, .slice (some ⟨r65, 0, none⟩) 1 1]).run prog w1 = .ok (.slice l66.a l66.len l66.cap) w2 /\
 runD prog ds w2 fun w3 =>
 R (.returned (.slice l66.a l66.len l66.cap)) w3
def F62_k2 (R : Rt) : EP := (fun E ds w => dSl (E 3) fun l3 => F62_1 R l3 ds w)
def F62_q3 (R : Rt) : EQ := (thenQ (F62_k2 R) (F62_q1 R))
def F62_q4 (R : Rt) : EQ := (blockQ 0 (F62_q3 R))
def F62_q5 (R : Rt) (J1 : (SV × Int) -> World -> Prop) : EQ := (thenQ (fun E _ w => dSl (E 3) fun l3 => dInt .i64 (E 39) fun n39 => J1 (l3, n39) w) (F62_q4 R))
def F62_2 (R : Rt) (J1 : (SV × Int) -> World -> Prop) (l3 l37 : SV) (n38 n39 : Int) (ds : Ds) (w : World) : Prop :=
 Br (decide (n39 < n38)) (
 ∃ a4 : Addr, l37.a = some a4 /\ 0 ≤ n39 /\ n39 < (l37.len : Int) /\
 ∃ s42_0 : ByteArray, w.cell? ((a4.add (n39.toNat * 4)).add 0) = some (.string s42_0) /\
 ∃ n42_1 : Int, w.cell? ((a4.add (n39.toNat * 4)).add 1) = some (.int .i64 n42_1) /\
 ∃ n42_2 : Int, w.cell? ((a4.add (n39.toNat * 4)).add 2) = some (.int .i64 n42_2) /\
 ∃ b42_3 : Bool, w.cell? ((a4.add (n39.toNat * 4)).add 3) = some (.bool b42_3) /\
 alE (.cells #[.string (⟨#[]⟩ : ByteArray), .int .i64 0, .int .i64 0, .bool false] 23) w fun r5 w5 =>
 stA prog 23 (⟨r5, 0, none⟩ : Addr) #[.string s42_0, .int .i64 n42_1, .int .i64 n42_2, .bool b42_3] w5 fun w6 =>
 alE (.cells #[.int .u8 0, .int .u8 0, .int .u8 0, .int .u8 0, .int .u8 0, .int .u8 0, .int .u8 0, .int .u8 0, .int .u8 0, .int .u8 0, .int .u8 0, .int .u8 0, .int .u8 0, .int .u8 0, .int .u8 0, .int .u8 0] 123) w6 fun r6 w7 =>
 dwE w7 fun w8 =>
 ∃ S1 : World -> Prop, S1 w8 /\
 ∃ s45 : ByteArray, (∀ w', S1 w' -> w'.cell? (⟨r5, 0, none⟩ : Addr) = some (.string s45)) /\
 ∃ l43 : SV, ∃ w9 : World, (Instr.sliceAt 123 (.pointer (some (⟨r6, 0, none⟩ : Addr))) none (some (.int .i64 10)) (some (.int .i64 10))).run prog w8 = .ok (.slice l43.a l43.len l43.cap) w9 /\
 S1 w9 /\
 ∃ n46 : Int, ∃ w10 : World, (Builtin.copy_ #[37, 9] 3 #[.slice l43.a l43.len l43.cap, .string s45]).run prog w9 = .ok (.int .i64 n46) w10 /\
 dwE w10 fun w11 =>
 ∃ S2 : World -> Prop, S2 w11 /\
 ∃ n49 : Int, (∀ w', S2 w' -> w'.cell? ((⟨r5, 0, none⟩ : Addr).add 1) = some (.int .i64 n49)) /\
 ∃ n53 : Int, (∀ w', S2 w' -> w'.cell? ((⟨r5, 0, none⟩ : Addr).add 2) = some (.int .i64 n53)) /\
 Calls prog 89 #[] w11 fun e w12 =>
 ∃ m47 : Option Nat, e = .returned (.map m47) /\
 ∃ S3 : World -> Prop, S3 w12 /\ (∀ u, S3 u -> S2 u) /\
 ∃ n50_0 : Int, ∃ n50_1 : Int, ∃ n50_2 : Int, ∃ v50_3 : Value, ∃ v50_4 : Value, (∀ w', S3 w' -> (Instr.lookup 104 (.map m47) (.int .i64 n49) false).run prog w' = .ok (.agg #[.int .u8 n50_0, .int .i64 n50_1, .int .i64 n50_2, v50_3, v50_4]) w') /\
 0 ≤ (10 : Int) /\ (10 : Int) < (16 : Int) /\
 st1 ((⟨r6, 0, none⟩ : Addr).add ((10 : Int).toNat * 1)) (.int .u8 n50_0) w12 fun w13 =>
 ∃ S4 : World -> Prop, S4 w13 /\ (∀ u, S4 u -> S3 u) /\
 0 ≤ (11 : Int) /\ (11 : Int) < (16 : Int) /\
 st1 ((⟨r6, 0, none⟩ : Addr).add ((11 : Int).toNat * 1)) (.int .u8 (IntKind.u8.wrap n53)) w13 fun w14 =>
 ∃ b58 : Bool, w14.cell? ((⟨r5, 0, none⟩ : Addr).add 3) = some (.bool b58) /\
 Br b58 (
 0 ≤ (12 : Int) /\ (12 : Int) < (16 : Int) /\
 st1 ((⟨r6, 0, none⟩ : Addr).add ((12 : Int).toNat * 1)) (.int .u8 1) w14 fun w15 =>
 16 ≤ 16 /\ 0 ≤ 16 /\
 ∃ l62 : SV, ∃ w16 : World, (Builtin.append_ #[37, 37] 37 #[.slice l3.a l3.len l3.cap, .slice (some (if 16 = 0 then (⟨r6, 0, none⟩ : Addr) else (⟨r6, 0, none⟩ : Addr).add (0 * 1))) (16 - 0) (16 - 0)]).run prog w15 = .ok (.slice l62.a l62.len l62.cap) w16 /\
 J1 (l62, (IntKind.i64.wrap (n39 + 1))) w16) (
 16 ≤ 16 /\ 0 ≤ 16 /\
 ∃ l62 : SV, ∃ w17 : World, (Builtin.append_ #[37, 37] 37 #[.slice l3.a l3.len l3.cap, .slice (some (if 16 = 0 then (⟨r6, 0, none⟩ : Addr) else (⟨r6, 0, none⟩ : Addr).add (0 * 1))) (16 - 0) (16 - 0)]).run prog w14 = .ok (.slice l62.a l62.len l62.cap) w17 /\
 J1 (l62, (IntKind.i64.wrap (n39 + 1))) w17)) (
 F62_1 R l3 ds w)
def F62_3 (R : Rt) (l3 l37 : SV) (n38 n39 : Int) (ds : Ds) (w : World) : Prop :=
 loopT (fun (J1 : (SV × Int) -> World -> Prop) (s : SV × Int) (w : World) => F62_2 R J1 s.1 l37 n38 s.2 ds w) (l3, n39) w
abbrev F62_4 (R : Rt) (l3 l37 : SV) (n38 n39 : Int) (ds : Ds) (w : World) : Prop := F62_3 R l3 l37 n38 n39 ds w
def F62_k6 (R : Rt) : EP := (fun E ds w => dSl (E 3) fun l3 => dSl (E 37) fun l37 => dInt .i64 (E 38) fun n38 => dInt .i64 (E 39) fun n39 => F62_4 R l3 l37 n38 n39 ds w)
def F62_5 (R : Rt) (n0_0 : Int) (l0_1 l0_2 : SV) (ds : Ds) (w : World) : Prop :=
 alE (.cells #[.int .i64 n0_0, .slice l0_1.a l0_1.len l0_1.cap, .slice l0_2.a l0_2.len l0_2.cap] 35) w fun r1 w18 =>
 dwE w18 fun w19 =>
 ∃ S5 : World -> Prop, S5 w19 /\
 ∃ n8 : Int, (∀ w', S5 w' -> w'.cell? (⟨r1, 0, none⟩ : Addr) = some (.int .i64 n8)) /\
 ∃ l12 : SV, (∀ w', S5 w' -> w'.cell? ((⟨r1, 0, none⟩ : Addr).add 2) = some (.slice l12.a l12.len l12.cap)) /\
 (
 alE (.cells #[.int .u8 67, .int .u8 (IntKind.u8.wrap n8)] 5) w19 fun r10 w20 =>
 S5 w20 /\
 Calls prog 109 #[.int .i64 (l12.len : Int), .int .i64 4] w20 fun e w21 =>
 ∃ l14 : SV, e = .returned (.slice l14.a l14.len l14.cap) /\
 S5 w21 /\
 ∃ l15 : SV, ∃ w22 : World, (Builtin.append_ #[37, 37] 37 #[.slice (some ⟨r10, 0, none⟩) 2 2, .slice l14.a l14.len l14.cap]).run prog w21 = .ok (.slice l15.a l15.len l15.cap) w22 /\
 ∃ l18 : SV, w22.cell? ((⟨r1, 0, none⟩ : Addr).add 1) = some (.slice l18.a l18.len l18.cap) /\
 Calls prog 110 #[.int .i64 (l18.len : Int)] w22 fun e w23 =>
 ∃ n20 : Int, e = .returned (.int .i64 n20) /\
 Calls prog 109 #[.int .i64 n20, .int .i64 2] w23 fun e w24 =>
 ∃ l21 : SV, e = .returned (.slice l21.a l21.len l21.cap) /\
 ∃ l22 : SV, ∃ w25 : World, (Builtin.append_ #[37, 37] 37 #[.slice l15.a l15.len l15.cap, .slice l21.a l21.len l21.cap]).run prog w24 = .ok (.slice l22.a l22.len l22.cap) w25 /\
 ∃ l25 : SV, w25.cell? ((⟨r1, 0, none⟩ : Addr).add 1) = some (.slice l25.a l25.len l25.cap) /\
 Calls prog 69 #[.slice l25.a l25.len l25.cap] w25 fun e w26 =>
 ∃ n26 : Int, e = .returned (.int .i64 n26) /\
 Calls prog 109 #[.int .i64 n26, .int .i64 2] w26 fun e w27 =>
 ∃ l27 : SV, e = .returned (.slice l27.a l27.len l27.cap) /\
 ∃ l28 : SV, ∃ w28 : World, (Builtin.append_ #[37, 37] 37 #[.slice l22.a l22.len l22.cap, .slice l27.a l27.len l27.cap]).run prog w27 = .ok (.slice l28.a l28.len l28.cap) w28 /\
 ∃ l31 : SV, w28.cell? ((⟨r1, 0, none⟩ : Addr).add 1) = some (.slice l31.a l31.len l31.cap) /\
 alE (.cells #[.int .u8 (IntKind.u8.wrap (l31.len : Int)), .int .u8 0] 5) w28 fun r34 w29 =>
 ∃ l35 : SV, ∃ w30 : World, (Builtin.append_ #[37, 37] 37 #[.slice l28.a l28.len l28.cap, .slice (some ⟨r34, 0, none⟩) 2 2]).run prog w29 = .ok (.slice l35.a l35.len l35.cap) w30 /\
 ∃ l37 : SV, w30.cell? ((⟨r1, 0, none⟩ : Addr).add 1) = some (.slice l37.a l37.len l37.cap) /\
 F62_4 R l35 l37 (l37.len : Int) 0 ds w30) /\ (
 Calls prog 109 #[.int .i64 (l12.len : Int), .int .i64 4] w19 fun e w31 =>
 ∃ l14 : SV, e = .returned (.slice l14.a l14.len l14.cap) /\
 S5 w31 /\
 alE (.cells #[.int .u8 67, .int .u8 (IntKind.u8.wrap n8)] 5) w31 fun r10 w32 =>
 S5 w32 /\
 ∃ l15 : SV, ∃ w33 : World, (Builtin.append_ #[37, 37] 37 #[.slice (some ⟨r10, 0, none⟩) 2 2, .slice l14.a l14.len l14.cap]).run prog w32 = .ok (.slice l15.a l15.len l15.cap) w33 /\
 ∃ l18 : SV, w33.cell? ((⟨r1, 0, none⟩ : Addr).add 1) = some (.slice l18.a l18.len l18.cap) /\
 Calls prog 110 #[.int .i64 (l18.len : Int)] w33 fun e w34 =>
 ∃ n20 : Int, e = .returned (.int .i64 n20) /\
 Calls prog 109 #[.int .i64 n20, .int .i64 2] w34 fun e w35 =>
 ∃ l21 : SV, e = .returned (.slice l21.a l21.len l21.cap) /\
 ∃ l22 : SV, ∃ w36 : World, (Builtin.append_ #[37, 37] 37 #[.slice l15.a l15.len l15.cap, .slice l21.a l21.len l21.cap]).run prog w35 = .ok (.slice l22.a l22.len l22.cap) w36 /\
 ∃ l25 : SV, w36.cell? ((⟨r1, 0, none⟩ : Addr).add 1) = some (.slice l25.a l25.len l25.cap) /\
 Calls prog 69 #[.slice l25.a l25.len l25.cap] w36 fun e w37 =>
 ∃ n26 : Int, e = .returned (.int .i64 n26) /\
 Calls prog 109 #[.int .i64 n26, .int .i64 2] w37 fun e w38 =>
 ∃ l27 : SV, e = .returned (.slice l27.a l27.len l27.cap) /\
 ∃ l28 : SV, ∃ w39 : World, (Builtin.append_ #[37, 37] 37 #[.slice l22.a l22.len l22.cap, .slice l27.a l27.len l27.cap]).run prog w38 = .ok (.slice l28.a l28.len l28.cap) w39 /\
 ∃ l31 : SV, w39.cell? ((⟨r1, 0, none⟩ : Addr).add 1) = some (.slice l31.a l31.len l31.cap) /\
 alE (.cells #[.int .u8 (IntKind.u8.wrap (l31.len : Int)), .int .u8 0] 5) w39 fun r34 w40 =>
 ∃ l35 : SV, ∃ w41 : World, (Builtin.append_ #[37, 37] 37 #[.slice l28.a l28.len l28.cap, .slice (some ⟨r34, 0, none⟩) 2 2]).run prog w40 = .ok (.slice l35.a l35.len l35.cap) w41 /\
 ∃ l37 : SV, w41.cell? ((⟨r1, 0, none⟩ : Addr).add 1) = some (.slice l37.a l37.len l37.cap) /\
 F62_4 R l35 l37 (l37.len : Int) 0 ds w41)
theorem c62_l : flat (bodyOf f62) = [c62_0, c62_1, c62_2, c62_3, c62_4, c62_5, c62_6, c62_7, c62_8] := by kernel_rfl
theorem c62_6_l : flat (innerC c62_6) = [c62_6_0] := by kernel_rfl
theorem c62_6_0_l : flat (innerC c62_6_0) = [c62_6_0_0, c62_6_0_1, c62_6_0_2, c62_6_0_3] := by kernel_rfl
theorem F62_1_ok (R : Rt) (l3 : SV) (ds : Ds) (w : World) (E : Env) (e3 : E 3 = .slice l3.a l3.len l3.cap) (h : F62_1 R l3 ds w) :
    TrL prog f62.ntmps [c62_7, c62_8] (F62_q1 R) E ds w :=
  TrL_leaf (X := F62_1 R l3 ds w) (setAll_cons e3 setAll_nil) (by kernel_rfl) (by kernel_rfl) h
theorem F62_2_ok (R : Rt) (J1 : (SV × Int) -> World -> Prop) (l3 l37 : SV) (n38 n39 : Int) (ds : Ds) (w : World) (E : Env) (e3 : E 3 = .slice l3.a l3.len l3.cap) (e37 : E 37 = .slice l37.a l37.len l37.cap) (e38 : E 38 = .int .i64 n38) (e39 : E 39 = .int .i64 n39) (h : F62_2 R J1 l3 l37 n38 n39 ds w) :
    TrL prog f62.ntmps [c62_6_0_0, c62_6_0_1, c62_6_0_2, c62_6_0_3] (F62_q5 R J1) E ds w :=
  TrL_leaf (X := F62_2 R J1 l3 l37 n38 n39 ds w) (setAll_cons e3 (setAll_cons e37 (setAll_cons e38 (setAll_cons e39 setAll_nil)))) (by kernel_rfl) (by kernel_rfl) h
theorem F62_3_ok (R : Rt) (l3 l37 : SV) (n38 n39 : Int) (ds : Ds) (w : World) (E : Env) (e3 : E 3 = .slice l3.a l3.len l3.cap) (e37 : E 37 = .slice l37.a l37.len l37.cap) (e38 : E 38 = .int .i64 n38) (e39 : E 39 = .int .i64 n39) (h : F62_3 R l3 l37 n38 n39 ds w) :
    TrL prog f62.ntmps [c62_6_0] (F62_q4 R) E ds w :=
  TrL_one (Tr_loop' (c := innerC c62_6_0) (σ := SV × Int) (enc := (fun (s : SV × Int) (E : Env) => E 3 = .slice s.1.a s.1.len s.1.cap /\ E 39 = .int .i64 s.2)) (D := (fun E K => dSl (E 3) fun l3 => dInt .i64 (E 39) fun n39 => K (l3, n39))) (F := (fun (J1 : (SV × Int) -> World -> Prop) (s : SV × Int) (w : World) => F62_2 R J1 s.1 l37 n38 s.2 ds w)) (s0 := (l3, n39)) (by kernel_rfl) c62_6_0_l ⟨e3, e39⟩ (by kernel_rfl) (fun E K hD => by obtain ⟨l3, e3, hD⟩ := dSl_elim hD; obtain ⟨n39, e39, hD⟩ := dInt_elim hD; exact ⟨(l3, n39), ⟨e3, e39⟩, hD⟩)
      (fun J1 s E' w' he ha hF => by
      obtain ⟨e3', e39'⟩ := he
      exact F62_2_ok R J1 s.1 l37 n38 s.2 ds w' E' e3' ((ha 37 (by kernel_rfl)).trans e37) ((ha 38 (by kernel_rfl)).trans e38) e39' hF) h)
theorem F62_4_ok (R : Rt) (l3 l37 : SV) (n38 n39 : Int) (ds : Ds) (w : World) (E : Env) (e3 : E 3 = .slice l3.a l3.len l3.cap) (e37 : E 37 = .slice l37.a l37.len l37.cap) (e38 : E 38 = .int .i64 n38) (e39 : E 39 = .int .i64 n39) (h : F62_4 R l3 l37 n38 n39 ds w) :
    TrL prog f62.ntmps [c62_6, c62_7, c62_8] (F62_q1 R) E ds w :=
  TrL_head (K := (F62_k2 R)) (Tr_block' (c := innerC c62_6) (by kernel_rfl) c62_6_l (F62_3_ok R l3 l37 n38 n39 ds w E e3 e37 e38 e39 h))
    (fun E' ds' w' hD => by
      obtain ⟨l3, e3, hD⟩ := dSl_elim hD; exact F62_1_ok R l3 ds' w' E' e3 hD)
theorem F62_5_ok (R : Rt) (n0_0 : Int) (l0_1 l0_2 : SV) (ds : Ds) (w : World) (E : Env) (e0 : E 0 = .agg #[.int .i64 n0_0, .slice l0_1.a l0_1.len l0_1.cap, .slice l0_2.a l0_2.len l0_2.cap]) (h : F62_5 R n0_0 l0_1 l0_2 ds w) :
    TrL prog f62.ntmps [c62_0, c62_1, c62_2, c62_3, c62_4, c62_5, c62_6, c62_7, c62_8] (F62_q1 R) E ds w :=
  TrL_piece (pre := [c62_0, c62_1, c62_2, c62_3, c62_4, c62_5]) (K := (F62_k6 R)) (X := F62_5 R n0_0 l0_1 l0_2 ds w) (setAll_cons e0 setAll_nil) (by kernel_rfl) (by kernel_rfl)
    (fun E' ds' w' hD => by
      obtain ⟨l3, e3, hD⟩ := dSl_elim hD; obtain ⟨l37, e37, hD⟩ := dSl_elim hD; obtain ⟨n38, e38, hD⟩ := dInt_elim hD; obtain ⟨n39, e39, hD⟩ := dInt_elim hD; exact F62_4_ok R l3 l37 n38 n39 ds' w' E' e3 e37 e38 e39 hD) h
theorem F62_calls (n0_0 : Int) (l0_1 l0_2 : SV) (w : World) (R : Rt) (h : F62_5 R n0_0 l0_1 l0_2 [] w) : Calls prog 62 #[.agg #[.int .i64 n0_0, .slice l0_1.a l0_1.len l0_1.cap, .slice l0_2.a l0_2.len l0_2.cap]] w R :=
  calls_of_L (l := [c62_0, c62_1, c62_2, c62_3, c62_4, c62_5, c62_6, c62_7, c62_8]) func62 (by kernel_rfl) (by rw [ntmps62]; exact Nat.le_of_ble_eq_true (by kernel_rfl)) c62_l
    (F62_5_ok R n0_0 l0_1 l0_2 [] w _ rfl h)
noncomputable def c109_0 := cI10 f109 0
noncomputable def c109_1 := cI10 f109 1
noncomputable def c109_2 := cI10 f109 2
noncomputable def c109_3 := cI10 f109 3
noncomputable def c109_4 := cI10 f109 4
noncomputable def c109_5 := cI10 f109 5
noncomputable def c109_3_0 := cJ10 c109_3 0
noncomputable def c109_3_0_0 := cJ10 c109_3_0 0
noncomputable def c109_3_0_1 := cJ10 c109_3_0 1
noncomputable def c109_3_0_2 := cJ10 c109_3_0 2
noncomputable def c109_3_0_3 := cJ10 c109_3_0 3
def F109_q1 (R : Rt) : EQ := endQ prog f109.results.toList R
def F109_1 (R : Rt) (l5 : SV) (ds : Ds) (w : World) : Prop :=
 runD prog ds w fun w1 =>
 R (.returned (.slice l5.a l5.len l5.cap)) w1
def F109_k2 (R : Rt) : EP := (fun E ds w => dSl (E 5) fun l5 => F109_1 R l5 ds w)
def F109_q3 (R : Rt) : EQ := (thenQ (F109_k2 R) (F109_q1 R))
def F109_q4 (R : Rt) : EQ := (blockQ 0 (F109_q3 R))
def F109_q5 (R : Rt) (J1 : (Int × SV × Int) -> World -> Prop) : EQ := (thenQ (fun E _ w => dInt .i64 (E 0) fun n0 => dSl (E 5) fun l5 => dInt .i64 (E 7) fun n7 => J1 (n0, l5, n7) w) (F109_q4 R))
def F109_2 (R : Rt) (J1 : (Int × SV × Int) -> World -> Prop) (n0 : Int) (l5 : SV) (n6 n7 : Int) (ds : Ds) (w : World) : Prop :=
 Br (decide (n7 < n6)) (
 alE (.cells #[.int .u8 (IntKind.u8.wrap n0)] 5) w fun r12 w2 =>
 ∃ l13 : SV, ∃ w3 : World, (Builtin.append_ #[37, 37] 37 #[.slice l5.a l5.len l5.cap, .slice (some ⟨r12, 0, none⟩) 1 1]).run prog w2 = .ok (.slice l13.a l13.len l13.cap) w3 /\
 0 ≤ (8 : Int) /\
 J1 ((n0.fdiv (2 ^ 8)), l13, (IntKind.i64.wrap (n7 + 1))) w3) (
 F109_1 R l5 ds w)
def F109_3 (R : Rt) (n0 : Int) (l5 : SV) (n6 n7 : Int) (ds : Ds) (w : World) : Prop :=
 loopT (fun (J1 : (Int × SV × Int) -> World -> Prop) (s : Int × SV × Int) (w : World) => F109_2 R J1 s.1 s.2.1 n6 s.2.2 ds w) (n0, l5, n7) w
abbrev F109_4 (R : Rt) (n0 : Int) (l5 : SV) (n6 n7 : Int) (ds : Ds) (w : World) : Prop := F109_3 R n0 l5 n6 n7 ds w
def F109_k6 (R : Rt) : EP := (fun E ds w => dInt .i64 (E 0) fun n0 => dSl (E 5) fun l5 => dInt .i64 (E 6) fun n6 => dInt .i64 (E 7) fun n7 => F109_4 R n0 l5 n6 n7 ds w)
def F109_5 (R : Rt) (n0 n1 : Int) (ds : Ds) (w : World) : Prop :=
 F109_4 R n0 ⟨none, 0, 0⟩ n1 0 ds w
theorem c109_l : flat (bodyOf f109) = [c109_0, c109_1, c109_2, c109_3, c109_4, c109_5] := by kernel_rfl
theorem c109_3_l : flat (innerC c109_3) = [c109_3_0] := by kernel_rfl
theorem c109_3_0_l : flat (innerC c109_3_0) = [c109_3_0_0, c109_3_0_1, c109_3_0_2, c109_3_0_3] := by kernel_rfl
theorem F109_1_ok (R : Rt) (l5 : SV) (ds : Ds) (w : World) (E : Env) (e5 : E 5 = .slice l5.a l5.len l5.cap) (h : F109_1 R l5 ds w) :
    TrL prog f109.ntmps [c109_4, c109_5] (F109_q1 R) E ds w :=
  TrL_leaf (X := F109_1 R l5 ds w) (setAll_cons e5 setAll_nil) (by kernel_rfl) (by kernel_rfl) h
theorem F109_2_ok (R : Rt) (J1 : (Int × SV × Int) -> World -> Prop) (n0 : Int) (l5 : SV) (n6 n7 : Int) (ds : Ds) (w : World) (E : Env) (e0 : E 0 = .int .i64 n0) (e5 : E 5 = .slice l5.a l5.len l5.cap) (e6 : E 6 = .int .i64 n6) (e7 : E 7 = .int .i64 n7) (h : F109_2 R J1 n0 l5 n6 n7 ds w) :
    TrL prog f109.ntmps [c109_3_0_0, c109_3_0_1, c109_3_0_2, c109_3_0_3] (F109_q5 R J1) E ds w :=
  TrL_leaf (X := F109_2 R J1 n0 l5 n6 n7 ds w) (setAll_cons e0 (setAll_cons e5 (setAll_cons e6 (setAll_cons e7 setAll_nil)))) (by kernel_rfl) (by kernel_rfl) h
theorem F109_3_ok (R : Rt) (n0 : Int) (l5 : SV) (n6 n7 : Int) (ds : Ds) (w : World) (E : Env) (e0 : E 0 = .int .i64 n0) (e5 : E 5 = .slice l5.a l5.len l5.cap) (e6 : E 6 = .int .i64 n6) (e7 : E 7 = .int .i64 n7) (h : F109_3 R n0 l5 n6 n7 ds w) :
    TrL prog f109.ntmps [c109_3_0] (F109_q4 R) E ds w :=
  TrL_one (Tr_loop' (c := innerC c109_3_0) (σ := Int × SV × Int) (enc := (fun (s : Int × SV × Int) (E : Env) => E 0 = .int .i64 s.1 /\ E 5 = .slice s.2.1.a s.2.1.len s.2.1.cap /\ E 7 = .int .i64 s.2.2)) (D := (fun E K => dInt .i64 (E 0) fun n0 => dSl (E 5) fun l5 => dInt .i64 (E 7) fun n7 => K (n0, l5, n7))) (F := (fun (J1 : (Int × SV × Int) -> World -> Prop) (s : Int × SV × Int) (w : World) => F109_2 R J1 s.1 s.2.1 n6 s.2.2 ds w)) (s0 := (n0, l5, n7)) (by kernel_rfl) c109_3_0_l ⟨e0, e5, e7⟩ (by kernel_rfl) (fun E K hD => by obtain ⟨n0, e0, hD⟩ := dInt_elim hD; obtain ⟨l5, e5, hD⟩ := dSl_elim hD; obtain ⟨n7, e7, hD⟩ := dInt_elim hD; exact ⟨(n0, l5, n7), ⟨e0, e5, e7⟩, hD⟩)
      (fun J1 s E' w' he ha hF => by
      obtain ⟨e0', e5', e7'⟩ := he
      exact F109_2_ok R J1 s.1 s.2.1 n6 s.2.2 ds w' E' e0' e5' ((ha 6 (by kernel_rfl)).trans e6) e7' hF) h)
theorem F109_4_ok (R : Rt) (n0 : Int) (l5 : SV) (n6 n7 : Int) (ds : Ds) (w : World) (E : Env) (e0 : E 0 = .int .i64 n0) (e5 : E 5 = .slice l5.a l5.len l5.cap) (e6 : E 6 = .int .i64 n6) (e7 : E 7 = .int .i64 n7) (h : F109_4 R n0 l5 n6 n7 ds w) :
    TrL prog f109.ntmps [c109_3, c109_4, c109_5] (F109_q1 R) E ds w :=
  TrL_head (K := (F109_k2 R)) (Tr_block' (c := innerC c109_3) (by kernel_rfl) c109_3_l (F109_3_ok R n0 l5 n6 n7 ds w E e0 e5 e6 e7 h))
    (fun E' ds' w' hD => by
      obtain ⟨l5, e5, hD⟩ := dSl_elim hD; exact F109_1_ok R l5 ds' w' E' e5 hD)
theorem F109_5_ok (R : Rt) (n0 n1 : Int) (ds : Ds) (w : World) (E : Env) (e0 : E 0 = .int .i64 n0) (e1 : E 1 = .int .i64 n1) (h : F109_5 R n0 n1 ds w) :
    TrL prog f109.ntmps [c109_0, c109_1, c109_2, c109_3, c109_4, c109_5] (F109_q1 R) E ds w :=
  TrL_piece (pre := [c109_0, c109_1, c109_2]) (K := (F109_k6 R)) (X := F109_5 R n0 n1 ds w) (setAll_cons e0 (setAll_cons e1 setAll_nil)) (by kernel_rfl) (by kernel_rfl)
    (fun E' ds' w' hD => by
      obtain ⟨n0, e0, hD⟩ := dInt_elim hD; obtain ⟨l5, e5, hD⟩ := dSl_elim hD; obtain ⟨n6, e6, hD⟩ := dInt_elim hD; obtain ⟨n7, e7, hD⟩ := dInt_elim hD; exact F109_4_ok R n0 l5 n6 n7 ds' w' E' e0 e5 e6 e7 hD) h
theorem F109_calls (n0 n1 : Int) (w : World) (R : Rt) (h : F109_5 R n0 n1 [] w) : Calls prog 109 #[.int .i64 n0, .int .i64 n1] w R :=
  calls_of_L (l := [c109_0, c109_1, c109_2, c109_3, c109_4, c109_5]) func109 (by kernel_rfl) (by rw [ntmps109]; exact Nat.le_of_ble_eq_true (by kernel_rfl)) c109_l
    (F109_5_ok R n0 n1 [] w _ rfl rfl h)
noncomputable def c110_0 := cI10 f110 0
noncomputable def c110_1 := cI10 f110 1
noncomputable def c110_2 := cI10 f110 2
def F110_q1 (R : Rt) : EQ := endQ prog f110.results.toList R
def F110_1 (R : Rt) (n0 : Int) (ds : Ds) (w : World) : Prop :=
 runD prog ds w fun w1 =>
 R (.returned (.int .i64 (IntKind.i64.wrap ((13 : Int) + (IntKind.i64.wrap ((16 : Int) * n0)))))) w1
theorem c110_l : flat (bodyOf f110) = [c110_0, c110_1, c110_2] := by kernel_rfl
theorem F110_1_ok (R : Rt) (n0 : Int) (ds : Ds) (w : World) (E : Env) (e0 : E 0 = .int .i64 n0) (h : F110_1 R n0 ds w) :
    TrL prog f110.ntmps [c110_0, c110_1, c110_2] (F110_q1 R) E ds w :=
  TrL_leaf (X := F110_1 R n0 ds w) (setAll_cons e0 setAll_nil) (by kernel_rfl) (by kernel_rfl) h
theorem F110_calls (n0 : Int) (w : World) (R : Rt) (h : F110_1 R n0 [] w) : Calls prog 110 #[.int .i64 n0] w R :=
  calls_of_L (l := [c110_0, c110_1, c110_2]) func110 (by kernel_rfl) (by rw [ntmps110]; exact Nat.le_of_ble_eq_true (by kernel_rfl)) c110_l
    (F110_1_ok R n0 [] w _ rfl h)
end Go.Proofs.YtecmfdfhpldmmaaGreatDoor

/- Shallow texts of functions, printed by program, each checked by the kernel against the loaded code. No condition. -/
set_option maxRecDepth 100000
set_option linter.unusedVariables false
namespace Go.Proofs.YtecmfdfhpldmmaaGreatDoor
open Go.Sh
open Tryz
@[reducible] noncomputable def cI11 (f : Func) (i : Nat) : Code := itemAt (flat (bodyOf f)) i
@[reducible] noncomputable def cJ11 (c : Code) (i : Nat) : Code := itemAt (flat (innerC c)) i
noncomputable def c21_0 := cI11 f21 0
noncomputable def c21_1 := cI11 f21 1
noncomputable def c21_2 := cI11 f21 2
noncomputable def c21_3 := cI11 f21 3
noncomputable def c21_4 := cI11 f21 4
noncomputable def c21_5 := cI11 f21 5
noncomputable def c21_6 := cI11 f21 6
noncomputable def c21_7 := cI11 f21 7
def F21_q1 (R : Rt) : EQ := endQ prog f21.results.toList R
def F21_1 (R : Rt) (n0_0 : Int) (l0_1 l0_2 : SV) (n1 : Int) (ds : Ds) (w : World) : Prop :=
 alE (.cells #[.int .i64 n0_0, .slice l0_1.a l0_1.len l0_1.cap, .slice l0_2.a l0_2.len l0_2.cap] 35) w fun r2 w1 =>
 ∃ n7_0 : Int, w1.cell? ((⟨r2, 0, none⟩ : Addr).add 0) = some (.int .i64 n7_0) /\
 ∃ l7_1 : SV, w1.cell? ((⟨r2, 0, none⟩ : Addr).add 1) = some (.slice l7_1.a l7_1.len l7_1.cap) /\
 ∃ l7_2 : SV, w1.cell? ((⟨r2, 0, none⟩ : Addr).add 2) = some (.slice l7_2.a l7_2.len l7_2.cap) /\
 Calls prog 34 #[.agg #[.int .i64 n7_0, .slice l7_1.a l7_1.len l7_1.cap, .slice l7_2.a l7_2.len l7_2.cap]] w1 fun e w2 =>
 ∃ n8 : Int, e = .returned (.int .i64 n8) /\
 Br (n8 != 0) (
 runD prog ds w2 fun w3 =>
 R (.returned (.tuple #[.slice none 0 0, .int .i64 n8])) w3) (
 Br (decide (n1 < 1)) (
 runD prog ds w2 fun w4 =>
 R (.returned (.tuple #[.slice none 0 0, .int .i64 4])) w4) (
 ∃ l17 : SV, w2.cell? ((⟨r2, 0, none⟩ : Addr).add 2) = some (.slice l17.a l17.len l17.cap) /\
 Br (decide (n1 > (l17.len : Int))) (
 runD prog ds w2 fun w5 =>
 R (.returned (.tuple #[.slice none 0 0, .int .i64 4])) w5) (
 dwE w2 fun w6 =>
 ∃ l22 : SV, w6.cell? ((⟨r2, 0, none⟩ : Addr).add 1) = some (.slice l22.a l22.len l22.cap) /\
 ∃ l24 : SV, w6.cell? ((⟨r2, 0, none⟩ : Addr).add 2) = some (.slice l24.a l24.len l24.cap) /\
 ∃ a7 : Addr, l24.a = some a7 /\ 0 ≤ (IntKind.i64.wrap (n1 - 1)) /\ (IntKind.i64.wrap (n1 - 1)) < (l24.len : Int) /\
 ∃ b28_0 : Bool, w6.cell? ((a7.add ((IntKind.i64.wrap (n1 - 1)).toNat * 2)).add 0) = some (.bool b28_0) /\
 ∃ l28_1 : SV, w6.cell? ((a7.add ((IntKind.i64.wrap (n1 - 1)).toNat * 2)).add 1) = some (.slice l28_1.a l28_1.len l28_1.cap) /\
 Calls prog 63 #[.slice l22.a l22.len l22.cap, .agg #[.bool b28_0, .slice l28_1.a l28_1.len l28_1.cap]] w6 fun e w8 =>
 ∃ l29 : SV, e = .returned (.slice l29.a l29.len l29.cap) /\
 runD prog ds w8 fun w9 =>
 R (.returned (.tuple #[.slice l29.a l29.len l29.cap, .int .i64 0])) w9)))
theorem c21_l : flat (bodyOf f21) = [c21_0, c21_1, c21_2, c21_3, c21_4, c21_5, c21_6, c21_7] := by kernel_rfl
theorem F21_1_ok (R : Rt) (n0_0 : Int) (l0_1 l0_2 : SV) (n1 : Int) (ds : Ds) (w : World) (E : Env) (e0 : E 0 = .agg #[.int .i64 n0_0, .slice l0_1.a l0_1.len l0_1.cap, .slice l0_2.a l0_2.len l0_2.cap]) (e1 : E 1 = .int .i64 n1) (h : F21_1 R n0_0 l0_1 l0_2 n1 ds w) :
    TrL prog f21.ntmps [c21_0, c21_1, c21_2, c21_3, c21_4, c21_5, c21_6, c21_7] (F21_q1 R) E ds w :=
  TrL_leaf (X := F21_1 R n0_0 l0_1 l0_2 n1 ds w) (setAll_cons e0 (setAll_cons e1 setAll_nil)) (by kernel_rfl) (by kernel_rfl) h
theorem F21_calls (n0_0 : Int) (l0_1 l0_2 : SV) (n1 : Int) (w : World) (R : Rt) (h : F21_1 R n0_0 l0_1 l0_2 n1 [] w) : Calls prog 21 #[.agg #[.int .i64 n0_0, .slice l0_1.a l0_1.len l0_1.cap, .slice l0_2.a l0_2.len l0_2.cap], .int .i64 n1] w R :=
  calls_of_L (l := [c21_0, c21_1, c21_2, c21_3, c21_4, c21_5, c21_6, c21_7]) func21 (by kernel_rfl) (by rw [ntmps21]; exact Nat.le_of_ble_eq_true (by kernel_rfl)) c21_l
    (F21_1_ok R n0_0 l0_1 l0_2 n1 [] w _ rfl rfl h)
noncomputable def c63_0 := cI11 f63 0
noncomputable def c63_1 := cI11 f63 1
noncomputable def c63_2 := cI11 f63 2
noncomputable def c63_3 := cI11 f63 3
noncomputable def c63_4 := cI11 f63 4
noncomputable def c63_5 := cI11 f63 5
noncomputable def c63_6 := cI11 f63 6
noncomputable def c63_7 := cI11 f63 7
noncomputable def c63_8 := cI11 f63 8
noncomputable def c63_9 := cI11 f63 9
noncomputable def c63_10 := cI11 f63 10
noncomputable def c63_8_0 := cJ11 c63_8 0
noncomputable def c63_8_0_0 := cJ11 c63_8_0 0
noncomputable def c63_8_0_1 := cJ11 c63_8_0 1
noncomputable def c63_8_0_2 := cJ11 c63_8_0 2
noncomputable def c63_8_0_3 := cJ11 c63_8_0 3
def F63_q1 (R : Rt) : EQ := endQ prog f63.results.toList R
def F63_1 (R : Rt) (l5 l6 : SV) (p7 : Option Addr) (ds : Ds) (w : World) : Prop :=
 ∃ l68 : SV, ∃ w1 : World, (Builtin.append_ #[37, 37] 37 #[.slice l5.a l5.len l5.cap, .slice l6.a l6.len l6.cap]).run prog w = .ok (.slice l68.a l68.len l68.cap) w1 /\
 Calls prog 112 #[.pointer p7] w1 fun e w2 =>
 ∃ s69 : ByteArray, e = .returned (.string s69) /\
 ∃ l70 : SV, ∃ w3 : World, (Builtin.append_ #[37, 9] 37 #[.slice l68.a l68.len l68.cap, .string s69]).run prog w2 = .ok (.slice l70.a l70.len l70.cap) w3 /\
 runD prog ds w3 fun w4 =>
 R (.returned (.slice l70.a l70.len l70.cap)) w4
def F63_k2 (R : Rt) : EP := (fun E ds w => dSl (E 5) fun l5 => dSl (E 6) fun l6 => dPtr (E 7) fun p7 => F63_1 R l5 l6 p7 ds w)
def F63_q3 (R : Rt) : EQ := (thenQ (F63_k2 R) (F63_q1 R))
def F63_q4 (R : Rt) : EQ := (blockQ 0 (F63_q3 R))
def F63_q5 (R : Rt) (J1 : (Int × Int) -> World -> Prop) : EQ := (thenQ (fun E _ w => dInt .i64 (E 8) fun n8 => dInt .i64 (E 22) fun n22 => J1 (n8, n22) w) (F63_q4 R))
def F63_2 (R : Rt) (J1 : (Int × Int) -> World -> Prop) (p3 : Option Addr) (l5 l6 : SV) (p7 : Option Addr) (n8 : Int) (l20 : SV) (n21 n22 : Int) (ds : Ds) (w : World) : Prop :=
 Br (decide (n22 < n21)) (
 ∃ a5 : Addr, l20.a = some a5 /\ 0 ≤ n22 /\ n22 < (l20.len : Int) /\
 ∃ s26_0 : ByteArray, w.cell? ((a5.add (n22.toNat * 4)).add 0) = some (.string s26_0) /\
 ∃ n26_1 : Int, w.cell? ((a5.add (n22.toNat * 4)).add 1) = some (.int .i64 n26_1) /\
 ∃ n26_2 : Int, w.cell? ((a5.add (n22.toNat * 4)).add 2) = some (.int .i64 n26_2) /\
 ∃ b26_3 : Bool, w.cell? ((a5.add (n22.toNat * 4)).add 3) = some (.bool b26_3) /\
 alE (.cells #[.string (⟨#[]⟩ : ByteArray), .int .i64 0, .int .i64 0, .bool false] 23) w fun r10 w6 =>
 stA prog 23 (⟨r10, 0, none⟩ : Addr) #[.string s26_0, .int .i64 n26_1, .int .i64 n26_2, .bool b26_3] w6 fun w7 =>
 ptrE p3 fun a8 =>
 ∃ l28 : SV, w7.cell? (a8.add 1) = some (.slice l28.a l28.len l28.cap) /\
 ∃ a9 : Addr, l28.a = some a9 /\ 0 ≤ n22 /\ n22 < (l28.len : Int) /\
 ∃ n31_0 : Int, w7.cell? ((a9.add (n22.toNat * 3)).add 0) = some (.int .i64 n31_0) /\
 ∃ n31_1 : Int, w7.cell? ((a9.add (n22.toNat * 3)).add 1) = some (.int .i64 n31_1) /\
 ∃ s31_2 : ByteArray, w7.cell? ((a9.add (n22.toNat * 3)).add 2) = some (.string s31_2) /\
 alE (.cells #[.int .i64 0, .int .i64 0, .string (⟨#[]⟩ : ByteArray)] 25) w7 fun r11 w10 =>
 stA prog 25 (⟨r11, 0, none⟩ : Addr) #[.int .i64 n31_0, .int .i64 n31_1, .string s31_2] w10 fun w11 =>
 ∃ b33 : Bool, w11.cell? ((⟨r10, 0, none⟩ : Addr).add 3) = some (.bool b33) /\
 Br b33 (
 ∃ n35 : Int, w11.cell? (⟨r11, 0, none⟩ : Addr) = some (.int .i64 n35) /\
 Br (n35 == 0) (
 dwE w11 fun w12 =>
 IntKind.i64 = IntKind.i64 /\ (8 : Int) ≠ 0 /\
 ∃ a13 : Addr, l6.a = some a13 /\ 0 ≤ (IntKind.i64.wrap (n8.tdiv 8)) /\ (IntKind.i64.wrap (n8.tdiv 8)) < (l6.len : Int) /\
 ∃ n41 : Int, w12.cell? (a13.add ((IntKind.i64.wrap (n8.tdiv 8)).toNat * 1)) = some (.int .u8 n41) /\
 IntKind.i64 = IntKind.i64 /\ (8 : Int) ≠ 0 /\
 0 ≤ (n8.tmod 8) /\
 ∃ a14 : Addr, l6.a = some a14 /\ 0 ≤ (IntKind.i64.wrap (n8.tdiv 8)) /\ (IntKind.i64.wrap (n8.tdiv 8)) < (l6.len : Int) /\
 st1 (a14.add ((IntKind.i64.wrap (n8.tdiv 8)).toNat * 1)) (.int .u8 (IntKind.u8.wrap ((BitVec.ofInt 8 n41 ||| BitVec.ofInt 8 (IntKind.u8.wrap ((1 : Int) * 2 ^ (min (n8.tmod 8).toNat 8)))).toNat : Nat))) w12 fun w15 =>
 ∃ n50 : Int, w15.cell? (⟨r11, 0, none⟩ : Addr) = some (.int .i64 n50) /\
 Br (n50 == 0) (
 ∃ n53 : Int, w15.cell? ((⟨r10, 0, none⟩ : Addr).add 2) = some (.int .i64 n53) /\
 Calls prog 99 #[.string (⟨#[32]⟩ : ByteArray), .int .i64 n53] w15 fun e w16 =>
 ∃ s54 : ByteArray, e = .returned (.string s54) /\
 Calls prog 111 #[.pointer p7, .string s54] w16 fun e w17 =>
 ∃ n55_0 : Int, ∃ v55_1 : Value, e = .returned (.tuple #[.int .i64 n55_0, v55_1]) /\
 J1 ((IntKind.i64.wrap (n8 + 1)), (IntKind.i64.wrap (n22 + 1))) w17) (
 dwE w15 fun w18 =>
 ∃ S2 : World -> Prop, S2 w18 /\
 ∃ n58 : Int, (∀ w', S2 w' -> w'.cell? ((⟨r10, 0, none⟩ : Addr).add 1) = some (.int .i64 n58)) /\
 ∃ s61_0 : ByteArray, (∀ w', S2 w' -> w'.cell? ((⟨r10, 0, none⟩ : Addr).add 0) = some (.string s61_0)) /\
 ∃ n61_1 : Int, (∀ w', S2 w' -> w'.cell? ((⟨r10, 0, none⟩ : Addr).add 1) = some (.int .i64 n61_1)) /\
 ∃ n61_2 : Int, (∀ w', S2 w' -> w'.cell? ((⟨r10, 0, none⟩ : Addr).add 2) = some (.int .i64 n61_2)) /\
 ∃ b61_3 : Bool, (∀ w', S2 w' -> w'.cell? ((⟨r10, 0, none⟩ : Addr).add 3) = some (.bool b61_3)) /\
 ∃ n62_0 : Int, (∀ w', S2 w' -> w'.cell? ((⟨r11, 0, none⟩ : Addr).add 0) = some (.int .i64 n62_0)) /\
 ∃ n62_1 : Int, (∀ w', S2 w' -> w'.cell? ((⟨r11, 0, none⟩ : Addr).add 1) = some (.int .i64 n62_1)) /\
 ∃ s62_2 : ByteArray, (∀ w', S2 w' -> w'.cell? ((⟨r11, 0, none⟩ : Addr).add 2) = some (.string s62_2)) /\
 Calls prog 89 #[] w18 fun e w19 =>
 ∃ m56 : Option Nat, e = .returned (.map m56) /\
 ∃ S3 : World -> Prop, S3 w19 /\ (∀ u, S3 u -> S2 u) /\
 ∃ n59_0 : Int, ∃ n59_1 : Int, ∃ n59_2 : Int, ∃ v59_3 : Value, ∃ v59_4 : Value, (∀ w', S3 w' -> (Instr.lookup 104 (.map m56) (.int .i64 n58) false).run prog w' = .ok (.agg #[.int .u8 n59_0, .int .i64 n59_1, .int .i64 n59_2, v59_3, v59_4]) w') /\
 fnE v59_3 fun f63 first63 cap63 =>
 hasBody prog f63 = true /\ Calls prog f63 (first63.toList ++ (([.agg #[.string s61_0, .int .i64 n61_1, .int .i64 n61_2, .bool b61_3], .agg #[.int .i64 n62_0, .int .i64 n62_1, .string s62_2]] : List Value) ++ cap63.toList)).toArray w19 fun e w20 =>
 ∃ s63 : ByteArray, e = .returned (.string s63) /\
 Calls prog 111 #[.pointer p7, .string s63] w20 fun e w21 =>
 ∃ n64_0 : Int, ∃ v64_1 : Value, e = .returned (.tuple #[.int .i64 n64_0, v64_1]) /\
 J1 ((IntKind.i64.wrap (n8 + 1)), (IntKind.i64.wrap (n22 + 1))) w21)) (
 ∃ n50 : Int, w11.cell? (⟨r11, 0, none⟩ : Addr) = some (.int .i64 n50) /\
 Br (n50 == 0) (
 ∃ n53 : Int, w11.cell? ((⟨r10, 0, none⟩ : Addr).add 2) = some (.int .i64 n53) /\
 Calls prog 99 #[.string (⟨#[32]⟩ : ByteArray), .int .i64 n53] w11 fun e w22 =>
 ∃ s54 : ByteArray, e = .returned (.string s54) /\
 Calls prog 111 #[.pointer p7, .string s54] w22 fun e w23 =>
 ∃ n55_0 : Int, ∃ v55_1 : Value, e = .returned (.tuple #[.int .i64 n55_0, v55_1]) /\
 J1 ((IntKind.i64.wrap (n8 + 1)), (IntKind.i64.wrap (n22 + 1))) w23) (
 dwE w11 fun w24 =>
 ∃ S4 : World -> Prop, S4 w24 /\
 ∃ n58 : Int, (∀ w', S4 w' -> w'.cell? ((⟨r10, 0, none⟩ : Addr).add 1) = some (.int .i64 n58)) /\
 ∃ s61_0 : ByteArray, (∀ w', S4 w' -> w'.cell? ((⟨r10, 0, none⟩ : Addr).add 0) = some (.string s61_0)) /\
 ∃ n61_1 : Int, (∀ w', S4 w' -> w'.cell? ((⟨r10, 0, none⟩ : Addr).add 1) = some (.int .i64 n61_1)) /\
 ∃ n61_2 : Int, (∀ w', S4 w' -> w'.cell? ((⟨r10, 0, none⟩ : Addr).add 2) = some (.int .i64 n61_2)) /\
 ∃ b61_3 : Bool, (∀ w', S4 w' -> w'.cell? ((⟨r10, 0, none⟩ : Addr).add 3) = some (.bool b61_3)) /\
 ∃ n62_0 : Int, (∀ w', S4 w' -> w'.cell? ((⟨r11, 0, none⟩ : Addr).add 0) = some (.int .i64 n62_0)) /\
 ∃ n62_1 : Int, (∀ w', S4 w' -> w'.cell? ((⟨r11, 0, none⟩ : Addr).add 1) = some (.int .i64 n62_1)) /\
 ∃ s62_2 : ByteArray, (∀ w', S4 w' -> w'.cell? ((⟨r11, 0, none⟩ : Addr).add 2) = some (.string s62_2)) /\
 Calls prog 89 #[] w24 fun e w25 =>
 ∃ m56 : Option Nat, e = .returned (.map m56) /\
 ∃ S5 : World -> Prop, S5 w25 /\ (∀ u, S5 u -> S4 u) /\
 ∃ n59_0 : Int, ∃ n59_1 : Int, ∃ n59_2 : Int, ∃ v59_3 : Value, ∃ v59_4 : Value, (∀ w', S5 w' -> (Instr.lookup 104 (.map m56) (.int .i64 n58) false).run prog w' = .ok (.agg #[.int .u8 n59_0, .int .i64 n59_1, .int .i64 n59_2, v59_3, v59_4]) w') /\
 fnE v59_3 fun f63 first63 cap63 =>
 hasBody prog f63 = true /\ Calls prog f63 (first63.toList ++ (([.agg #[.string s61_0, .int .i64 n61_1, .int .i64 n61_2, .bool b61_3], .agg #[.int .i64 n62_0, .int .i64 n62_1, .string s62_2]] : List Value) ++ cap63.toList)).toArray w25 fun e w26 =>
 ∃ s63 : ByteArray, e = .returned (.string s63) /\
 Calls prog 111 #[.pointer p7, .string s63] w26 fun e w27 =>
 ∃ n64_0 : Int, ∃ v64_1 : Value, e = .returned (.tuple #[.int .i64 n64_0, v64_1]) /\
 J1 ((IntKind.i64.wrap (n8 + 1)), (IntKind.i64.wrap (n22 + 1))) w27))) (
 ∃ n50 : Int, w11.cell? (⟨r11, 0, none⟩ : Addr) = some (.int .i64 n50) /\
 Br (n50 == 0) (
 ∃ n53 : Int, w11.cell? ((⟨r10, 0, none⟩ : Addr).add 2) = some (.int .i64 n53) /\
 Calls prog 99 #[.string (⟨#[32]⟩ : ByteArray), .int .i64 n53] w11 fun e w28 =>
 ∃ s54 : ByteArray, e = .returned (.string s54) /\
 Calls prog 111 #[.pointer p7, .string s54] w28 fun e w29 =>
 ∃ n55_0 : Int, ∃ v55_1 : Value, e = .returned (.tuple #[.int .i64 n55_0, v55_1]) /\
 J1 (n8, (IntKind.i64.wrap (n22 + 1))) w29) (
 dwE w11 fun w30 =>
 ∃ S6 : World -> Prop, S6 w30 /\
 ∃ n58 : Int, (∀ w', S6 w' -> w'.cell? ((⟨r10, 0, none⟩ : Addr).add 1) = some (.int .i64 n58)) /\
 ∃ s61_0 : ByteArray, (∀ w', S6 w' -> w'.cell? ((⟨r10, 0, none⟩ : Addr).add 0) = some (.string s61_0)) /\
 ∃ n61_1 : Int, (∀ w', S6 w' -> w'.cell? ((⟨r10, 0, none⟩ : Addr).add 1) = some (.int .i64 n61_1)) /\
 ∃ n61_2 : Int, (∀ w', S6 w' -> w'.cell? ((⟨r10, 0, none⟩ : Addr).add 2) = some (.int .i64 n61_2)) /\
 ∃ b61_3 : Bool, (∀ w', S6 w' -> w'.cell? ((⟨r10, 0, none⟩ : Addr).add 3) = some (.bool b61_3)) /\
 ∃ n62_0 : Int, (∀ w', S6 w' -> w'.cell? ((⟨r11, 0, none⟩ : Addr).add 0) = some (.int .i64 n62_0)) /\
 ∃ n62_1 : Int, (∀ w', S6 w' -> w'.cell? ((⟨r11, 0, none⟩ : Addr).add 1) = some (.int .i64 n62_1)) /\
 ∃ s62_2 : ByteArray, (∀ w', S6 w' -> w'.cell? ((⟨r11, 0, none⟩ : Addr).add 2) = some (.string s62_2)) /\
 Calls prog 89 #[] w30 fun e w31 =>
 ∃ m56 : Option Nat, e = .returned (.map m56) /\
 ∃ S7 : World -> Prop, S7 w31 /\ (∀ u, S7 u -> S6 u) /\
 ∃ n59_0 : Int, ∃ n59_1 : Int, ∃ n59_2 : Int, ∃ v59_3 : Value, ∃ v59_4 : Value, (∀ w', S7 w' -> (Instr.lookup 104 (.map m56) (.int .i64 n58) false).run prog w' = .ok (.agg #[.int .u8 n59_0, .int .i64 n59_1, .int .i64 n59_2, v59_3, v59_4]) w') /\
 fnE v59_3 fun f63 first63 cap63 =>
 hasBody prog f63 = true /\ Calls prog f63 (first63.toList ++ (([.agg #[.string s61_0, .int .i64 n61_1, .int .i64 n61_2, .bool b61_3], .agg #[.int .i64 n62_0, .int .i64 n62_1, .string s62_2]] : List Value) ++ cap63.toList)).toArray w31 fun e w32 =>
 ∃ s63 : ByteArray, e = .returned (.string s63) /\
 Calls prog 111 #[.pointer p7, .string s63] w32 fun e w33 =>
 ∃ n64_0 : Int, ∃ v64_1 : Value, e = .returned (.tuple #[.int .i64 n64_0, v64_1]) /\
 J1 (n8, (IntKind.i64.wrap (n22 + 1))) w33))) (
 F63_1 R l5 l6 p7 ds w)
def F63_3 (R : Rt) (p3 : Option Addr) (l5 l6 : SV) (p7 : Option Addr) (n8 : Int) (l20 : SV) (n21 n22 : Int) (ds : Ds) (w : World) : Prop :=
 loopT (fun (J1 : (Int × Int) -> World -> Prop) (s : Int × Int) (w : World) => F63_2 R J1 p3 l5 l6 p7 s.1 l20 n21 s.2 ds w) (n8, n22) w
abbrev F63_4 (R : Rt) (p3 : Option Addr) (l5 l6 : SV) (p7 : Option Addr) (n8 : Int) (l20 : SV) (n21 n22 : Int) (ds : Ds) (w : World) : Prop := F63_3 R p3 l5 l6 p7 n8 l20 n21 n22 ds w
def F63_k6 (R : Rt) : EP := (fun E ds w => dPtr (E 3) fun p3 => dSl (E 5) fun l5 => dSl (E 6) fun l6 => dPtr (E 7) fun p7 => dInt .i64 (E 8) fun n8 => dSl (E 20) fun l20 => dInt .i64 (E 21) fun n21 => dInt .i64 (E 22) fun n22 => F63_4 R p3 l5 l6 p7 n8 l20 n21 n22 ds w)
def F63_5 (R : Rt) (l0 : SV) (b1_0 : Bool) (l1_1 : SV) (ds : Ds) (w : World) : Prop :=
 alE (.cells #[.bool b1_0, .slice l1_1.a l1_1.len l1_1.cap] 46) w fun r3 w34 =>
 alE (.cells #[.int .u8 32] 5) w34 fun r12 w35 =>
 ∃ b14 : Bool, w35.cell? (⟨r3, 0, none⟩ : Addr) = some (.bool b14) /\
 Br b14 (
 ∃ a36 : Addr, (some ⟨r12, 0, none⟩) = some a36 /\ 0 ≤ (0 : Int) /\ (0 : Int) < (1 : Int) /\
 st1 (a36.add ((0 : Int).toNat * 1)) (.int .u8 42) w35 fun w37 =>
 Calls prog 71 #[.slice l0.a l0.len l0.cap] w37 fun e w38 =>
 ∃ n18 : Int, e = .returned (.int .i64 n18) /\
 ∃ l19 : SV, ∃ w39 : World, (Instr.makeSlice 37 (.int .i64 n18) (.int .i64 n18)).run prog w38 = .ok (.slice l19.a l19.len l19.cap) w39 /\
 alE (.cells #[.pointer none, .slice none 0 0] 126) w39 fun r7 w40 =>
 F63_4 R (some (⟨r3, 0, none⟩ : Addr)) ⟨(some ⟨r12, 0, none⟩), 1, 1⟩ l19 (some (⟨r7, 0, none⟩ : Addr)) 0 l0 (l0.len : Int) 0 ds w40) (
 Calls prog 71 #[.slice l0.a l0.len l0.cap] w35 fun e w41 =>
 ∃ n18 : Int, e = .returned (.int .i64 n18) /\
 ∃ l19 : SV, ∃ w42 : World, (Instr.makeSlice 37 (.int .i64 n18) (.int .i64 n18)).run prog w41 = .ok (.slice l19.a l19.len l19.cap) w42 /\
 alE (.cells #[.pointer none, .slice none 0 0] 126) w42 fun r7 w43 =>
 F63_4 R (some (⟨r3, 0, none⟩ : Addr)) ⟨(some ⟨r12, 0, none⟩), 1, 1⟩ l19 (some (⟨r7, 0, none⟩ : Addr)) 0 l0 (l0.len : Int) 0 ds w43)
theorem c63_l : flat (bodyOf f63) = [c63_0, c63_1, c63_2, c63_3, c63_4, c63_5, c63_6, c63_7, c63_8, c63_9, c63_10] := by kernel_rfl
theorem c63_8_l : flat (innerC c63_8) = [c63_8_0] := by kernel_rfl
theorem c63_8_0_l : flat (innerC c63_8_0) = [c63_8_0_0, c63_8_0_1, c63_8_0_2, c63_8_0_3] := by kernel_rfl
theorem F63_1_ok (R : Rt) (l5 l6 : SV) (p7 : Option Addr) (ds : Ds) (w : World) (E : Env) (e5 : E 5 = .slice l5.a l5.len l5.cap) (e6 : E 6 = .slice l6.a l6.len l6.cap) (e7 : E 7 = .pointer p7) (h : F63_1 R l5 l6 p7 ds w) :
    TrL prog f63.ntmps [c63_9, c63_10] (F63_q1 R) E ds w :=
  TrL_leaf (X := F63_1 R l5 l6 p7 ds w) (setAll_cons e5 (setAll_cons e6 (setAll_cons e7 setAll_nil))) (by kernel_rfl) (by kernel_rfl) h
theorem F63_2_ok (R : Rt) (J1 : (Int × Int) -> World -> Prop) (p3 : Option Addr) (l5 l6 : SV) (p7 : Option Addr) (n8 : Int) (l20 : SV) (n21 n22 : Int) (ds : Ds) (w : World) (E : Env) (e3 : E 3 = .pointer p3) (e5 : E 5 = .slice l5.a l5.len l5.cap) (e6 : E 6 = .slice l6.a l6.len l6.cap) (e7 : E 7 = .pointer p7) (e8 : E 8 = .int .i64 n8) (e20 : E 20 = .slice l20.a l20.len l20.cap) (e21 : E 21 = .int .i64 n21) (e22 : E 22 = .int .i64 n22) (h : F63_2 R J1 p3 l5 l6 p7 n8 l20 n21 n22 ds w) :
    TrL prog f63.ntmps [c63_8_0_0, c63_8_0_1, c63_8_0_2, c63_8_0_3] (F63_q5 R J1) E ds w :=
  TrL_leaf (X := F63_2 R J1 p3 l5 l6 p7 n8 l20 n21 n22 ds w) (setAll_cons e3 (setAll_cons e5 (setAll_cons e6 (setAll_cons e7 (setAll_cons e8 (setAll_cons e20 (setAll_cons e21 (setAll_cons e22 setAll_nil)))))))) (by kernel_rfl) (by kernel_rfl) h
theorem F63_3_ok (R : Rt) (p3 : Option Addr) (l5 l6 : SV) (p7 : Option Addr) (n8 : Int) (l20 : SV) (n21 n22 : Int) (ds : Ds) (w : World) (E : Env) (e3 : E 3 = .pointer p3) (e5 : E 5 = .slice l5.a l5.len l5.cap) (e6 : E 6 = .slice l6.a l6.len l6.cap) (e7 : E 7 = .pointer p7) (e8 : E 8 = .int .i64 n8) (e20 : E 20 = .slice l20.a l20.len l20.cap) (e21 : E 21 = .int .i64 n21) (e22 : E 22 = .int .i64 n22) (h : F63_3 R p3 l5 l6 p7 n8 l20 n21 n22 ds w) :
    TrL prog f63.ntmps [c63_8_0] (F63_q4 R) E ds w :=
  TrL_one (Tr_loop' (c := innerC c63_8_0) (σ := Int × Int) (enc := (fun (s : Int × Int) (E : Env) => E 8 = .int .i64 s.1 /\ E 22 = .int .i64 s.2)) (D := (fun E K => dInt .i64 (E 8) fun n8 => dInt .i64 (E 22) fun n22 => K (n8, n22))) (F := (fun (J1 : (Int × Int) -> World -> Prop) (s : Int × Int) (w : World) => F63_2 R J1 p3 l5 l6 p7 s.1 l20 n21 s.2 ds w)) (s0 := (n8, n22)) (by kernel_rfl) c63_8_0_l ⟨e8, e22⟩ (by kernel_rfl) (fun E K hD => by obtain ⟨n8, e8, hD⟩ := dInt_elim hD; obtain ⟨n22, e22, hD⟩ := dInt_elim hD; exact ⟨(n8, n22), ⟨e8, e22⟩, hD⟩)
      (fun J1 s E' w' he ha hF => by
      obtain ⟨e8', e22'⟩ := he
      exact F63_2_ok R J1 p3 l5 l6 p7 s.1 l20 n21 s.2 ds w' E' ((ha 3 (by kernel_rfl)).trans e3) ((ha 5 (by kernel_rfl)).trans e5) ((ha 6 (by kernel_rfl)).trans e6) ((ha 7 (by kernel_rfl)).trans e7) e8' ((ha 20 (by kernel_rfl)).trans e20) ((ha 21 (by kernel_rfl)).trans e21) e22' hF) h)
theorem F63_4_ok (R : Rt) (p3 : Option Addr) (l5 l6 : SV) (p7 : Option Addr) (n8 : Int) (l20 : SV) (n21 n22 : Int) (ds : Ds) (w : World) (E : Env) (e3 : E 3 = .pointer p3) (e5 : E 5 = .slice l5.a l5.len l5.cap) (e6 : E 6 = .slice l6.a l6.len l6.cap) (e7 : E 7 = .pointer p7) (e8 : E 8 = .int .i64 n8) (e20 : E 20 = .slice l20.a l20.len l20.cap) (e21 : E 21 = .int .i64 n21) (e22 : E 22 = .int .i64 n22) (h : F63_4 R p3 l5 l6 p7 n8 l20 n21 n22 ds w) :
    TrL prog f63.ntmps [c63_8, c63_9, c63_10] (F63_q1 R) E ds w :=
  TrL_head (K := (F63_k2 R)) (Tr_block' (c := innerC c63_8) (by kernel_rfl) c63_8_l (F63_3_ok R p3 l5 l6 p7 n8 l20 n21 n22 ds w E e3 e5 e6 e7 e8 e20 e21 e22 h))
    (fun E' ds' w' hD => by
      obtain ⟨l5, e5, hD⟩ := dSl_elim hD; obtain ⟨l6, e6, hD⟩ := dSl_elim hD; obtain ⟨p7, e7, hD⟩ := dPtr_elim hD; exact F63_1_ok R l5 l6 p7 ds' w' E' e5 e6 e7 hD)
theorem F63_5_ok (R : Rt) (l0 : SV) (b1_0 : Bool) (l1_1 : SV) (ds : Ds) (w : World) (E : Env) (e0 : E 0 = .slice l0.a l0.len l0.cap) (e1 : E 1 = .agg #[.bool b1_0, .slice l1_1.a l1_1.len l1_1.cap]) (h : F63_5 R l0 b1_0 l1_1 ds w) :
    TrL prog f63.ntmps [c63_0, c63_1, c63_2, c63_3, c63_4, c63_5, c63_6, c63_7, c63_8, c63_9, c63_10] (F63_q1 R) E ds w :=
  TrL_piece (pre := [c63_0, c63_1, c63_2, c63_3, c63_4, c63_5, c63_6, c63_7]) (K := (F63_k6 R)) (X := F63_5 R l0 b1_0 l1_1 ds w) (setAll_cons e0 (setAll_cons e1 setAll_nil)) (by kernel_rfl) (by kernel_rfl)
    (fun E' ds' w' hD => by
      obtain ⟨p3, e3, hD⟩ := dPtr_elim hD; obtain ⟨l5, e5, hD⟩ := dSl_elim hD; obtain ⟨l6, e6, hD⟩ := dSl_elim hD; obtain ⟨p7, e7, hD⟩ := dPtr_elim hD; obtain ⟨n8, e8, hD⟩ := dInt_elim hD; obtain ⟨l20, e20, hD⟩ := dSl_elim hD; obtain ⟨n21, e21, hD⟩ := dInt_elim hD; obtain ⟨n22, e22, hD⟩ := dInt_elim hD; exact F63_4_ok R p3 l5 l6 p7 n8 l20 n21 n22 ds' w' E' e3 e5 e6 e7 e8 e20 e21 e22 hD) h
theorem F63_calls (l0 : SV) (b1_0 : Bool) (l1_1 : SV) (w : World) (R : Rt) (h : F63_5 R l0 b1_0 l1_1 [] w) : Calls prog 63 #[.slice l0.a l0.len l0.cap, .agg #[.bool b1_0, .slice l1_1.a l1_1.len l1_1.cap]] w R :=
  calls_of_L (l := [c63_0, c63_1, c63_2, c63_3, c63_4, c63_5, c63_6, c63_7, c63_8, c63_9, c63_10]) func63 (by kernel_rfl) (by rw [ntmps63]; exact Nat.le_of_ble_eq_true (by kernel_rfl)) c63_l
    (F63_5_ok R l0 b1_0 l1_1 [] w _ rfl rfl h)
noncomputable def c131_0 := cI11 f131 0
noncomputable def c131_1 := cI11 f131 1
noncomputable def c131_2 := cI11 f131 2
def F131_q1 (R : Rt) : EQ := endQ prog f131.results.toList R
def F131_1 (R : Rt) (s0_0 : ByteArray) (n0_1 n0_2 : Int) (b0_3 : Bool) (n1_0 n1_1 : Int) (s1_2 : ByteArray) (ds : Ds) (w : World) : Prop :=
 alE (.cells #[.string s0_0, .int .i64 n0_1, .int .i64 n0_2, .bool b0_3] 23) w fun r2 w1 =>
 alE (.cells #[.int .i64 n1_0, .int .i64 n1_1, .string s1_2] 25) w1 fun r3 w2 =>
 dwE w2 fun w3 =>
 ∃ S1 : World -> Prop, S1 w3 /\
 ∃ s6 : ByteArray, (∀ w', S1 w' -> w'.cell? ((⟨r3, 0, none⟩ : Addr).add 2) = some (.string s6)) /\
 ∃ n8 : Int, (∀ w', S1 w' -> w'.cell? ((⟨r2, 0, none⟩ : Addr).add 2) = some (.int .i64 n8)) /\
 ∃ s10 : ByteArray, (∀ w', S1 w' -> w'.cell? ((⟨r3, 0, none⟩ : Addr).add 2) = some (.string s10)) /\
 Calls prog 99 #[.string (⟨#[32]⟩ : ByteArray), .int .i64 (IntKind.i64.wrap (n8 - (s10.size : Int)))] w3 fun e w4 =>
 ∃ s13 : ByteArray, e = .returned (.string s13) /\
 S1 w4 /\
 ((s6.size + s13.size : Nat) : Int) ≤ 9223372036854775807 /\
 runD prog ds w4 fun w5 =>
 R (.returned (.string (s6 ++ s13))) w5
theorem c131_l : flat (bodyOf f131) = [c131_0, c131_1, c131_2] := by kernel_rfl
theorem F131_1_ok (R : Rt) (s0_0 : ByteArray) (n0_1 n0_2 : Int) (b0_3 : Bool) (n1_0 n1_1 : Int) (s1_2 : ByteArray) (ds : Ds) (w : World) (E : Env) (e0 : E 0 = .agg #[.string s0_0, .int .i64 n0_1, .int .i64 n0_2, .bool b0_3]) (e1 : E 1 = .agg #[.int .i64 n1_0, .int .i64 n1_1, .string s1_2]) (h : F131_1 R s0_0 n0_1 n0_2 b0_3 n1_0 n1_1 s1_2 ds w) :
    TrL prog f131.ntmps [c131_0, c131_1, c131_2] (F131_q1 R) E ds w :=
  TrL_leaf (X := F131_1 R s0_0 n0_1 n0_2 b0_3 n1_0 n1_1 s1_2 ds w) (setAll_cons e0 (setAll_cons e1 setAll_nil)) (by kernel_rfl) (by kernel_rfl) h
theorem F131_calls (s0_0 : ByteArray) (n0_1 n0_2 : Int) (b0_3 : Bool) (n1_0 n1_1 : Int) (s1_2 : ByteArray) (w : World) (R : Rt) (h : F131_1 R s0_0 n0_1 n0_2 b0_3 n1_0 n1_1 s1_2 [] w) : Calls prog 131 #[.agg #[.string s0_0, .int .i64 n0_1, .int .i64 n0_2, .bool b0_3], .agg #[.int .i64 n1_0, .int .i64 n1_1, .string s1_2]] w R :=
  calls_of_L (l := [c131_0, c131_1, c131_2]) func131 (by kernel_rfl) (by rw [ntmps131]; exact Nat.le_of_ble_eq_true (by kernel_rfl)) c131_l
    (F131_1_ok R s0_0 n0_1 n0_2 b0_3 n1_0 n1_1 s1_2 [] w _ rfl rfl h)
end Go.Proofs.YtecmfdfhpldmmaaGreatDoor

/- Shallow texts of functions, printed by program, each checked by the kernel against the loaded code. No condition. -/
set_option maxRecDepth 100000
set_option linter.unusedVariables false
namespace Go.Proofs.YtecmfdfhpldmmaaGreatDoor
open Go.Sh
open Tryz
@[reducible] noncomputable def cI12 (f : Func) (i : Nat) : Code := itemAt (flat (bodyOf f)) i
noncomputable def c112_0 := cI12 f112 0
noncomputable def c112_1 := cI12 f112 1
noncomputable def c112_2 := cI12 f112 2
def F112_q1 (R : Rt) : EQ := endQ prog f112.results.toList R
def F112_1 (R : Rt) (p0 : Option Addr) (ds : Ds) (w : World) : Prop :=
 dwE w fun w1 =>
 ∃ S1 : World -> Prop, S1 w1 /\
 ptrE p0 fun a2 =>
 ∃ l6 : SV, (∀ w', S1 w' -> w'.cell? (a2.add 1) = some (.slice l6.a l6.len l6.cap)) /\
 ptrE p0 fun a3 =>
 ∃ l11 : SV, (∀ w', S1 w' -> w'.cell? (a3.add 1) = some (.slice l11.a l11.len l11.cap)) /\
 ∃ p7 : Option Addr, ∃ w4 : World, (Builtin.unsafeSliceData_ #[37] 157 #[.slice l6.a l6.len l6.cap]).run prog w1 = .ok (.pointer p7) w4 /\
 S1 w4 /\
 ∃ s13 : ByteArray, ∃ w5 : World, (Builtin.unsafeString_ #[157, 3] 9 #[.pointer p7, .int .i64 (l11.len : Int)]).run prog w4 = .ok (.string s13) w5 /\
 runD prog ds w5 fun w6 =>
 R (.returned (.string s13)) w6
theorem c112_l : flat (bodyOf f112) = [c112_0, c112_1, c112_2] := by kernel_rfl
theorem F112_1_ok (R : Rt) (p0 : Option Addr) (ds : Ds) (w : World) (E : Env) (e0 : E 0 = .pointer p0) (h : F112_1 R p0 ds w) :
    TrL prog f112.ntmps [c112_0, c112_1, c112_2] (F112_q1 R) E ds w :=
  TrL_leaf (X := F112_1 R p0 ds w) (setAll_cons e0 setAll_nil) (by kernel_rfl) (by kernel_rfl) h
theorem F112_calls (p0 : Option Addr) (w : World) (R : Rt) (h : F112_1 R p0 [] w) : Calls prog 112 #[.pointer p0] w R :=
  calls_of_L (l := [c112_0, c112_1, c112_2]) func112 (by kernel_rfl) (by rw [ntmps112]; exact Nat.le_of_ble_eq_true (by kernel_rfl)) c112_l
    (F112_1_ok R p0 [] w _ rfl h)
end Go.Proofs.YtecmfdfhpldmmaaGreatDoor

/- Shallow texts of functions, printed by program, each checked by the kernel against the loaded code. No condition. -/
set_option maxRecDepth 100000
set_option linter.unusedVariables false
namespace Go.Proofs.YtecmfdfhpldmmaaGreatDoor
open Go.Sh
open Tryz
@[reducible] noncomputable def cI13 (f : Func) (i : Nat) : Code := itemAt (flat (bodyOf f)) i
noncomputable def c12_0 := cI13 f12 0
noncomputable def c12_1 := cI13 f12 1
noncomputable def c12_2 := cI13 f12 2
noncomputable def c12_3 := cI13 f12 3
noncomputable def c12_4 := cI13 f12 4
noncomputable def c12_5 := cI13 f12 5
noncomputable def c12_6 := cI13 f12 6
def F12_q1 (R : Rt) : EQ := endQ prog f12.results.toList R
def F12_1 (R : Rt) (ds : Ds) (w : World) : Prop :=
 alE (.cells #[.string (⟨#[65]⟩ : ByteArray), .int .i64 4, .int .i64 3, .bool false] 23) w fun r9 w1 =>
 Calls prog 46 #[.string (⟨#[97, 98]⟩ : ByteArray)] w1 fun e w2 =>
 ∃ n10_0 : Int, ∃ n10_1 : Int, ∃ s10_2 : ByteArray, e = .returned (.agg #[.int .i64 n10_0, .int .i64 n10_1, .string s10_2]) /\
 alE (.cells #[.int .i64 n10_0, .int .i64 n10_1, .string s10_2] 25) w2 fun r11 w3 =>
 alE (.cells #[.bool false, .slice (some ⟨r11, 0, none⟩) 1 1] 46) w3 fun r13 w4 =>
 alE (.cells #[.int .i64 0, .slice none 0 0, .slice none 0 0] 35) w4 fun r1 w5 =>
 stA prog 35 (⟨r1, 0, none⟩ : Addr) #[.int .i64 0, .slice (some ⟨r9, 0, none⟩) 1 1, .slice (some ⟨r13, 0, none⟩) 1 1] w5 fun w6 =>
 ∃ n16_0 : Int, w6.cell? ((⟨r1, 0, none⟩ : Addr).add 0) = some (.int .i64 n16_0) /\
 ∃ l16_1 : SV, w6.cell? ((⟨r1, 0, none⟩ : Addr).add 1) = some (.slice l16_1.a l16_1.len l16_1.cap) /\
 ∃ l16_2 : SV, w6.cell? ((⟨r1, 0, none⟩ : Addr).add 2) = some (.slice l16_2.a l16_2.len l16_2.cap) /\
 Calls prog 19 #[.agg #[.int .i64 n16_0, .slice l16_1.a l16_1.len l16_1.cap, .slice l16_2.a l16_2.len l16_2.cap]] w6 fun e w7 =>
 ∃ l17_0 : SV, ∃ n17_1 : Int, e = .returned (.tuple #[.slice l17_0.a l17_0.len l17_0.cap, .int .i64 n17_1]) /\
 ∃ n21_0 : Int, w7.cell? ((⟨r1, 0, none⟩ : Addr).add 0) = some (.int .i64 n21_0) /\
 ∃ l21_1 : SV, w7.cell? ((⟨r1, 0, none⟩ : Addr).add 1) = some (.slice l21_1.a l21_1.len l21_1.cap) /\
 ∃ l21_2 : SV, w7.cell? ((⟨r1, 0, none⟩ : Addr).add 2) = some (.slice l21_2.a l21_2.len l21_2.cap) /\
 Calls prog 21 #[.agg #[.int .i64 n21_0, .slice l21_1.a l21_1.len l21_1.cap, .slice l21_2.a l21_2.len l21_2.cap], .int .i64 1] w7 fun e w8 =>
 ∃ l22_0 : SV, ∃ n22_1 : Int, e = .returned (.tuple #[.slice l22_0.a l22_0.len l22_0.cap, .int .i64 n22_1]) /\
 Calls prog 46 #[.string (⟨#[97, 98, 32]⟩ : ByteArray)] w8 fun e w9 =>
 ∃ n27_0 : Int, ∃ n27_1 : Int, ∃ s27_2 : ByteArray, e = .returned (.agg #[.int .i64 n27_0, .int .i64 n27_1, .string s27_2]) /\
 Calls prog 13 #[.agg #[.string (⟨#[65]⟩ : ByteArray), .int .i64 4, .int .i64 2, .bool false], .int .i64 0, .agg #[.int .i64 n27_0, .int .i64 n27_1, .string s27_2]] w9 fun e w10 =>
 ∃ n28_0_0 : Int, ∃ n28_0_1 : Int, ∃ s28_0_2 : ByteArray, ∃ n28_1 : Int, e = .returned (.tuple #[.agg #[.int .i64 n28_0_0, .int .i64 n28_0_1, .string s28_0_2], .int .i64 n28_1]) /\
 alE (.cells #[.int .i64 0, .int .i64 0, .string (⟨#[]⟩ : ByteArray)] 25) w10 fun r6 w11 =>
 stA prog 25 (⟨r6, 0, none⟩ : Addr) #[.int .i64 n28_0_0, .int .i64 n28_0_1, .string s28_0_2] w11 fun w12 =>
 Br (n17_1 == 0) (
 Br ((l17_0.len : Int) == 29) (
 Br (n22_1 == 0) (
 ∃ s44 : ByteArray, ∃ w13 : World, (convert 37 9 (.slice l22_0.a l22_0.len l22_0.cap)).run prog w12 = .ok (.string s44) w13 /\
 Br (s44.toList == (⟨#[32, 97, 98, 32]⟩ : ByteArray).toList) (
 Br (n28_1 == 0) (
 ∃ s53 : ByteArray, w13.cell? ((⟨r6, 0, none⟩ : Addr).add 2) = some (.string s53) /\
 runD prog ds w13 fun w14 =>
 R (.returned (.bool (s53.toList == (⟨#[97, 98]⟩ : ByteArray).toList))) w14) (
 runD prog ds w13 fun w15 =>
 R (.returned (.bool false)) w15)) (
 runD prog ds w13 fun w16 =>
 R (.returned (.bool false)) w16)) (
 runD prog ds w12 fun w17 =>
 R (.returned (.bool false)) w17)) (
 runD prog ds w12 fun w18 =>
 R (.returned (.bool false)) w18)) (
 runD prog ds w12 fun w19 =>
 R (.returned (.bool false)) w19)
theorem c12_l : flat (bodyOf f12) = [c12_0, c12_1, c12_2, c12_3, c12_4, c12_5, c12_6] := by kernel_rfl
theorem F12_1_ok (R : Rt) (ds : Ds) (w : World) (E : Env) (h : F12_1 R ds w) :
    TrL prog f12.ntmps [c12_0, c12_1, c12_2, c12_3, c12_4, c12_5, c12_6] (F12_q1 R) E ds w :=
  TrL_leaf (X := F12_1 R ds w) setAll_nil (by kernel_rfl) (by kernel_rfl) h
theorem F12_calls  (w : World) (R : Rt) (h : F12_1 R [] w) : Calls prog 12 #[] w R :=
  calls_of_L (l := [c12_0, c12_1, c12_2, c12_3, c12_4, c12_5, c12_6]) func12 (by kernel_rfl) (by rw [ntmps12]; exact Nat.le_of_ble_eq_true (by kernel_rfl)) c12_l
    (F12_1_ok R [] w _  h)
end Go.Proofs.YtecmfdfhpldmmaaGreatDoor

/- Shallow texts of functions, printed by program, each checked by the kernel against the loaded code. No condition. -/
set_option maxRecDepth 100000
set_option linter.unusedVariables false
namespace Go.Proofs.YtecmfdfhpldmmaaGreatDoor
open Go.Sh
open Tryz
end Go.Proofs.YtecmfdfhpldmmaaGreatDoor
