import Derived.Test.YtlogipcgejfnnaaGreatDoorProg
import Derived.Test.YtlogipcgejfnnaaGreatDoorShEight
/- Shallow texts of functions, printed by program, each checked by the kernel against the loaded code. No condition. -/
set_option maxRecDepth 100000
set_option linter.unusedVariables false
namespace Go.Proofs.YtlogipcgejfnnaaGreatDoor
open Go.Sh
open Tryz
@[reducible] noncomputable def cI0 (f : Func) (i : Nat) : Code := itemAt (flat (bodyOf f)) i
noncomputable def c78_0 := cI0 f78 0
noncomputable def c78_1 := cI0 f78 1
noncomputable def c78_2 := cI0 f78 2
def F78_q1 (R : Rt) : EQ := endQ prog f78.results.toList R
def F78_1 (R : Rt) (s0 s1 : ByteArray) (ds : Ds) (w : World) : Prop :=
 Br (decide ((s0.size : Int) ≥ (s1.size : Int))) (
 0 ≤ (s1.size : Int) /\ (s1.size : Int).toNat ≤ s0.size /\ 0 ≤ (s1.size : Int).toNat /\
 runD prog ds w fun w1 =>
 R (.returned (.bool ((s0.extract 0 ((s1.size : Int).toNat)).toList == s1.toList))) w1) (
 runD prog ds w fun w2 =>
 R (.returned (.bool false)) w2)
theorem c78_l : flat (bodyOf f78) = [c78_0, c78_1, c78_2] := by kernel_rfl
theorem F78_1_ok (R : Rt) (s0 s1 : ByteArray) (ds : Ds) (w : World) (E : Env) (e0 : E 0 = .string s0) (e1 : E 1 = .string s1) (h : F78_1 R s0 s1 ds w) :
    TrL prog f78.ntmps [c78_0, c78_1, c78_2] (F78_q1 R) E ds w :=
  TrL_leaf (X := F78_1 R s0 s1 ds w) (setAll_cons e0 (setAll_cons e1 setAll_nil)) (by kernel_rfl) (by kernel_rfl) h
theorem F78_calls (s0 s1 : ByteArray) (w : World) (R : Rt) (h : F78_1 R s0 s1 [] w) : Calls prog 78 #[.string s0, .string s1] w R :=
  calls_of_L (l := [c78_0, c78_1, c78_2]) func78 (by kernel_rfl) (by rw [ntmps78]; exact Nat.le_of_ble_eq_true (by kernel_rfl)) c78_l
    (F78_1_ok R s0 s1 [] w _ rfl rfl h)
noncomputable def c59_0 := cI0 f59 0
noncomputable def c59_1 := cI0 f59 1
noncomputable def c59_2 := cI0 f59 2
def F59_q1 (R : Rt) : EQ := endQ prog f59.results.toList R
def F59_1 (R : Rt) (s0 s1 : ByteArray) (ds : Ds) (w : World) : Prop :=
 Calls prog 78 #[.string s0, .string s1] w fun e w1 =>
 ∃ b7 : Bool, e = .returned (.bool b7) /\
 runD prog ds w1 fun w2 =>
 R (.returned (.bool b7)) w2
theorem c59_l : flat (bodyOf f59) = [c59_0, c59_1, c59_2] := by kernel_rfl
theorem F59_1_ok (R : Rt) (s0 s1 : ByteArray) (ds : Ds) (w : World) (E : Env) (e0 : E 0 = .string s0) (e1 : E 1 = .string s1) (h : F59_1 R s0 s1 ds w) :
    TrL prog f59.ntmps [c59_0, c59_1, c59_2] (F59_q1 R) E ds w :=
  TrL_leaf (X := F59_1 R s0 s1 ds w) (setAll_cons e0 (setAll_cons e1 setAll_nil)) (by kernel_rfl) (by kernel_rfl) h
theorem F59_calls (s0 s1 : ByteArray) (w : World) (R : Rt) (h : F59_1 R s0 s1 [] w) : Calls prog 59 #[.string s0, .string s1] w R :=
  calls_of_L (l := [c59_0, c59_1, c59_2]) func59 (by kernel_rfl) (by rw [ntmps59]; exact Nat.le_of_ble_eq_true (by kernel_rfl)) c59_l
    (F59_1_ok R s0 s1 [] w _ rfl rfl h)
noncomputable def c89_0 := cI0 f89 0
noncomputable def c89_1 := cI0 f89 1
noncomputable def c89_2 := cI0 f89 2
def F89_q1 (R : Rt) : EQ := endQ prog f89.results.toList R
def F89_1 (R : Rt) (s0 : ByteArray) (n1 : Int) (ds : Ds) (w : World) : Prop :=
 ∃ n7 : Int, ∃ w1 : World, (callFunc 101 #[.string s0, .int .u8 n1]).run prog w = .ok (.value (.int .i64 n7)) w1 /\
 runD prog ds w1 fun w2 =>
 R (.returned (.int .i64 n7)) w2
theorem c89_l : flat (bodyOf f89) = [c89_0, c89_1, c89_2] := by kernel_rfl
theorem F89_1_ok (R : Rt) (s0 : ByteArray) (n1 : Int) (ds : Ds) (w : World) (E : Env) (e0 : E 0 = .string s0) (e1 : E 1 = .int .u8 n1) (h : F89_1 R s0 n1 ds w) :
    TrL prog f89.ntmps [c89_0, c89_1, c89_2] (F89_q1 R) E ds w :=
  TrL_leaf (X := F89_1 R s0 n1 ds w) (setAll_cons e0 (setAll_cons e1 setAll_nil)) (by kernel_rfl) (by kernel_rfl) h
theorem F89_calls (s0 : ByteArray) (n1 : Int) (w : World) (R : Rt) (h : F89_1 R s0 n1 [] w) : Calls prog 89 #[.string s0, .int .u8 n1] w R :=
  calls_of_L (l := [c89_0, c89_1, c89_2]) func89 (by kernel_rfl) (by rw [ntmps89]; exact Nat.le_of_ble_eq_true (by kernel_rfl)) c89_l
    (F89_1_ok R s0 n1 [] w _ rfl rfl h)
noncomputable def c93_0 := cI0 f93 0
noncomputable def c93_1 := cI0 f93 1
noncomputable def c93_2 := cI0 f93 2
def F93_q1 (R : Rt) : EQ := endQ prog f93.results.toList R
def F93_1 (R : Rt) (s0 : ByteArray) (n1 : Int) (ds : Ds) (w : World) : Prop :=
 Calls prog 89 #[.string s0, .int .u8 n1] w fun e w1 =>
 ∃ n7 : Int, e = .returned (.int .i64 n7) /\
 runD prog ds w1 fun w2 =>
 R (.returned (.int .i64 n7)) w2
theorem c93_l : flat (bodyOf f93) = [c93_0, c93_1, c93_2] := by kernel_rfl
theorem F93_1_ok (R : Rt) (s0 : ByteArray) (n1 : Int) (ds : Ds) (w : World) (E : Env) (e0 : E 0 = .string s0) (e1 : E 1 = .int .u8 n1) (h : F93_1 R s0 n1 ds w) :
    TrL prog f93.ntmps [c93_0, c93_1, c93_2] (F93_q1 R) E ds w :=
  TrL_leaf (X := F93_1 R s0 n1 ds w) (setAll_cons e0 (setAll_cons e1 setAll_nil)) (by kernel_rfl) (by kernel_rfl) h
theorem F93_calls (s0 : ByteArray) (n1 : Int) (w : World) (R : Rt) (h : F93_1 R s0 n1 [] w) : Calls prog 93 #[.string s0, .int .u8 n1] w R :=
  calls_of_L (l := [c93_0, c93_1, c93_2]) func93 (by kernel_rfl) (by rw [ntmps93]; exact Nat.le_of_ble_eq_true (by kernel_rfl)) c93_l
    (F93_1_ok R s0 n1 [] w _ rfl rfl h)
end Go.Proofs.YtlogipcgejfnnaaGreatDoor

/- Shallow texts of functions, printed by program, each checked by the kernel against the loaded code. No condition. -/
set_option maxRecDepth 100000
set_option linter.unusedVariables false
namespace Go.Proofs.YtlogipcgejfnnaaGreatDoor
open Go.Sh
open Tryz
@[reducible] noncomputable def cI1 (f : Func) (i : Nat) : Code := itemAt (flat (bodyOf f)) i
@[reducible] noncomputable def cJ1 (c : Code) (i : Nat) : Code := itemAt (flat (innerC c)) i
noncomputable def c22_0 := cI1 f22 0
noncomputable def c22_1 := cI1 f22 1
noncomputable def c22_2 := cI1 f22 2
noncomputable def c22_3 := cI1 f22 3
noncomputable def c22_4 := cI1 f22 4
noncomputable def c22_5 := cI1 f22 5
noncomputable def c22_3_0 := cJ1 c22_3 0
noncomputable def c22_3_0_0 := cJ1 c22_3_0 0
noncomputable def c22_3_0_1 := cJ1 c22_3_0 1
noncomputable def c22_3_0_2 := cJ1 c22_3_0 2
noncomputable def c22_3_0_3 := cJ1 c22_3_0 3
noncomputable def c22_3_0_2_0 := cJ1 c22_3_0_2 0
noncomputable def c22_3_0_2_1 := cJ1 c22_3_0_2 1
noncomputable def c22_3_0_2_2 := cJ1 c22_3_0_2 2
noncomputable def c22_3_0_2_2_0 := cJ1 c22_3_0_2_2 0
noncomputable def c22_3_0_2_2_1 := cJ1 c22_3_0_2_2 1
noncomputable def c22_3_0_2_2_1t_0 := itemAt (flat (thnC c22_3_0_2_2_1)) 0
noncomputable def c22_3_0_2_2_1e_0 := itemAt (flat (elsC c22_3_0_2_2_1)) 0
noncomputable def c22_3_0_2_2_1e_1 := itemAt (flat (elsC c22_3_0_2_2_1)) 1
def F22_q1 (R : Rt) : EQ := endQ prog f22.results.toList R
def F22_1 (R : Rt) (p0 p1 : Option Addr) (ds : Ds) (w : World) : Prop :=
 ptrE p1 fun a1 =>
 ∃ c62 : Array Value, c62.size = 256 /\ (∀ i, i < 256 -> w.cell? (a1.add i) = c62[i]?) /\
 ptrE p0 fun a2 =>
 stA prog 43 a2 c62 w fun w3 =>
 runD prog ds w3 fun w4 =>
 ptrE p0 fun a5 =>
 ∃ cR0 : Array Value, cR0.size = 256 /\ (∀ i, i < 256 -> w4.cell? (a5.add i) = cR0[i]?) /\
 R (.returned (.agg cR0)) w4
def F22_k2 (R : Rt) : EP := (fun E ds w => dPtr (E 0) fun p0 => dPtr (E 1) fun p1 => F22_1 R p0 p1 ds w)
def F22_q3 (R : Rt) : EQ := (thenQ (F22_k2 R) (F22_q1 R))
def F22_q4 (R : Rt) : EQ := (blockQ 0 (F22_q3 R))
def F22_q5 (R : Rt) (J1 : (Int) -> World -> Prop) : EQ := (thenQ (fun E _ w => dInt .i64 (E 4) fun n4 => J1 n4 w) (F22_q4 R))
def F22_2 (R : Rt) (J1 : (Int) -> World -> Prop) (p0 p1 : Option Addr) (n4 : Int) (ds : Ds) (w : World) : Prop :=
 J1 (IntKind.i64.wrap (n4 + 1)) w
def F22_k6 (R : Rt) (J1 : (Int) -> World -> Prop) : EP := (fun E ds w => dPtr (E 0) fun p0 => dPtr (E 1) fun p1 => dInt .i64 (E 4) fun n4 => F22_2 R J1 p0 p1 n4 ds w)
def F22_q7 (R : Rt) (J1 : (Int) -> World -> Prop) : EQ := (thenQ (F22_k6 R J1) (F22_q5 R J1))
def F22_q8 (R : Rt) (J1 : (Int) -> World -> Prop) : EQ := (blockQ 1 (F22_q7 R J1))
def F22_q9 (R : Rt) (J1 : (Int) -> World -> Prop) : EQ := (blockQ 2 (F22_q8 R J1))
def F22_3 (R : Rt) (J1 : (Int) -> World -> Prop) (p0 p1 : Option Addr) (n2 n4 : Int) (ds : Ds) (w : World) : Prop :=
 ptrE p1 fun a6 =>
 0 ≤ n2 /\ n2 < (256 : Int) /\
 st1 (a6.add (n2.toNat * 1)) (.int .u8 3) w fun w7 =>
 F22_2 R J1 p0 p1 n4 ds w7
def F22_4 (R : Rt) (J1 : (Int) -> World -> Prop) (p0 p1 : Option Addr) (n2 n3 n4 : Int) (b18 : Bool) (ds : Ds) (w : World) : Prop :=
 Br b18 (
 ptrE p1 fun a8 =>
 0 ≤ n2 /\ n2 < (256 : Int) /\
 st1 (a8.add (n2.toNat * 1)) (.int .u8 1) w fun w9 =>
 F22_2 R J1 p0 p1 n4 ds w9) (
 Br (decide (n3 ≥ 48)) (
 Br (decide (n3 ≤ 57)) (
 ptrE p1 fun a10 =>
 0 ≤ n2 /\ n2 < (256 : Int) /\
 st1 (a10.add (n2.toNat * 1)) (.int .u8 2) w fun w11 =>
 F22_2 R J1 p0 p1 n4 ds w11) (
 Br (n3 != 10) (
 Br (decide (n3 < 32)) (
 ptrE p1 fun a12 =>
 0 ≤ n2 /\ n2 < (256 : Int) /\
 st1 (a12.add (n2.toNat * 1)) (.int .u8 4) w fun w13 =>
 F22_2 R J1 p0 p1 n4 ds w13) (
 Br (decide (n3 > 126)) (
 ptrE p1 fun a14 =>
 0 ≤ n2 /\ n2 < (256 : Int) /\
 st1 (a14.add (n2.toNat * 1)) (.int .u8 4) w fun w15 =>
 F22_2 R J1 p0 p1 n4 ds w15) (
 F22_2 R J1 p0 p1 n4 ds w))) (
 F22_2 R J1 p0 p1 n4 ds w))) (
 Br (n3 != 10) (
 Br (decide (n3 < 32)) (
 ptrE p1 fun a16 =>
 0 ≤ n2 /\ n2 < (256 : Int) /\
 st1 (a16.add (n2.toNat * 1)) (.int .u8 4) w fun w17 =>
 F22_2 R J1 p0 p1 n4 ds w17) (
 Br (decide (n3 > 126)) (
 ptrE p1 fun a18 =>
 0 ≤ n2 /\ n2 < (256 : Int) /\
 st1 (a18.add (n2.toNat * 1)) (.int .u8 4) w fun w19 =>
 F22_2 R J1 p0 p1 n4 ds w19) (
 F22_2 R J1 p0 p1 n4 ds w))) (
 F22_2 R J1 p0 p1 n4 ds w)))
def F22_k10 (R : Rt) (J1 : (Int) -> World -> Prop) : EP := (fun E ds w => dPtr (E 0) fun p0 => dPtr (E 1) fun p1 => dInt .i64 (E 2) fun n2 => dInt .u8 (E 3) fun n3 => dInt .i64 (E 4) fun n4 => dBl (E 18) fun b18 => F22_4 R J1 p0 p1 n2 n3 n4 b18 ds w)
def F22_5 (R : Rt) (J1 : (Int) -> World -> Prop) (p0 p1 : Option Addr) (n2 n3 n4 : Int) (ds : Ds) (w : World) : Prop :=
 Br (n3 == 95) (
 F22_4 R J1 p0 p1 n2 n3 n4 true ds w) (
 Br (decide (n3 ≥ 97)) (
 Br (decide (n3 ≤ 122)) (
 F22_4 R J1 p0 p1 n2 n3 n4 true ds w) (
 Br (decide (n3 ≥ 65)) (
 F22_4 R J1 p0 p1 n2 n3 n4 (decide (n3 ≤ 90)) ds w) (
 F22_4 R J1 p0 p1 n2 n3 n4 false ds w))) (
 Br (decide (n3 ≥ 65)) (
 F22_4 R J1 p0 p1 n2 n3 n4 (decide (n3 ≤ 90)) ds w) (
 F22_4 R J1 p0 p1 n2 n3 n4 false ds w)))
def F22_6 (R : Rt) (J1 : (Int) -> World -> Prop) (p0 p1 : Option Addr) (n2 n3 n4 : Int) (b9 : Bool) (ds : Ds) (w : World) : Prop :=
 Br b9 (
 F22_3 R J1 p0 p1 n2 n4 ds w) (
 F22_5 R J1 p0 p1 n2 n3 n4 ds w)
def F22_k11 (R : Rt) (J1 : (Int) -> World -> Prop) : EP := (fun E ds w => dPtr (E 0) fun p0 => dPtr (E 1) fun p1 => dInt .i64 (E 2) fun n2 => dInt .u8 (E 3) fun n3 => dInt .i64 (E 4) fun n4 => dBl (E 9) fun b9 => F22_6 R J1 p0 p1 n2 n3 n4 b9 ds w)
def F22_7 (R : Rt) (J1 : (Int) -> World -> Prop) (p0 p1 : Option Addr) (n2 n3 n4 : Int) (ds : Ds) (w : World) : Prop :=
 Br (n3 == 9) (
 F22_6 R J1 p0 p1 n2 n3 n4 true ds w) (
 F22_6 R J1 p0 p1 n2 n3 n4 (n3 == 32) ds w)
abbrev F22_8 (R : Rt) (J1 : (Int) -> World -> Prop) (p0 p1 : Option Addr) (n2 n3 n4 : Int) (ds : Ds) (w : World) : Prop := F22_7 R J1 p0 p1 n2 n3 n4 ds w
def F22_k12 (R : Rt) (J1 : (Int) -> World -> Prop) : EP := (fun E ds w => dPtr (E 0) fun p0 => dPtr (E 1) fun p1 => dInt .i64 (E 2) fun n2 => dInt .u8 (E 3) fun n3 => dInt .i64 (E 4) fun n4 => F22_8 R J1 p0 p1 n2 n3 n4 ds w)
def F22_9 (R : Rt) (J1 : (Int) -> World -> Prop) (p0 p1 : Option Addr) (n4 : Int) (ds : Ds) (w : World) : Prop :=
 F22_8 R J1 p0 p1 n4 (IntKind.u8.wrap n4) n4 ds w
abbrev F22_10 (R : Rt) (J1 : (Int) -> World -> Prop) (p0 p1 : Option Addr) (n4 : Int) (ds : Ds) (w : World) : Prop := F22_9 R J1 p0 p1 n4 ds w
def F22_k13 (R : Rt) (J1 : (Int) -> World -> Prop) : EP := (fun E ds w => dPtr (E 0) fun p0 => dPtr (E 1) fun p1 => dInt .i64 (E 4) fun n4 => F22_10 R J1 p0 p1 n4 ds w)
def F22_11 (R : Rt) (J1 : (Int) -> World -> Prop) (p0 p1 : Option Addr) (n4 : Int) (ds : Ds) (w : World) : Prop :=
 Br (decide (n4 < 256)) (
 F22_10 R J1 p0 p1 n4 ds w) (
 F22_1 R p0 p1 ds w)
def F22_12 (R : Rt) (p0 p1 : Option Addr) (n4 : Int) (ds : Ds) (w : World) : Prop :=
 loopT (fun (J1 : (Int) -> World -> Prop) (s : Int) (w : World) => F22_11 R J1 p0 p1 s ds w) n4 w
abbrev F22_13 (R : Rt) (p0 p1 : Option Addr) (n4 : Int) (ds : Ds) (w : World) : Prop := F22_12 R p0 p1 n4 ds w
def F22_k14 (R : Rt) : EP := (fun E ds w => dPtr (E 0) fun p0 => dPtr (E 1) fun p1 => dInt .i64 (E 4) fun n4 => F22_13 R p0 p1 n4 ds w)
def F22_14 (R : Rt) (ds : Ds) (w : World) : Prop :=
 alE (.cells (zc prog 43) 43) w fun r0 w20 =>
 alE (.cells (zc prog 43) 43) w20 fun r1 w21 =>
 F22_13 R (some (⟨r0, 0, none⟩ : Addr)) (some (⟨r1, 0, none⟩ : Addr)) 0 ds w21
theorem c22_l : flat (bodyOf f22) = [c22_0, c22_1, c22_2, c22_3, c22_4, c22_5] := by kernel_rfl
theorem c22_3_l : flat (innerC c22_3) = [c22_3_0] := by kernel_rfl
theorem c22_3_0_l : flat (innerC c22_3_0) = [c22_3_0_0, c22_3_0_1, c22_3_0_2, c22_3_0_3] := by kernel_rfl
theorem c22_3_0_2_l : flat (innerC c22_3_0_2) = [c22_3_0_2_0, c22_3_0_2_1, c22_3_0_2_2] := by kernel_rfl
theorem c22_3_0_2_2_l : flat (innerC c22_3_0_2_2) = [c22_3_0_2_2_0, c22_3_0_2_2_1] := by kernel_rfl
theorem c22_3_0_2_2_1t_l : flat (thnC c22_3_0_2_2_1) = [c22_3_0_2_2_1t_0] := by kernel_rfl
theorem c22_3_0_2_2_1e_l : flat (elsC c22_3_0_2_2_1) = [c22_3_0_2_2_1e_0, c22_3_0_2_2_1e_1] := by kernel_rfl
theorem F22_1_ok (R : Rt) (p0 p1 : Option Addr) (ds : Ds) (w : World) (E : Env) (e0 : E 0 = .pointer p0) (e1 : E 1 = .pointer p1) (h : F22_1 R p0 p1 ds w) :
    TrL prog f22.ntmps [c22_4, c22_5] (F22_q1 R) E ds w :=
  TrL_leaf (X := F22_1 R p0 p1 ds w) (setAll_cons e0 (setAll_cons e1 setAll_nil)) (by kernel_rfl) (by kernel_rfl) h
theorem F22_2_ok (R : Rt) (J1 : (Int) -> World -> Prop) (p0 p1 : Option Addr) (n4 : Int) (ds : Ds) (w : World) (E : Env) (e0 : E 0 = .pointer p0) (e1 : E 1 = .pointer p1) (e4 : E 4 = .int .i64 n4) (h : F22_2 R J1 p0 p1 n4 ds w) :
    TrL prog f22.ntmps [c22_3_0_3] (F22_q5 R J1) E ds w :=
  TrL_leaf (X := F22_2 R J1 p0 p1 n4 ds w) (setAll_cons e0 (setAll_cons e1 (setAll_cons e4 setAll_nil))) (by kernel_rfl) (by kernel_rfl) h
theorem F22_3_ok (R : Rt) (J1 : (Int) -> World -> Prop) (p0 p1 : Option Addr) (n2 n4 : Int) (ds : Ds) (w : World) (E : Env) (e0 : E 0 = .pointer p0) (e1 : E 1 = .pointer p1) (e2 : E 2 = .int .i64 n2) (e4 : E 4 = .int .i64 n4) (h : F22_3 R J1 p0 p1 n2 n4 ds w) :
    TrL prog f22.ntmps [c22_3_0_2_2_1t_0] (F22_q9 R J1) E ds w :=
  TrL_leaf (X := F22_3 R J1 p0 p1 n2 n4 ds w) (setAll_cons e0 (setAll_cons e1 (setAll_cons e2 (setAll_cons e4 setAll_nil)))) (by kernel_rfl) (by kernel_rfl) h
theorem F22_4_ok (R : Rt) (J1 : (Int) -> World -> Prop) (p0 p1 : Option Addr) (n2 n3 n4 : Int) (b18 : Bool) (ds : Ds) (w : World) (E : Env) (e0 : E 0 = .pointer p0) (e1 : E 1 = .pointer p1) (e2 : E 2 = .int .i64 n2) (e3 : E 3 = .int .u8 n3) (e4 : E 4 = .int .i64 n4) (e18 : E 18 = .bool b18) (h : F22_4 R J1 p0 p1 n2 n3 n4 b18 ds w) :
    TrL prog f22.ntmps [c22_3_0_2_2_1e_1] (F22_q9 R J1) E ds w :=
  TrL_leaf (X := F22_4 R J1 p0 p1 n2 n3 n4 b18 ds w) (setAll_cons e0 (setAll_cons e1 (setAll_cons e2 (setAll_cons e3 (setAll_cons e4 (setAll_cons e18 setAll_nil)))))) (by kernel_rfl) (by kernel_rfl) h
theorem F22_5_ok (R : Rt) (J1 : (Int) -> World -> Prop) (p0 p1 : Option Addr) (n2 n3 n4 : Int) (ds : Ds) (w : World) (E : Env) (e0 : E 0 = .pointer p0) (e1 : E 1 = .pointer p1) (e2 : E 2 = .int .i64 n2) (e3 : E 3 = .int .u8 n3) (e4 : E 4 = .int .i64 n4) (h : F22_5 R J1 p0 p1 n2 n3 n4 ds w) :
    TrL prog f22.ntmps [c22_3_0_2_2_1e_0, c22_3_0_2_2_1e_1] (F22_q9 R J1) E ds w :=
  TrL_piece (pre := [c22_3_0_2_2_1e_0]) (K := (F22_k10 R J1)) (X := F22_5 R J1 p0 p1 n2 n3 n4 ds w) (setAll_cons e0 (setAll_cons e1 (setAll_cons e2 (setAll_cons e3 (setAll_cons e4 setAll_nil))))) (by kernel_rfl) (by kernel_rfl)
    (fun E' ds' w' hD => by
      obtain ⟨p0, e0, hD⟩ := dPtr_elim hD; obtain ⟨p1, e1, hD⟩ := dPtr_elim hD; obtain ⟨n2, e2, hD⟩ := dInt_elim hD; obtain ⟨n3, e3, hD⟩ := dInt_elim hD; obtain ⟨n4, e4, hD⟩ := dInt_elim hD; obtain ⟨b18, e18, hD⟩ := dBl_elim hD; exact F22_4_ok R J1 p0 p1 n2 n3 n4 b18 ds' w' E' e0 e1 e2 e3 e4 e18 hD) h
theorem F22_6_ok (R : Rt) (J1 : (Int) -> World -> Prop) (p0 p1 : Option Addr) (n2 n3 n4 : Int) (b9 : Bool) (ds : Ds) (w : World) (E : Env) (e0 : E 0 = .pointer p0) (e1 : E 1 = .pointer p1) (e2 : E 2 = .int .i64 n2) (e3 : E 3 = .int .u8 n3) (e4 : E 4 = .int .i64 n4) (e9 : E 9 = .bool b9) (h : F22_6 R J1 p0 p1 n2 n3 n4 b9 ds w) :
    TrL prog f22.ntmps [c22_3_0_2_2_1] (F22_q9 R J1) E ds w :=
  TrL_one (Tr_cond' (c := .tmp 9) (x := thnC c22_3_0_2_2_1) (y := elsC c22_3_0_2_2_1) (by kernel_rfl) c22_3_0_2_2_1t_l c22_3_0_2_2_1e_l e9 (fun h => F22_3_ok R J1 p0 p1 n2 n4 ds w E e0 e1 e2 e4 h) (fun h => F22_5_ok R J1 p0 p1 n2 n3 n4 ds w E e0 e1 e2 e3 e4 h) h)
theorem F22_7_ok (R : Rt) (J1 : (Int) -> World -> Prop) (p0 p1 : Option Addr) (n2 n3 n4 : Int) (ds : Ds) (w : World) (E : Env) (e0 : E 0 = .pointer p0) (e1 : E 1 = .pointer p1) (e2 : E 2 = .int .i64 n2) (e3 : E 3 = .int .u8 n3) (e4 : E 4 = .int .i64 n4) (h : F22_7 R J1 p0 p1 n2 n3 n4 ds w) :
    TrL prog f22.ntmps [c22_3_0_2_2_0, c22_3_0_2_2_1] (F22_q9 R J1) E ds w :=
  TrL_piece (pre := [c22_3_0_2_2_0]) (K := (F22_k11 R J1)) (X := F22_7 R J1 p0 p1 n2 n3 n4 ds w) (setAll_cons e0 (setAll_cons e1 (setAll_cons e2 (setAll_cons e3 (setAll_cons e4 setAll_nil))))) (by kernel_rfl) (by kernel_rfl)
    (fun E' ds' w' hD => by
      obtain ⟨p0, e0, hD⟩ := dPtr_elim hD; obtain ⟨p1, e1, hD⟩ := dPtr_elim hD; obtain ⟨n2, e2, hD⟩ := dInt_elim hD; obtain ⟨n3, e3, hD⟩ := dInt_elim hD; obtain ⟨n4, e4, hD⟩ := dInt_elim hD; obtain ⟨b9, e9, hD⟩ := dBl_elim hD; exact F22_6_ok R J1 p0 p1 n2 n3 n4 b9 ds' w' E' e0 e1 e2 e3 e4 e9 hD) h
theorem F22_8_ok (R : Rt) (J1 : (Int) -> World -> Prop) (p0 p1 : Option Addr) (n2 n3 n4 : Int) (ds : Ds) (w : World) (E : Env) (e0 : E 0 = .pointer p0) (e1 : E 1 = .pointer p1) (e2 : E 2 = .int .i64 n2) (e3 : E 3 = .int .u8 n3) (e4 : E 4 = .int .i64 n4) (h : F22_8 R J1 p0 p1 n2 n3 n4 ds w) :
    TrL prog f22.ntmps [c22_3_0_2_2] (F22_q8 R J1) E ds w :=
  TrL_one (Tr_block' (c := innerC c22_3_0_2_2) (by kernel_rfl) c22_3_0_2_2_l (F22_7_ok R J1 p0 p1 n2 n3 n4 ds w E e0 e1 e2 e3 e4 h))
theorem F22_9_ok (R : Rt) (J1 : (Int) -> World -> Prop) (p0 p1 : Option Addr) (n4 : Int) (ds : Ds) (w : World) (E : Env) (e0 : E 0 = .pointer p0) (e1 : E 1 = .pointer p1) (e4 : E 4 = .int .i64 n4) (h : F22_9 R J1 p0 p1 n4 ds w) :
    TrL prog f22.ntmps [c22_3_0_2_0, c22_3_0_2_1, c22_3_0_2_2] (F22_q8 R J1) E ds w :=
  TrL_piece (pre := [c22_3_0_2_0, c22_3_0_2_1]) (K := (F22_k12 R J1)) (X := F22_9 R J1 p0 p1 n4 ds w) (setAll_cons e0 (setAll_cons e1 (setAll_cons e4 setAll_nil))) (by kernel_rfl) (by kernel_rfl)
    (fun E' ds' w' hD => by
      obtain ⟨p0, e0, hD⟩ := dPtr_elim hD; obtain ⟨p1, e1, hD⟩ := dPtr_elim hD; obtain ⟨n2, e2, hD⟩ := dInt_elim hD; obtain ⟨n3, e3, hD⟩ := dInt_elim hD; obtain ⟨n4, e4, hD⟩ := dInt_elim hD; exact F22_8_ok R J1 p0 p1 n2 n3 n4 ds' w' E' e0 e1 e2 e3 e4 hD) h
theorem F22_10_ok (R : Rt) (J1 : (Int) -> World -> Prop) (p0 p1 : Option Addr) (n4 : Int) (ds : Ds) (w : World) (E : Env) (e0 : E 0 = .pointer p0) (e1 : E 1 = .pointer p1) (e4 : E 4 = .int .i64 n4) (h : F22_10 R J1 p0 p1 n4 ds w) :
    TrL prog f22.ntmps [c22_3_0_2, c22_3_0_3] (F22_q5 R J1) E ds w :=
  TrL_head (K := (F22_k6 R J1)) (Tr_block' (c := innerC c22_3_0_2) (by kernel_rfl) c22_3_0_2_l (F22_9_ok R J1 p0 p1 n4 ds w E e0 e1 e4 h))
    (fun E' ds' w' hD => by
      obtain ⟨p0, e0, hD⟩ := dPtr_elim hD; obtain ⟨p1, e1, hD⟩ := dPtr_elim hD; obtain ⟨n4, e4, hD⟩ := dInt_elim hD; exact F22_2_ok R J1 p0 p1 n4 ds' w' E' e0 e1 e4 hD)
theorem F22_11_ok (R : Rt) (J1 : (Int) -> World -> Prop) (p0 p1 : Option Addr) (n4 : Int) (ds : Ds) (w : World) (E : Env) (e0 : E 0 = .pointer p0) (e1 : E 1 = .pointer p1) (e4 : E 4 = .int .i64 n4) (h : F22_11 R J1 p0 p1 n4 ds w) :
    TrL prog f22.ntmps [c22_3_0_0, c22_3_0_1, c22_3_0_2, c22_3_0_3] (F22_q5 R J1) E ds w :=
  TrL_piece (pre := [c22_3_0_0, c22_3_0_1]) (K := (F22_k13 R J1)) (X := F22_11 R J1 p0 p1 n4 ds w) (setAll_cons e0 (setAll_cons e1 (setAll_cons e4 setAll_nil))) (by kernel_rfl) (by kernel_rfl)
    (fun E' ds' w' hD => by
      obtain ⟨p0, e0, hD⟩ := dPtr_elim hD; obtain ⟨p1, e1, hD⟩ := dPtr_elim hD; obtain ⟨n4, e4, hD⟩ := dInt_elim hD; exact F22_10_ok R J1 p0 p1 n4 ds' w' E' e0 e1 e4 hD) h
theorem F22_12_ok (R : Rt) (p0 p1 : Option Addr) (n4 : Int) (ds : Ds) (w : World) (E : Env) (e0 : E 0 = .pointer p0) (e1 : E 1 = .pointer p1) (e4 : E 4 = .int .i64 n4) (h : F22_12 R p0 p1 n4 ds w) :
    TrL prog f22.ntmps [c22_3_0] (F22_q4 R) E ds w :=
  TrL_one (Tr_loop' (c := innerC c22_3_0) (σ := Int) (enc := (fun (s : Int) (E : Env) => E 4 = .int .i64 s)) (D := (fun E K => dInt .i64 (E 4) fun n4 => K n4)) (F := (fun (J1 : (Int) -> World -> Prop) (s : Int) (w : World) => F22_11 R J1 p0 p1 s ds w)) (s0 := n4) (by kernel_rfl) c22_3_0_l e4 (by kernel_rfl) (fun E K hD => by obtain ⟨n4, e4, hD⟩ := dInt_elim hD; exact ⟨n4, e4, hD⟩)
      (fun J1 s E' w' he ha hF => by
      have e4' := he
      exact F22_11_ok R J1 p0 p1 s ds w' E' ((ha 0 (by kernel_rfl)).trans e0) ((ha 1 (by kernel_rfl)).trans e1) e4' hF) h)
theorem F22_13_ok (R : Rt) (p0 p1 : Option Addr) (n4 : Int) (ds : Ds) (w : World) (E : Env) (e0 : E 0 = .pointer p0) (e1 : E 1 = .pointer p1) (e4 : E 4 = .int .i64 n4) (h : F22_13 R p0 p1 n4 ds w) :
    TrL prog f22.ntmps [c22_3, c22_4, c22_5] (F22_q1 R) E ds w :=
  TrL_head (K := (F22_k2 R)) (Tr_block' (c := innerC c22_3) (by kernel_rfl) c22_3_l (F22_12_ok R p0 p1 n4 ds w E e0 e1 e4 h))
    (fun E' ds' w' hD => by
      obtain ⟨p0, e0, hD⟩ := dPtr_elim hD; obtain ⟨p1, e1, hD⟩ := dPtr_elim hD; exact F22_1_ok R p0 p1 ds' w' E' e0 e1 hD)
theorem F22_14_ok (R : Rt) (ds : Ds) (w : World) (E : Env) (h : F22_14 R ds w) :
    TrL prog f22.ntmps [c22_0, c22_1, c22_2, c22_3, c22_4, c22_5] (F22_q1 R) E ds w :=
  TrL_piece (pre := [c22_0, c22_1, c22_2]) (K := (F22_k14 R)) (X := F22_14 R ds w) setAll_nil (by kernel_rfl) (by kernel_rfl)
    (fun E' ds' w' hD => by
      obtain ⟨p0, e0, hD⟩ := dPtr_elim hD; obtain ⟨p1, e1, hD⟩ := dPtr_elim hD; obtain ⟨n4, e4, hD⟩ := dInt_elim hD; exact F22_13_ok R p0 p1 n4 ds' w' E' e0 e1 e4 hD) h
theorem F22_calls  (w : World) (R : Rt) (h : F22_14 R [] w) : Calls prog 22 #[] w R :=
  calls_of_L (l := [c22_0, c22_1, c22_2, c22_3, c22_4, c22_5]) func22 (by kernel_rfl) (by rw [ntmps22]; exact Nat.le_of_ble_eq_true (by kernel_rfl)) c22_l
    (F22_14_ok R [] w _  h)
noncomputable def c77_0 := cI1 f77 0
noncomputable def c77_1 := cI1 f77 1
noncomputable def c77_2 := cI1 f77 2
def F77_q1 (R : Rt) : EQ := endQ prog f77.results.toList R
def F77_1 (R : Rt) (p0 : Option Addr) (n1 n2 : Int) (ds : Ds) (w : World) : Prop :=
 dwE w fun w1 =>
 ptrE p0 fun a2 =>
 ∃ s11 : ByteArray, w1.cell? a2 = some (.string s11) /\
 Br (decide (n1 < (s11.size : Int))) (
 ptrE p0 fun a3 =>
 ∃ s19 : ByteArray, w1.cell? a3 = some (.string s19) /\
 ∃ b21 : UInt8, 0 ≤ n1 /\ s19[n1.toNat]? = some b21 /\
 ptrE p0 fun a4 =>
 0 ≤ (b21.toNat : Int) /\ (b21.toNat : Int) < (256 : Int) /\
 ∃ n25 : Int, w1.cell? ((a4.add 2).add ((b21.toNat : Int).toNat * 1)) = some (.int .u8 n25) /\
 runD prog ds w1 fun w5 =>
 R (.returned (.bool (n25 == n2))) w5) (
 runD prog ds w1 fun w6 =>
 R (.returned (.bool false)) w6)
theorem c77_l : flat (bodyOf f77) = [c77_0, c77_1, c77_2] := by kernel_rfl
theorem F77_1_ok (R : Rt) (p0 : Option Addr) (n1 n2 : Int) (ds : Ds) (w : World) (E : Env) (e0 : E 0 = .pointer p0) (e1 : E 1 = .int .i64 n1) (e2 : E 2 = .int .u8 n2) (h : F77_1 R p0 n1 n2 ds w) :
    TrL prog f77.ntmps [c77_0, c77_1, c77_2] (F77_q1 R) E ds w :=
  TrL_leaf (X := F77_1 R p0 n1 n2 ds w) (setAll_cons e0 (setAll_cons e1 (setAll_cons e2 setAll_nil))) (by kernel_rfl) (by kernel_rfl) h
theorem F77_calls (p0 : Option Addr) (n1 n2 : Int) (w : World) (R : Rt) (h : F77_1 R p0 n1 n2 [] w) : Calls prog 77 #[.pointer p0, .int .i64 n1, .int .u8 n2] w R :=
  calls_of_L (l := [c77_0, c77_1, c77_2]) func77 (by kernel_rfl) (by rw [ntmps77]; exact Nat.le_of_ble_eq_true (by kernel_rfl)) c77_l
    (F77_1_ok R p0 n1 n2 [] w _ rfl rfl rfl h)
end Go.Proofs.YtlogipcgejfnnaaGreatDoor

/- Shallow texts of functions, printed by program, each checked by the kernel against the loaded code. No condition. -/
set_option maxRecDepth 100000
set_option linter.unusedVariables false
namespace Go.Proofs.YtlogipcgejfnnaaGreatDoor
open Go.Sh
open Tryz
@[reducible] noncomputable def cI2 (f : Func) (i : Nat) : Code := itemAt (flat (bodyOf f)) i
@[reducible] noncomputable def cJ2 (c : Code) (i : Nat) : Code := itemAt (flat (innerC c)) i
noncomputable def c57_0 := cI2 f57 0
noncomputable def c57_0_0 := cJ2 c57_0 0
noncomputable def c57_0_0_0 := cJ2 c57_0_0 0
noncomputable def c57_0_0_1 := cJ2 c57_0_0 1
noncomputable def c57_0_0_2 := cJ2 c57_0_0 2
def F57_q1 (R : Rt) : EQ := endQ prog f57.results.toList R
def F57_q2 (R : Rt) : EQ := (blockQ 0 (F57_q1 R))
def F57_q3 (R : Rt) (J1 : (Unit) -> World -> Prop) : EQ := (thenQ (fun E _ w => J1 () w) (F57_q2 R))
def F57_1 (R : Rt) (J1 : (Unit) -> World -> Prop) (p0 : Option Addr) (ds : Ds) (w : World) : Prop :=
 ptrE p0 fun a1 =>
 ∃ n6 : Int, w.cell? (a1.add 1) = some (.int .i64 n6) /\
 Calls prog 77 #[.pointer p0, .int .i64 n6, .int .u8 3] w fun e w2 =>
 ∃ b7 : Bool, e = .returned (.bool b7) /\
 Br b7 (
 ptrE p0 fun a3 =>
 ∃ n11 : Int, w2.cell? (a3.add 1) = some (.int .i64 n11) /\
 ptrE p0 fun a4 =>
 st1 (a4.add 1) (.int .i64 (IntKind.i64.wrap (n11 + 1))) w2 fun w5 =>
 J1 () w5) (
 runD prog ds w2 fun w6 =>
 R (.returned (.tuple #[])) w6)
def F57_2 (R : Rt) (p0 : Option Addr) (ds : Ds) (w : World) : Prop :=
 loopT (fun (J1 : (Unit) -> World -> Prop) (_ : Unit) (w : World) => F57_1 R J1 p0 ds w) () w
abbrev F57_3 (R : Rt) (p0 : Option Addr) (ds : Ds) (w : World) : Prop := F57_2 R p0 ds w
theorem c57_l : flat (bodyOf f57) = [c57_0] := by kernel_rfl
theorem c57_0_l : flat (innerC c57_0) = [c57_0_0] := by kernel_rfl
theorem c57_0_0_l : flat (innerC c57_0_0) = [c57_0_0_0, c57_0_0_1, c57_0_0_2] := by kernel_rfl
theorem F57_1_ok (R : Rt) (J1 : (Unit) -> World -> Prop) (p0 : Option Addr) (ds : Ds) (w : World) (E : Env) (e0 : E 0 = .pointer p0) (h : F57_1 R J1 p0 ds w) :
    TrL prog f57.ntmps [c57_0_0_0, c57_0_0_1, c57_0_0_2] (F57_q3 R J1) E ds w :=
  TrL_leaf (X := F57_1 R J1 p0 ds w) (setAll_cons e0 setAll_nil) (by kernel_rfl) (by kernel_rfl) h
theorem F57_2_ok (R : Rt) (p0 : Option Addr) (ds : Ds) (w : World) (E : Env) (e0 : E 0 = .pointer p0) (h : F57_2 R p0 ds w) :
    TrL prog f57.ntmps [c57_0_0] (F57_q2 R) E ds w :=
  TrL_one (Tr_loop' (c := innerC c57_0_0) (σ := Unit) (enc := (fun (_ : Unit) (_ : Env) => True)) (D := (fun E K => K ())) (F := (fun (J1 : (Unit) -> World -> Prop) (_ : Unit) (w : World) => F57_1 R J1 p0 ds w)) (s0 := ()) (by kernel_rfl) c57_0_0_l trivial (by kernel_rfl) (fun E K hD => by exact ⟨(), trivial, hD⟩)
      (fun J1 _ E' w' he ha hF => by
      skip
      exact F57_1_ok R J1 p0 ds w' E' ((ha 0 (by kernel_rfl)).trans e0) hF) h)
theorem F57_3_ok (R : Rt) (p0 : Option Addr) (ds : Ds) (w : World) (E : Env) (e0 : E 0 = .pointer p0) (h : F57_3 R p0 ds w) :
    TrL prog f57.ntmps [c57_0] (F57_q1 R) E ds w :=
  TrL_one (Tr_block' (c := innerC c57_0) (by kernel_rfl) c57_0_l (F57_2_ok R p0 ds w E e0 h))
theorem F57_calls (p0 : Option Addr) (w : World) (R : Rt) (h : F57_3 R p0 [] w) : Calls prog 57 #[.pointer p0] w R :=
  calls_of_L (l := [c57_0]) func57 (by kernel_rfl) (by rw [ntmps57]; exact Nat.le_of_ble_eq_true (by kernel_rfl)) c57_l
    (F57_3_ok R p0 [] w _ rfl h)
noncomputable def c79_0 := cI2 f79 0
noncomputable def c79_1 := cI2 f79 1
noncomputable def c79_2 := cI2 f79 2
noncomputable def c79_3 := cI2 f79 3
noncomputable def c79_4 := cI2 f79 4
noncomputable def c79_5 := cI2 f79 5
def F79_q1 (R : Rt) : EQ := endQ prog f79.results.toList R
def F79_1 (R : Rt) (p0 : Option Addr) (n1 : Int) (ds : Ds) (w : World) : Prop :=
 ptrE p0 fun a1 =>
 ∃ s9 : ByteArray, w.cell? a1 = some (.string s9) /\
 s9.size ≤ s9.size /\ 0 ≤ n1 /\ n1.toNat ≤ s9.size /\
 Calls prog 93 #[.string (s9.extract n1.toNat s9.size), .int .u8 10] w fun e w2 =>
 ∃ n12 : Int, e = .returned (.int .i64 n12) /\
 Br (decide (n12 ≥ 0)) (
 runD prog ds w2 fun w3 =>
 R (.returned (.int .i64 (IntKind.i64.wrap (n1 + n12)))) w3) (
 ptrE p0 fun a4 =>
 ∃ s21 : ByteArray, w2.cell? a4 = some (.string s21) /\
 runD prog ds w2 fun w5 =>
 R (.returned (.int .i64 (s21.size : Int))) w5)
theorem c79_l : flat (bodyOf f79) = [c79_0, c79_1, c79_2, c79_3, c79_4, c79_5] := by kernel_rfl
theorem F79_1_ok (R : Rt) (p0 : Option Addr) (n1 : Int) (ds : Ds) (w : World) (E : Env) (e0 : E 0 = .pointer p0) (e1 : E 1 = .int .i64 n1) (h : F79_1 R p0 n1 ds w) :
    TrL prog f79.ntmps [c79_0, c79_1, c79_2, c79_3, c79_4, c79_5] (F79_q1 R) E ds w :=
  TrL_leaf (X := F79_1 R p0 n1 ds w) (setAll_cons e0 (setAll_cons e1 setAll_nil)) (by kernel_rfl) (by kernel_rfl) h
theorem F79_calls (p0 : Option Addr) (n1 : Int) (w : World) (R : Rt) (h : F79_1 R p0 n1 [] w) : Calls prog 79 #[.pointer p0, .int .i64 n1] w R :=
  calls_of_L (l := [c79_0, c79_1, c79_2, c79_3, c79_4, c79_5]) func79 (by kernel_rfl) (by rw [ntmps79]; exact Nat.le_of_ble_eq_true (by kernel_rfl)) c79_l
    (F79_1_ok R p0 n1 [] w _ rfl rfl h)
noncomputable def c60_0 := cI2 f60 0
noncomputable def c60_1 := cI2 f60 1
noncomputable def c60_2 := cI2 f60 2
noncomputable def c60_3 := cI2 f60 3
noncomputable def c60_4 := cI2 f60 4
noncomputable def c60_2_0 := cJ2 c60_2 0
noncomputable def c60_2_0_0 := cJ2 c60_2_0 0
noncomputable def c60_2_0_1 := cJ2 c60_2_0 1
noncomputable def c60_2_0_2 := cJ2 c60_2_0 2
noncomputable def c60_2_0_3 := cJ2 c60_2_0 3
def F60_q1 (R : Rt) : EQ := endQ prog f60.results.toList R
def F60_1 (R : Rt) (ds : Ds) (w : World) : Prop :=
 runD prog ds w fun w1 =>
 R (.returned (.bool true)) w1
def F60_k2 (R : Rt) : EP := (fun E ds w => F60_1 R ds w)
def F60_q3 (R : Rt) : EQ := (thenQ (F60_k2 R) (F60_q1 R))
def F60_q4 (R : Rt) : EQ := (blockQ 0 (F60_q3 R))
def F60_q5 (R : Rt) (J1 : (Unit) -> World -> Prop) : EQ := (thenQ (fun E _ w => J1 () w) (F60_q4 R))
def F60_2 (R : Rt) (J1 : (Unit) -> World -> Prop) (p0 : Option Addr) (n3 : Int) (ds : Ds) (w : World) : Prop :=
 ptrE p0 fun a2 =>
 ∃ n13 : Int, w.cell? (a2.add 1) = some (.int .i64 n13) /\
 Br (decide (n13 < n3)) (
 ptrE p0 fun a3 =>
 ∃ n27 : Int, w.cell? (a3.add 1) = some (.int .i64 n27) /\
 Calls prog 77 #[.pointer p0, .int .i64 n27, .int .u8 4] w fun e w4 =>
 ∃ b28 : Bool, e = .returned (.bool b28) /\
 Br b28 (
 ptrE p0 fun a5 =>
 ∃ n33 : Int, w4.cell? (a5.add 1) = some (.int .i64 n33) /\
 ptrE p0 fun a6 =>
 st1 (a6.add 260) (.int .i64 n33) w4 fun w7 =>
 runD prog ds w7 fun w8 =>
 R (.returned (.bool false)) w8) (
 ptrE p0 fun a9 =>
 ∃ n19 : Int, w4.cell? (a9.add 1) = some (.int .i64 n19) /\
 ptrE p0 fun a10 =>
 st1 (a10.add 1) (.int .i64 (IntKind.i64.wrap (n19 + 1))) w4 fun w11 =>
 J1 () w11)) (
 F60_1 R ds w)
def F60_3 (R : Rt) (p0 : Option Addr) (n3 : Int) (ds : Ds) (w : World) : Prop :=
 loopT (fun (J1 : (Unit) -> World -> Prop) (_ : Unit) (w : World) => F60_2 R J1 p0 n3 ds w) () w
abbrev F60_4 (R : Rt) (p0 : Option Addr) (n3 : Int) (ds : Ds) (w : World) : Prop := F60_3 R p0 n3 ds w
def F60_k6 (R : Rt) : EP := (fun E ds w => dPtr (E 0) fun p0 => dInt .i64 (E 3) fun n3 => F60_4 R p0 n3 ds w)
def F60_5 (R : Rt) (p0 : Option Addr) (ds : Ds) (w : World) : Prop :=
 ptrE p0 fun a12 =>
 ∃ n8 : Int, w.cell? (a12.add 1) = some (.int .i64 n8) /\
 Calls prog 79 #[.pointer p0, .int .i64 n8] w fun e w13 =>
 ∃ n9 : Int, e = .returned (.int .i64 n9) /\
 F60_4 R p0 n9 ds w13
theorem c60_l : flat (bodyOf f60) = [c60_0, c60_1, c60_2, c60_3, c60_4] := by kernel_rfl
theorem c60_2_l : flat (innerC c60_2) = [c60_2_0] := by kernel_rfl
theorem c60_2_0_l : flat (innerC c60_2_0) = [c60_2_0_0, c60_2_0_1, c60_2_0_2, c60_2_0_3] := by kernel_rfl
theorem F60_1_ok (R : Rt) (ds : Ds) (w : World) (E : Env) (h : F60_1 R ds w) :
    TrL prog f60.ntmps [c60_3, c60_4] (F60_q1 R) E ds w :=
  TrL_leaf (X := F60_1 R ds w) setAll_nil (by kernel_rfl) (by kernel_rfl) h
theorem F60_2_ok (R : Rt) (J1 : (Unit) -> World -> Prop) (p0 : Option Addr) (n3 : Int) (ds : Ds) (w : World) (E : Env) (e0 : E 0 = .pointer p0) (e3 : E 3 = .int .i64 n3) (h : F60_2 R J1 p0 n3 ds w) :
    TrL prog f60.ntmps [c60_2_0_0, c60_2_0_1, c60_2_0_2, c60_2_0_3] (F60_q5 R J1) E ds w :=
  TrL_leaf (X := F60_2 R J1 p0 n3 ds w) (setAll_cons e0 (setAll_cons e3 setAll_nil)) (by kernel_rfl) (by kernel_rfl) h
theorem F60_3_ok (R : Rt) (p0 : Option Addr) (n3 : Int) (ds : Ds) (w : World) (E : Env) (e0 : E 0 = .pointer p0) (e3 : E 3 = .int .i64 n3) (h : F60_3 R p0 n3 ds w) :
    TrL prog f60.ntmps [c60_2_0] (F60_q4 R) E ds w :=
  TrL_one (Tr_loop' (c := innerC c60_2_0) (σ := Unit) (enc := (fun (_ : Unit) (_ : Env) => True)) (D := (fun E K => K ())) (F := (fun (J1 : (Unit) -> World -> Prop) (_ : Unit) (w : World) => F60_2 R J1 p0 n3 ds w)) (s0 := ()) (by kernel_rfl) c60_2_0_l trivial (by kernel_rfl) (fun E K hD => by exact ⟨(), trivial, hD⟩)
      (fun J1 _ E' w' he ha hF => by
      skip
      exact F60_2_ok R J1 p0 n3 ds w' E' ((ha 0 (by kernel_rfl)).trans e0) ((ha 3 (by kernel_rfl)).trans e3) hF) h)
theorem F60_4_ok (R : Rt) (p0 : Option Addr) (n3 : Int) (ds : Ds) (w : World) (E : Env) (e0 : E 0 = .pointer p0) (e3 : E 3 = .int .i64 n3) (h : F60_4 R p0 n3 ds w) :
    TrL prog f60.ntmps [c60_2, c60_3, c60_4] (F60_q1 R) E ds w :=
  TrL_head (K := (F60_k2 R)) (Tr_block' (c := innerC c60_2) (by kernel_rfl) c60_2_l (F60_3_ok R p0 n3 ds w E e0 e3 h))
    (fun E' ds' w' hD => by
      exact F60_1_ok R ds' w' E'  hD)
theorem F60_5_ok (R : Rt) (p0 : Option Addr) (ds : Ds) (w : World) (E : Env) (e0 : E 0 = .pointer p0) (h : F60_5 R p0 ds w) :
    TrL prog f60.ntmps [c60_0, c60_1, c60_2, c60_3, c60_4] (F60_q1 R) E ds w :=
  TrL_piece (pre := [c60_0, c60_1]) (K := (F60_k6 R)) (X := F60_5 R p0 ds w) (setAll_cons e0 setAll_nil) (by kernel_rfl) (by kernel_rfl)
    (fun E' ds' w' hD => by
      obtain ⟨p0, e0, hD⟩ := dPtr_elim hD; obtain ⟨n3, e3, hD⟩ := dInt_elim hD; exact F60_4_ok R p0 n3 ds' w' E' e0 e3 hD) h
theorem F60_calls (p0 : Option Addr) (w : World) (R : Rt) (h : F60_5 R p0 [] w) : Calls prog 60 #[.pointer p0] w R :=
  calls_of_L (l := [c60_0, c60_1, c60_2, c60_3, c60_4]) func60 (by kernel_rfl) (by rw [ntmps60]; exact Nat.le_of_ble_eq_true (by kernel_rfl)) c60_l
    (F60_5_ok R p0 [] w _ rfl h)
noncomputable def c61_0 := cI2 f61 0
noncomputable def c61_1 := cI2 f61 1
noncomputable def c61_2 := cI2 f61 2
noncomputable def c61_3 := cI2 f61 3
noncomputable def c61_4 := cI2 f61 4
noncomputable def c61_5 := cI2 f61 5
noncomputable def c61_6 := cI2 f61 6
noncomputable def c61_7 := cI2 f61 7
noncomputable def c61_8 := cI2 f61 8
noncomputable def c61_9 := cI2 f61 9
noncomputable def c61_10 := cI2 f61 10
noncomputable def c61_11 := cI2 f61 11
noncomputable def c61_12 := cI2 f61 12
noncomputable def c61_2_0 := cJ2 c61_2 0
noncomputable def c61_2_0_0 := cJ2 c61_2_0 0
noncomputable def c61_2_0_1 := cJ2 c61_2_0 1
noncomputable def c61_2_0_2 := cJ2 c61_2_0 2
def F61_q1 (R : Rt) : EQ := endQ prog f61.results.toList R
def F61_1 (R : Rt) (p0 : Option Addr) (ds : Ds) (w : World) : Prop :=
 dwE w fun w1 =>
 ptrE p0 fun a2 =>
 ∃ n54 : Int, w1.cell? (a2.add 1) = some (.int .i64 n54) /\
 ptrE p0 fun a3 =>
 ∃ s58 : ByteArray, w1.cell? a3 = some (.string s58) /\
 Br (decide (n54 < (s58.size : Int))) (
 ptrE p0 fun a4 =>
 ∃ n64 : Int, w1.cell? (a4.add 1) = some (.int .i64 n64) /\
 ptrE p0 fun a5 =>
 st1 (a5.add 1) (.int .i64 (IntKind.i64.wrap (n64 + 1))) w1 fun w6 =>
 runD prog ds w6 fun w7 =>
 R (.returned (.tuple #[.bool true, .bool true])) w7) (
 runD prog ds w1 fun w8 =>
 R (.returned (.tuple #[.bool true, .bool true])) w8)
def F61_k2 (R : Rt) : EP := (fun E ds w => dPtr (E 0) fun p0 => F61_1 R p0 ds w)
def F61_2 (R : Rt) (p0 : Option Addr) (n4 : Int) (ds : Ds) (w : World) : Prop :=
 ptrE p0 fun a9 =>
 ∃ s20 : ByteArray, w.cell? a9 = some (.string s20) /\
 Br (n4 == (s20.size : Int)) (
 ptrE p0 fun a10 =>
 st1 (a10.add 1) (.int .i64 n4) w fun w11 =>
 Calls prog 60 #[.pointer p0] w11 fun e w12 =>
 ∃ b49 : Bool, e = .returned (.bool b49) /\
 Br (!b49) (
 runD prog ds w12 fun w13 =>
 R (.returned (.tuple #[.bool true, .bool false])) w13) (
 F61_1 R p0 ds w12)) (
 ptrE p0 fun a14 =>
 ∃ s27 : ByteArray, w.cell? a14 = some (.string s27) /\
 ∃ b29 : UInt8, 0 ≤ n4 /\ s27[n4.toNat]? = some b29 /\
 Br (!((b29.toNat : Int) == 10)) (
 ptrE p0 fun a15 =>
 ∃ s38 : ByteArray, w.cell? a15 = some (.string s38) /\
 s38.size ≤ s38.size /\ 0 ≤ n4 /\ n4.toNat ≤ s38.size /\
 Calls prog 59 #[.string (s38.extract n4.toNat s38.size), .string (⟨#[38, 38]⟩ : ByteArray)] w fun e w16 =>
 ∃ b41 : Bool, e = .returned (.bool b41) /\
 Br (!b41) (
 runD prog ds w16 fun w17 =>
 R (.returned (.tuple #[.bool false, .bool true])) w17) (
 ptrE p0 fun a18 =>
 st1 (a18.add 1) (.int .i64 n4) w16 fun w19 =>
 Calls prog 60 #[.pointer p0] w19 fun e w20 =>
 ∃ b49 : Bool, e = .returned (.bool b49) /\
 Br (!b49) (
 runD prog ds w20 fun w21 =>
 R (.returned (.tuple #[.bool true, .bool false])) w21) (
 F61_1 R p0 ds w20))) (
 ptrE p0 fun a22 =>
 st1 (a22.add 1) (.int .i64 n4) w fun w23 =>
 Calls prog 60 #[.pointer p0] w23 fun e w24 =>
 ∃ b49 : Bool, e = .returned (.bool b49) /\
 Br (!b49) (
 runD prog ds w24 fun w25 =>
 R (.returned (.tuple #[.bool true, .bool false])) w25) (
 F61_1 R p0 ds w24)))
def F61_k3 (R : Rt) : EP := (fun E ds w => dPtr (E 0) fun p0 => dInt .i64 (E 4) fun n4 => F61_2 R p0 n4 ds w)
def F61_q4 (R : Rt) : EQ := (thenQ (F61_k3 R) (F61_q1 R))
def F61_q5 (R : Rt) : EQ := (blockQ 0 (F61_q4 R))
def F61_q6 (R : Rt) (J1 : (Int) -> World -> Prop) : EQ := (thenQ (fun E _ w => dInt .i64 (E 4) fun n4 => J1 n4 w) (F61_q5 R))
def F61_3 (R : Rt) (J1 : (Int) -> World -> Prop) (p0 : Option Addr) (n4 : Int) (ds : Ds) (w : World) : Prop :=
 Calls prog 77 #[.pointer p0, .int .i64 n4, .int .u8 3] w fun e w26 =>
 ∃ b13 : Bool, e = .returned (.bool b13) /\
 Br b13 (
 J1 (IntKind.i64.wrap (n4 + 1)) w26) (
 F61_2 R p0 n4 ds w26)
def F61_4 (R : Rt) (p0 : Option Addr) (n4 : Int) (ds : Ds) (w : World) : Prop :=
 loopT (fun (J1 : (Int) -> World -> Prop) (s : Int) (w : World) => F61_3 R J1 p0 s ds w) n4 w
abbrev F61_5 (R : Rt) (p0 : Option Addr) (n4 : Int) (ds : Ds) (w : World) : Prop := F61_4 R p0 n4 ds w
def F61_k7 (R : Rt) : EP := (fun E ds w => dPtr (E 0) fun p0 => dInt .i64 (E 4) fun n4 => F61_5 R p0 n4 ds w)
def F61_6 (R : Rt) (p0 : Option Addr) (ds : Ds) (w : World) : Prop :=
 ptrE p0 fun a27 =>
 ∃ n9 : Int, w.cell? (a27.add 1) = some (.int .i64 n9) /\
 F61_5 R p0 (IntKind.i64.wrap (n9 + 1)) ds w
theorem c61_l : flat (bodyOf f61) = [c61_0, c61_1, c61_2, c61_3, c61_4, c61_5, c61_6, c61_7, c61_8, c61_9, c61_10, c61_11, c61_12] := by kernel_rfl
theorem c61_2_l : flat (innerC c61_2) = [c61_2_0] := by kernel_rfl
theorem c61_2_0_l : flat (innerC c61_2_0) = [c61_2_0_0, c61_2_0_1, c61_2_0_2] := by kernel_rfl
theorem F61_1_ok (R : Rt) (p0 : Option Addr) (ds : Ds) (w : World) (E : Env) (e0 : E 0 = .pointer p0) (h : F61_1 R p0 ds w) :
    TrL prog f61.ntmps [c61_9, c61_10, c61_11, c61_12] (F61_q1 R) E ds w :=
  TrL_leaf (X := F61_1 R p0 ds w) (setAll_cons e0 setAll_nil) (by kernel_rfl) (by kernel_rfl) h
theorem F61_2_ok (R : Rt) (p0 : Option Addr) (n4 : Int) (ds : Ds) (w : World) (E : Env) (e0 : E 0 = .pointer p0) (e4 : E 4 = .int .i64 n4) (h : F61_2 R p0 n4 ds w) :
    TrL prog f61.ntmps [c61_3, c61_4, c61_5, c61_6, c61_7, c61_8, c61_9, c61_10, c61_11, c61_12] (F61_q1 R) E ds w :=
  TrL_piece (pre := [c61_3, c61_4, c61_5, c61_6, c61_7, c61_8]) (K := (F61_k2 R)) (X := F61_2 R p0 n4 ds w) (setAll_cons e0 (setAll_cons e4 setAll_nil)) (by kernel_rfl) (by kernel_rfl)
    (fun E' ds' w' hD => by
      obtain ⟨p0, e0, hD⟩ := dPtr_elim hD; exact F61_1_ok R p0 ds' w' E' e0 hD) h
theorem F61_3_ok (R : Rt) (J1 : (Int) -> World -> Prop) (p0 : Option Addr) (n4 : Int) (ds : Ds) (w : World) (E : Env) (e0 : E 0 = .pointer p0) (e4 : E 4 = .int .i64 n4) (h : F61_3 R J1 p0 n4 ds w) :
    TrL prog f61.ntmps [c61_2_0_0, c61_2_0_1, c61_2_0_2] (F61_q6 R J1) E ds w :=
  TrL_leaf (X := F61_3 R J1 p0 n4 ds w) (setAll_cons e0 (setAll_cons e4 setAll_nil)) (by kernel_rfl) (by kernel_rfl) h
theorem F61_4_ok (R : Rt) (p0 : Option Addr) (n4 : Int) (ds : Ds) (w : World) (E : Env) (e0 : E 0 = .pointer p0) (e4 : E 4 = .int .i64 n4) (h : F61_4 R p0 n4 ds w) :
    TrL prog f61.ntmps [c61_2_0] (F61_q5 R) E ds w :=
  TrL_one (Tr_loop' (c := innerC c61_2_0) (σ := Int) (enc := (fun (s : Int) (E : Env) => E 4 = .int .i64 s)) (D := (fun E K => dInt .i64 (E 4) fun n4 => K n4)) (F := (fun (J1 : (Int) -> World -> Prop) (s : Int) (w : World) => F61_3 R J1 p0 s ds w)) (s0 := n4) (by kernel_rfl) c61_2_0_l e4 (by kernel_rfl) (fun E K hD => by obtain ⟨n4, e4, hD⟩ := dInt_elim hD; exact ⟨n4, e4, hD⟩)
      (fun J1 s E' w' he ha hF => by
      have e4' := he
      exact F61_3_ok R J1 p0 s ds w' E' ((ha 0 (by kernel_rfl)).trans e0) e4' hF) h)
theorem F61_5_ok (R : Rt) (p0 : Option Addr) (n4 : Int) (ds : Ds) (w : World) (E : Env) (e0 : E 0 = .pointer p0) (e4 : E 4 = .int .i64 n4) (h : F61_5 R p0 n4 ds w) :
    TrL prog f61.ntmps [c61_2, c61_3, c61_4, c61_5, c61_6, c61_7, c61_8, c61_9, c61_10, c61_11, c61_12] (F61_q1 R) E ds w :=
  TrL_head (K := (F61_k3 R)) (Tr_block' (c := innerC c61_2) (by kernel_rfl) c61_2_l (F61_4_ok R p0 n4 ds w E e0 e4 h))
    (fun E' ds' w' hD => by
      obtain ⟨p0, e0, hD⟩ := dPtr_elim hD; obtain ⟨n4, e4, hD⟩ := dInt_elim hD; exact F61_2_ok R p0 n4 ds' w' E' e0 e4 hD)
theorem F61_6_ok (R : Rt) (p0 : Option Addr) (ds : Ds) (w : World) (E : Env) (e0 : E 0 = .pointer p0) (h : F61_6 R p0 ds w) :
    TrL prog f61.ntmps [c61_0, c61_1, c61_2, c61_3, c61_4, c61_5, c61_6, c61_7, c61_8, c61_9, c61_10, c61_11, c61_12] (F61_q1 R) E ds w :=
  TrL_piece (pre := [c61_0, c61_1]) (K := (F61_k7 R)) (X := F61_6 R p0 ds w) (setAll_cons e0 setAll_nil) (by kernel_rfl) (by kernel_rfl)
    (fun E' ds' w' hD => by
      obtain ⟨p0, e0, hD⟩ := dPtr_elim hD; obtain ⟨n4, e4, hD⟩ := dInt_elim hD; exact F61_5_ok R p0 n4 ds' w' E' e0 e4 hD) h
theorem F61_calls (p0 : Option Addr) (w : World) (R : Rt) (h : F61_6 R p0 [] w) : Calls prog 61 #[.pointer p0] w R :=
  calls_of_L (l := [c61_0, c61_1, c61_2, c61_3, c61_4, c61_5, c61_6, c61_7, c61_8, c61_9, c61_10, c61_11, c61_12]) func61 (by kernel_rfl) (by rw [ntmps61]; exact Nat.le_of_ble_eq_true (by kernel_rfl)) c61_l
    (F61_6_ok R p0 [] w _ rfl h)
noncomputable def c58_0 := cI2 f58 0
noncomputable def c58_1 := cI2 f58 1
noncomputable def c58_2 := cI2 f58 2
noncomputable def c58_3 := cI2 f58 3
noncomputable def c58_4 := cI2 f58 4
noncomputable def c58_5 := cI2 f58 5
noncomputable def c58_6 := cI2 f58 6
noncomputable def c58_7 := cI2 f58 7
noncomputable def c58_8 := cI2 f58 8
noncomputable def c58_9 := cI2 f58 9
def F58_q1 (R : Rt) : EQ := endQ prog f58.results.toList R
def F58_1 (R : Rt) (p0 : Option Addr) (ds : Ds) (w : World) : Prop :=
 alE (.cells #[.int .i64 0, .int .i64 0, .string (⟨#[]⟩ : ByteArray)] 49) w fun r2 w1 =>
 ptrE p0 fun a2 =>
 ∃ n10 : Int, w1.cell? (a2.add 1) = some (.int .i64 n10) /\
 alE (.cells #[.int .i64 0, .int .i64 0, .string (⟨#[]⟩ : ByteArray)] 49) w1 fun r4 w3 =>
 stA prog 49 (⟨r4, 0, none⟩ : Addr) #[.int .i64 5, .int .i64 n10, .string (⟨#[]⟩ : ByteArray)] w3 fun w4 =>
 dwE w4 fun w5 =>
 ptrE p0 fun a6 =>
 ∃ b15 : Bool, w5.cell? (a6.add 258) = some (.bool b15) /\
 ptrE p0 fun a7 =>
 ∃ n19 : Int, w5.cell? (a7.add 1) = some (.int .i64 n19) /\
 ptrE p0 fun a8 =>
 ∃ s23 : ByteArray, w5.cell? a8 = some (.string s23) /\
 ptrE p0 fun a9 =>
 st1 (a9.add 258) (.bool false) w5 fun w10 =>
 ptrE p0 fun a11 =>
 st1 (a11.add 259) (.bool false) w10 fun w12 =>
 Br (!(n19 == (s23.size : Int))) (
 ptrE p0 fun a13 =>
 ∃ n37 : Int, w12.cell? (a13.add 1) = some (.int .i64 n37) /\
 ptrE p0 fun a14 =>
 st1 (a14.add 1) (.int .i64 (IntKind.i64.wrap (n37 + 1))) w12 fun w15 =>
 Br b15 (
 ∃ n42_0 : Int, w15.cell? ((⟨r4, 0, none⟩ : Addr).add 0) = some (.int .i64 n42_0) /\
 ∃ n42_1 : Int, w15.cell? ((⟨r4, 0, none⟩ : Addr).add 1) = some (.int .i64 n42_1) /\
 ∃ s42_2 : ByteArray, w15.cell? ((⟨r4, 0, none⟩ : Addr).add 2) = some (.string s42_2) /\
 stA prog 49 (⟨r2, 0, none⟩ : Addr) #[.int .i64 n42_0, .int .i64 n42_1, .string s42_2] w15 fun w16 =>
 runD prog ds w16 fun w17 =>
 ∃ nR0_0 : Int, w17.cell? ((⟨r2, 0, none⟩ : Addr).add 0) = some (.int .i64 nR0_0) /\
 ∃ nR0_1 : Int, w17.cell? ((⟨r2, 0, none⟩ : Addr).add 1) = some (.int .i64 nR0_1) /\
 ∃ sR0_2 : ByteArray, w17.cell? ((⟨r2, 0, none⟩ : Addr).add 2) = some (.string sR0_2) /\
 R (.returned (.tuple #[.agg #[.int .i64 nR0_0, .int .i64 nR0_1, .string sR0_2], .bool true])) w17) (
 stA prog 49 (⟨r2, 0, none⟩ : Addr) #[.int .i64 0, .int .i64 0, .string (⟨#[]⟩ : ByteArray)] w15 fun w18 =>
 runD prog ds w18 fun w19 =>
 ∃ nR0_0 : Int, w19.cell? ((⟨r2, 0, none⟩ : Addr).add 0) = some (.int .i64 nR0_0) /\
 ∃ nR0_1 : Int, w19.cell? ((⟨r2, 0, none⟩ : Addr).add 1) = some (.int .i64 nR0_1) /\
 ∃ sR0_2 : ByteArray, w19.cell? ((⟨r2, 0, none⟩ : Addr).add 2) = some (.string sR0_2) /\
 R (.returned (.tuple #[.agg #[.int .i64 nR0_0, .int .i64 nR0_1, .string sR0_2], .bool (n19 == (s23.size : Int))])) w19)) (
 Br b15 (
 ∃ n42_0 : Int, w12.cell? ((⟨r4, 0, none⟩ : Addr).add 0) = some (.int .i64 n42_0) /\
 ∃ n42_1 : Int, w12.cell? ((⟨r4, 0, none⟩ : Addr).add 1) = some (.int .i64 n42_1) /\
 ∃ s42_2 : ByteArray, w12.cell? ((⟨r4, 0, none⟩ : Addr).add 2) = some (.string s42_2) /\
 stA prog 49 (⟨r2, 0, none⟩ : Addr) #[.int .i64 n42_0, .int .i64 n42_1, .string s42_2] w12 fun w20 =>
 runD prog ds w20 fun w21 =>
 ∃ nR0_0 : Int, w21.cell? ((⟨r2, 0, none⟩ : Addr).add 0) = some (.int .i64 nR0_0) /\
 ∃ nR0_1 : Int, w21.cell? ((⟨r2, 0, none⟩ : Addr).add 1) = some (.int .i64 nR0_1) /\
 ∃ sR0_2 : ByteArray, w21.cell? ((⟨r2, 0, none⟩ : Addr).add 2) = some (.string sR0_2) /\
 R (.returned (.tuple #[.agg #[.int .i64 nR0_0, .int .i64 nR0_1, .string sR0_2], .bool true])) w21) (
 stA prog 49 (⟨r2, 0, none⟩ : Addr) #[.int .i64 0, .int .i64 0, .string (⟨#[]⟩ : ByteArray)] w12 fun w22 =>
 runD prog ds w22 fun w23 =>
 ∃ nR0_0 : Int, w23.cell? ((⟨r2, 0, none⟩ : Addr).add 0) = some (.int .i64 nR0_0) /\
 ∃ nR0_1 : Int, w23.cell? ((⟨r2, 0, none⟩ : Addr).add 1) = some (.int .i64 nR0_1) /\
 ∃ sR0_2 : ByteArray, w23.cell? ((⟨r2, 0, none⟩ : Addr).add 2) = some (.string sR0_2) /\
 R (.returned (.tuple #[.agg #[.int .i64 nR0_0, .int .i64 nR0_1, .string sR0_2], .bool (n19 == (s23.size : Int))])) w23))
theorem c58_l : flat (bodyOf f58) = [c58_0, c58_1, c58_2, c58_3, c58_4, c58_5, c58_6, c58_7, c58_8, c58_9] := by kernel_rfl
theorem F58_1_ok (R : Rt) (p0 : Option Addr) (ds : Ds) (w : World) (E : Env) (e0 : E 0 = .pointer p0) (h : F58_1 R p0 ds w) :
    TrL prog f58.ntmps [c58_0, c58_1, c58_2, c58_3, c58_4, c58_5, c58_6, c58_7, c58_8, c58_9] (F58_q1 R) E ds w :=
  TrL_leaf (X := F58_1 R p0 ds w) (setAll_cons e0 setAll_nil) (by kernel_rfl) (by kernel_rfl) h
theorem F58_calls (p0 : Option Addr) (w : World) (R : Rt) (h : F58_1 R p0 [] w) : Calls prog 58 #[.pointer p0] w R :=
  calls_of_L (l := [c58_0, c58_1, c58_2, c58_3, c58_4, c58_5, c58_6, c58_7, c58_8, c58_9]) func58 (by kernel_rfl) (by rw [ntmps58]; exact Nat.le_of_ble_eq_true (by kernel_rfl)) c58_l
    (F58_1_ok R p0 [] w _ rfl h)
noncomputable def c38_0 := cI2 f38 0
noncomputable def c38_1 := cI2 f38 1
noncomputable def c38_1_0 := cJ2 c38_1 0
noncomputable def c38_1_0_0 := cJ2 c38_1_0 0
noncomputable def c38_1_0_0_0 := cJ2 c38_1_0_0 0
noncomputable def c38_1_0_0_1 := cJ2 c38_1_0_0 1
noncomputable def c38_1_0_0_1_0 := cJ2 c38_1_0_0_1 0
noncomputable def c38_1_0_0_1_1 := cJ2 c38_1_0_0_1 1
def F38_q1 (R : Rt) : EQ := endQ prog f38.results.toList R
def F38_q2 (R : Rt) : EQ := (blockQ 0 (F38_q1 R))
def F38_q3 (R : Rt) (J1 : (Unit) -> World -> Prop) : EQ := (thenQ (fun E _ w => J1 () w) (F38_q2 R))
def F38_q4 (R : Rt) (J1 : (Unit) -> World -> Prop) : EQ := (blockQ 1 (F38_q3 R J1))
def F38_q5 (R : Rt) (J1 : (Unit) -> World -> Prop) : EQ := (blockQ 2 (F38_q4 R J1))
def F38_1 (R : Rt) (J1 : (Unit) -> World -> Prop) (p0 p2 : Option Addr) (b20 : Bool) (ds : Ds) (w : World) : Prop :=
 Br b20 (
 Calls prog 58 #[.pointer p0] w fun e w1 =>
 ∃ n45_0_0 : Int, ∃ n45_0_1 : Int, ∃ s45_0_2 : ByteArray, ∃ b45_1 : Bool, e = .returned (.tuple #[.agg #[.int .i64 n45_0_0, .int .i64 n45_0_1, .string s45_0_2], .bool b45_1]) /\
 alE (.cells #[.int .i64 0, .int .i64 0, .string (⟨#[]⟩ : ByteArray)] 49) w1 fun r4 w2 =>
 stA prog 49 (⟨r4, 0, none⟩ : Addr) #[.int .i64 n45_0_0, .int .i64 n45_0_1, .string s45_0_2] w2 fun w3 =>
 Br b45_1 (
 dwE w3 fun w4 =>
 ∃ S1 : World -> Prop, S1 w4 /\
 ∃ n49_0 : Int, (∀ w', S1 w' -> w'.cell? ((⟨r4, 0, none⟩ : Addr).add 0) = some (.int .i64 n49_0)) /\
 ∃ n49_1 : Int, (∀ w', S1 w' -> w'.cell? ((⟨r4, 0, none⟩ : Addr).add 1) = some (.int .i64 n49_1)) /\
 ∃ s49_2 : ByteArray, (∀ w', S1 w' -> w'.cell? ((⟨r4, 0, none⟩ : Addr).add 2) = some (.string s49_2)) /\
 ∃ n51 : Int, (∀ w', S1 w' -> w'.cell? (⟨r4, 0, none⟩ : Addr) = some (.int .i64 n51)) /\
 ptrE p2 fun a5 =>
 stA prog 49 a5 #[.int .i64 n49_0, .int .i64 n49_1, .string s49_2] w4 fun w6 =>
 S1 w6 /\
 runD prog ds w6 fun w7 =>
 ptrE p2 fun a8 =>
 ∃ nR0_0 : Int, w7.cell? (a8.add 0) = some (.int .i64 nR0_0) /\
 ∃ nR0_1 : Int, w7.cell? (a8.add 1) = some (.int .i64 nR0_1) /\
 ∃ sR0_2 : ByteArray, w7.cell? (a8.add 2) = some (.string sR0_2) /\
 R (.returned (.tuple #[.agg #[.int .i64 nR0_0, .int .i64 nR0_1, .string sR0_2], .bool (n51 == 5)])) w7) (
 J1 () w3)) (
 dwE w fun w9 =>
 ptrE p0 fun a10 =>
 ∃ s57 : ByteArray, w9.cell? a10 = some (.string s57) /\
 ptrE p0 fun a11 =>
 ∃ n61 : Int, w9.cell? (a11.add 1) = some (.int .i64 n61) /\
 ∃ b62 : UInt8, 0 ≤ n61 /\ s57[n61.toNat]? = some b62 /\
 Br ((b62.toNat : Int) == 42) (
 ptrE p0 fun a12 =>
 ∃ b68 : Bool, w9.cell? (a12.add 259) = some (.bool b68) /\
 Br (!b68) (
 Br (!b68) (
 Calls prog 60 #[.pointer p0] w9 fun e w13 =>
 ∃ b82 : Bool, e = .returned (.bool b82) /\
 Br (!b82) (
 ptrE p2 fun a14 =>
 stA prog 49 a14 #[.int .i64 0, .int .i64 0, .string (⟨#[]⟩ : ByteArray)] w13 fun w15 =>
 runD prog ds w15 fun w16 =>
 ptrE p2 fun a17 =>
 ∃ nR0_0 : Int, w16.cell? (a17.add 0) = some (.int .i64 nR0_0) /\
 ∃ nR0_1 : Int, w16.cell? (a17.add 1) = some (.int .i64 nR0_1) /\
 ∃ sR0_2 : ByteArray, w16.cell? (a17.add 2) = some (.string sR0_2) /\
 R (.returned (.tuple #[.agg #[.int .i64 nR0_0, .int .i64 nR0_1, .string sR0_2], .bool false])) w16) (
 J1 () w13)) (
 dwE w9 fun w18 =>
 ptrE p0 fun a19 =>
 ∃ s89 : ByteArray, w18.cell? a19 = some (.string s89) /\
 ptrE p0 fun a20 =>
 ∃ n93 : Int, w18.cell? (a20.add 1) = some (.int .i64 n93) /\
 ∃ b94 : UInt8, 0 ≤ n93 /\ s89[n93.toNat]? = some b94 /\
 Br ((b94.toNat : Int) == 59) (
 Calls prog 61 #[.pointer p0] w18 fun e w21 =>
 ∃ b98_0 : Bool, ∃ b98_1 : Bool, e = .returned (.tuple #[.bool b98_0, .bool b98_1]) /\
 Br (!b98_0) (
 ptrE p0 fun a22 =>
 ∃ n107 : Int, w21.cell? (a22.add 1) = some (.int .i64 n107) /\
 ptrE p0 fun a23 =>
 st1 (a23.add 260) (.int .i64 n107) w21 fun w24 =>
 Br (!b98_0) (
 ptrE p2 fun a25 =>
 stA prog 49 a25 #[.int .i64 0, .int .i64 0, .string (⟨#[]⟩ : ByteArray)] w24 fun w26 =>
 runD prog ds w26 fun w27 =>
 ptrE p2 fun a28 =>
 ∃ nR0_0 : Int, w27.cell? (a28.add 0) = some (.int .i64 nR0_0) /\
 ∃ nR0_1 : Int, w27.cell? (a28.add 1) = some (.int .i64 nR0_1) /\
 ∃ sR0_2 : ByteArray, w27.cell? (a28.add 2) = some (.string sR0_2) /\
 R (.returned (.tuple #[.agg #[.int .i64 nR0_0, .int .i64 nR0_1, .string sR0_2], .bool false])) w27) (
 Br (!b98_1) (
 ptrE p2 fun a29 =>
 stA prog 49 a29 #[.int .i64 0, .int .i64 0, .string (⟨#[]⟩ : ByteArray)] w24 fun w30 =>
 runD prog ds w30 fun w31 =>
 ptrE p2 fun a32 =>
 ∃ nR0_0 : Int, w31.cell? (a32.add 0) = some (.int .i64 nR0_0) /\
 ∃ nR0_1 : Int, w31.cell? (a32.add 1) = some (.int .i64 nR0_1) /\
 ∃ sR0_2 : ByteArray, w31.cell? (a32.add 2) = some (.string sR0_2) /\
 R (.returned (.tuple #[.agg #[.int .i64 nR0_0, .int .i64 nR0_1, .string sR0_2], .bool false])) w31) (
 J1 () w24))) (
 Br (!b98_0) (
 ptrE p2 fun a33 =>
 stA prog 49 a33 #[.int .i64 0, .int .i64 0, .string (⟨#[]⟩ : ByteArray)] w21 fun w34 =>
 runD prog ds w34 fun w35 =>
 ptrE p2 fun a36 =>
 ∃ nR0_0 : Int, w35.cell? (a36.add 0) = some (.int .i64 nR0_0) /\
 ∃ nR0_1 : Int, w35.cell? (a36.add 1) = some (.int .i64 nR0_1) /\
 ∃ sR0_2 : ByteArray, w35.cell? (a36.add 2) = some (.string sR0_2) /\
 R (.returned (.tuple #[.agg #[.int .i64 nR0_0, .int .i64 nR0_1, .string sR0_2], .bool false])) w35) (
 Br (!b98_1) (
 ptrE p2 fun a37 =>
 stA prog 49 a37 #[.int .i64 0, .int .i64 0, .string (⟨#[]⟩ : ByteArray)] w21 fun w38 =>
 runD prog ds w38 fun w39 =>
 ptrE p2 fun a40 =>
 ∃ nR0_0 : Int, w39.cell? (a40.add 0) = some (.int .i64 nR0_0) /\
 ∃ nR0_1 : Int, w39.cell? (a40.add 1) = some (.int .i64 nR0_1) /\
 ∃ sR0_2 : ByteArray, w39.cell? (a40.add 2) = some (.string sR0_2) /\
 R (.returned (.tuple #[.agg #[.int .i64 nR0_0, .int .i64 nR0_1, .string sR0_2], .bool false])) w39) (
 J1 () w21)))) (
 ptrE p0 fun a41 =>
 st1 (a41.add 258) (.bool true) w18 fun w42 =>
 ptrE p0 fun a43 =>
 st1 (a43.add 259) (.bool true) w42 fun w44 =>
 Calls prog 62 #[.pointer p0] w44 fun e w45 =>
 ∃ n17_0_0 : Int, ∃ n17_0_1 : Int, ∃ s17_0_2 : ByteArray, ∃ b17_1 : Bool, e = .returned (.tuple #[.agg #[.int .i64 n17_0_0, .int .i64 n17_0_1, .string s17_0_2], .bool b17_1]) /\
 ptrE p2 fun a46 =>
 stA prog 49 a46 #[.int .i64 n17_0_0, .int .i64 n17_0_1, .string s17_0_2] w45 fun w47 =>
 runD prog ds w47 fun w48 =>
 ptrE p2 fun a49 =>
 ∃ nR0_0 : Int, w48.cell? (a49.add 0) = some (.int .i64 nR0_0) /\
 ∃ nR0_1 : Int, w48.cell? (a49.add 1) = some (.int .i64 nR0_1) /\
 ∃ sR0_2 : ByteArray, w48.cell? (a49.add 2) = some (.string sR0_2) /\
 R (.returned (.tuple #[.agg #[.int .i64 nR0_0, .int .i64 nR0_1, .string sR0_2], .bool b17_1])) w48))) (
 dwE w9 fun w50 =>
 ptrE p0 fun a51 =>
 ∃ s74 : ByteArray, w50.cell? a51 = some (.string s74) /\
 ptrE p0 fun a52 =>
 ∃ n78 : Int, w50.cell? (a52.add 1) = some (.int .i64 n78) /\
 s74.size ≤ s74.size /\ 0 ≤ n78 /\ n78.toNat ≤ s74.size /\
 Calls prog 59 #[.string (s74.extract n78.toNat s74.size), .string (⟨#[38, 38]⟩ : ByteArray)] w50 fun e w53 =>
 ∃ b80 : Bool, e = .returned (.bool b80) /\
 Br b80 (
 Calls prog 60 #[.pointer p0] w53 fun e w54 =>
 ∃ b82 : Bool, e = .returned (.bool b82) /\
 Br (!b82) (
 ptrE p2 fun a55 =>
 stA prog 49 a55 #[.int .i64 0, .int .i64 0, .string (⟨#[]⟩ : ByteArray)] w54 fun w56 =>
 runD prog ds w56 fun w57 =>
 ptrE p2 fun a58 =>
 ∃ nR0_0 : Int, w57.cell? (a58.add 0) = some (.int .i64 nR0_0) /\
 ∃ nR0_1 : Int, w57.cell? (a58.add 1) = some (.int .i64 nR0_1) /\
 ∃ sR0_2 : ByteArray, w57.cell? (a58.add 2) = some (.string sR0_2) /\
 R (.returned (.tuple #[.agg #[.int .i64 nR0_0, .int .i64 nR0_1, .string sR0_2], .bool false])) w57) (
 J1 () w54)) (
 dwE w53 fun w59 =>
 ptrE p0 fun a60 =>
 ∃ s89 : ByteArray, w59.cell? a60 = some (.string s89) /\
 ptrE p0 fun a61 =>
 ∃ n93 : Int, w59.cell? (a61.add 1) = some (.int .i64 n93) /\
 ∃ b94 : UInt8, 0 ≤ n93 /\ s89[n93.toNat]? = some b94 /\
 Br ((b94.toNat : Int) == 59) (
 Calls prog 61 #[.pointer p0] w59 fun e w62 =>
 ∃ b98_0 : Bool, ∃ b98_1 : Bool, e = .returned (.tuple #[.bool b98_0, .bool b98_1]) /\
 Br (!b98_0) (
 ptrE p0 fun a63 =>
 ∃ n107 : Int, w62.cell? (a63.add 1) = some (.int .i64 n107) /\
 ptrE p0 fun a64 =>
 st1 (a64.add 260) (.int .i64 n107) w62 fun w65 =>
 Br (!b98_0) (
 ptrE p2 fun a66 =>
 stA prog 49 a66 #[.int .i64 0, .int .i64 0, .string (⟨#[]⟩ : ByteArray)] w65 fun w67 =>
 runD prog ds w67 fun w68 =>
 ptrE p2 fun a69 =>
 ∃ nR0_0 : Int, w68.cell? (a69.add 0) = some (.int .i64 nR0_0) /\
 ∃ nR0_1 : Int, w68.cell? (a69.add 1) = some (.int .i64 nR0_1) /\
 ∃ sR0_2 : ByteArray, w68.cell? (a69.add 2) = some (.string sR0_2) /\
 R (.returned (.tuple #[.agg #[.int .i64 nR0_0, .int .i64 nR0_1, .string sR0_2], .bool false])) w68) (
 Br (!b98_1) (
 ptrE p2 fun a70 =>
 stA prog 49 a70 #[.int .i64 0, .int .i64 0, .string (⟨#[]⟩ : ByteArray)] w65 fun w71 =>
 runD prog ds w71 fun w72 =>
 ptrE p2 fun a73 =>
 ∃ nR0_0 : Int, w72.cell? (a73.add 0) = some (.int .i64 nR0_0) /\
 ∃ nR0_1 : Int, w72.cell? (a73.add 1) = some (.int .i64 nR0_1) /\
 ∃ sR0_2 : ByteArray, w72.cell? (a73.add 2) = some (.string sR0_2) /\
 R (.returned (.tuple #[.agg #[.int .i64 nR0_0, .int .i64 nR0_1, .string sR0_2], .bool false])) w72) (
 J1 () w65))) (
 Br (!b98_0) (
 ptrE p2 fun a74 =>
 stA prog 49 a74 #[.int .i64 0, .int .i64 0, .string (⟨#[]⟩ : ByteArray)] w62 fun w75 =>
 runD prog ds w75 fun w76 =>
 ptrE p2 fun a77 =>
 ∃ nR0_0 : Int, w76.cell? (a77.add 0) = some (.int .i64 nR0_0) /\
 ∃ nR0_1 : Int, w76.cell? (a77.add 1) = some (.int .i64 nR0_1) /\
 ∃ sR0_2 : ByteArray, w76.cell? (a77.add 2) = some (.string sR0_2) /\
 R (.returned (.tuple #[.agg #[.int .i64 nR0_0, .int .i64 nR0_1, .string sR0_2], .bool false])) w76) (
 Br (!b98_1) (
 ptrE p2 fun a78 =>
 stA prog 49 a78 #[.int .i64 0, .int .i64 0, .string (⟨#[]⟩ : ByteArray)] w62 fun w79 =>
 runD prog ds w79 fun w80 =>
 ptrE p2 fun a81 =>
 ∃ nR0_0 : Int, w80.cell? (a81.add 0) = some (.int .i64 nR0_0) /\
 ∃ nR0_1 : Int, w80.cell? (a81.add 1) = some (.int .i64 nR0_1) /\
 ∃ sR0_2 : ByteArray, w80.cell? (a81.add 2) = some (.string sR0_2) /\
 R (.returned (.tuple #[.agg #[.int .i64 nR0_0, .int .i64 nR0_1, .string sR0_2], .bool false])) w80) (
 J1 () w62)))) (
 ptrE p0 fun a82 =>
 st1 (a82.add 258) (.bool true) w59 fun w83 =>
 ptrE p0 fun a84 =>
 st1 (a84.add 259) (.bool true) w83 fun w85 =>
 Calls prog 62 #[.pointer p0] w85 fun e w86 =>
 ∃ n17_0_0 : Int, ∃ n17_0_1 : Int, ∃ s17_0_2 : ByteArray, ∃ b17_1 : Bool, e = .returned (.tuple #[.agg #[.int .i64 n17_0_0, .int .i64 n17_0_1, .string s17_0_2], .bool b17_1]) /\
 ptrE p2 fun a87 =>
 stA prog 49 a87 #[.int .i64 n17_0_0, .int .i64 n17_0_1, .string s17_0_2] w86 fun w88 =>
 runD prog ds w88 fun w89 =>
 ptrE p2 fun a90 =>
 ∃ nR0_0 : Int, w89.cell? (a90.add 0) = some (.int .i64 nR0_0) /\
 ∃ nR0_1 : Int, w89.cell? (a90.add 1) = some (.int .i64 nR0_1) /\
 ∃ sR0_2 : ByteArray, w89.cell? (a90.add 2) = some (.string sR0_2) /\
 R (.returned (.tuple #[.agg #[.int .i64 nR0_0, .int .i64 nR0_1, .string sR0_2], .bool b17_1])) w89)))) (
 dwE w9 fun w91 =>
 ptrE p0 fun a92 =>
 ∃ s74 : ByteArray, w91.cell? a92 = some (.string s74) /\
 ptrE p0 fun a93 =>
 ∃ n78 : Int, w91.cell? (a93.add 1) = some (.int .i64 n78) /\
 s74.size ≤ s74.size /\ 0 ≤ n78 /\ n78.toNat ≤ s74.size /\
 Calls prog 59 #[.string (s74.extract n78.toNat s74.size), .string (⟨#[38, 38]⟩ : ByteArray)] w91 fun e w94 =>
 ∃ b80 : Bool, e = .returned (.bool b80) /\
 Br b80 (
 Calls prog 60 #[.pointer p0] w94 fun e w95 =>
 ∃ b82 : Bool, e = .returned (.bool b82) /\
 Br (!b82) (
 ptrE p2 fun a96 =>
 stA prog 49 a96 #[.int .i64 0, .int .i64 0, .string (⟨#[]⟩ : ByteArray)] w95 fun w97 =>
 runD prog ds w97 fun w98 =>
 ptrE p2 fun a99 =>
 ∃ nR0_0 : Int, w98.cell? (a99.add 0) = some (.int .i64 nR0_0) /\
 ∃ nR0_1 : Int, w98.cell? (a99.add 1) = some (.int .i64 nR0_1) /\
 ∃ sR0_2 : ByteArray, w98.cell? (a99.add 2) = some (.string sR0_2) /\
 R (.returned (.tuple #[.agg #[.int .i64 nR0_0, .int .i64 nR0_1, .string sR0_2], .bool false])) w98) (
 J1 () w95)) (
 dwE w94 fun w100 =>
 ptrE p0 fun a101 =>
 ∃ s89 : ByteArray, w100.cell? a101 = some (.string s89) /\
 ptrE p0 fun a102 =>
 ∃ n93 : Int, w100.cell? (a102.add 1) = some (.int .i64 n93) /\
 ∃ b94 : UInt8, 0 ≤ n93 /\ s89[n93.toNat]? = some b94 /\
 Br ((b94.toNat : Int) == 59) (
 Calls prog 61 #[.pointer p0] w100 fun e w103 =>
 ∃ b98_0 : Bool, ∃ b98_1 : Bool, e = .returned (.tuple #[.bool b98_0, .bool b98_1]) /\
 Br (!b98_0) (
 ptrE p0 fun a104 =>
 ∃ n107 : Int, w103.cell? (a104.add 1) = some (.int .i64 n107) /\
 ptrE p0 fun a105 =>
 st1 (a105.add 260) (.int .i64 n107) w103 fun w106 =>
 Br (!b98_0) (
 ptrE p2 fun a107 =>
 stA prog 49 a107 #[.int .i64 0, .int .i64 0, .string (⟨#[]⟩ : ByteArray)] w106 fun w108 =>
 runD prog ds w108 fun w109 =>
 ptrE p2 fun a110 =>
 ∃ nR0_0 : Int, w109.cell? (a110.add 0) = some (.int .i64 nR0_0) /\
 ∃ nR0_1 : Int, w109.cell? (a110.add 1) = some (.int .i64 nR0_1) /\
 ∃ sR0_2 : ByteArray, w109.cell? (a110.add 2) = some (.string sR0_2) /\
 R (.returned (.tuple #[.agg #[.int .i64 nR0_0, .int .i64 nR0_1, .string sR0_2], .bool false])) w109) (
 Br (!b98_1) (
 ptrE p2 fun a111 =>
 stA prog 49 a111 #[.int .i64 0, .int .i64 0, .string (⟨#[]⟩ : ByteArray)] w106 fun w112 =>
 runD prog ds w112 fun w113 =>
 ptrE p2 fun a114 =>
 ∃ nR0_0 : Int, w113.cell? (a114.add 0) = some (.int .i64 nR0_0) /\
 ∃ nR0_1 : Int, w113.cell? (a114.add 1) = some (.int .i64 nR0_1) /\
 ∃ sR0_2 : ByteArray, w113.cell? (a114.add 2) = some (.string sR0_2) /\
 R (.returned (.tuple #[.agg #[.int .i64 nR0_0, .int .i64 nR0_1, .string sR0_2], .bool false])) w113) (
 J1 () w106))) (
 Br (!b98_0) (
 ptrE p2 fun a115 =>
 stA prog 49 a115 #[.int .i64 0, .int .i64 0, .string (⟨#[]⟩ : ByteArray)] w103 fun w116 =>
 runD prog ds w116 fun w117 =>
 ptrE p2 fun a118 =>
 ∃ nR0_0 : Int, w117.cell? (a118.add 0) = some (.int .i64 nR0_0) /\
 ∃ nR0_1 : Int, w117.cell? (a118.add 1) = some (.int .i64 nR0_1) /\
 ∃ sR0_2 : ByteArray, w117.cell? (a118.add 2) = some (.string sR0_2) /\
 R (.returned (.tuple #[.agg #[.int .i64 nR0_0, .int .i64 nR0_1, .string sR0_2], .bool false])) w117) (
 Br (!b98_1) (
 ptrE p2 fun a119 =>
 stA prog 49 a119 #[.int .i64 0, .int .i64 0, .string (⟨#[]⟩ : ByteArray)] w103 fun w120 =>
 runD prog ds w120 fun w121 =>
 ptrE p2 fun a122 =>
 ∃ nR0_0 : Int, w121.cell? (a122.add 0) = some (.int .i64 nR0_0) /\
 ∃ nR0_1 : Int, w121.cell? (a122.add 1) = some (.int .i64 nR0_1) /\
 ∃ sR0_2 : ByteArray, w121.cell? (a122.add 2) = some (.string sR0_2) /\
 R (.returned (.tuple #[.agg #[.int .i64 nR0_0, .int .i64 nR0_1, .string sR0_2], .bool false])) w121) (
 J1 () w103)))) (
 ptrE p0 fun a123 =>
 st1 (a123.add 258) (.bool true) w100 fun w124 =>
 ptrE p0 fun a125 =>
 st1 (a125.add 259) (.bool true) w124 fun w126 =>
 Calls prog 62 #[.pointer p0] w126 fun e w127 =>
 ∃ n17_0_0 : Int, ∃ n17_0_1 : Int, ∃ s17_0_2 : ByteArray, ∃ b17_1 : Bool, e = .returned (.tuple #[.agg #[.int .i64 n17_0_0, .int .i64 n17_0_1, .string s17_0_2], .bool b17_1]) /\
 ptrE p2 fun a128 =>
 stA prog 49 a128 #[.int .i64 n17_0_0, .int .i64 n17_0_1, .string s17_0_2] w127 fun w129 =>
 runD prog ds w129 fun w130 =>
 ptrE p2 fun a131 =>
 ∃ nR0_0 : Int, w130.cell? (a131.add 0) = some (.int .i64 nR0_0) /\
 ∃ nR0_1 : Int, w130.cell? (a131.add 1) = some (.int .i64 nR0_1) /\
 ∃ sR0_2 : ByteArray, w130.cell? (a131.add 2) = some (.string sR0_2) /\
 R (.returned (.tuple #[.agg #[.int .i64 nR0_0, .int .i64 nR0_1, .string sR0_2], .bool b17_1])) w130))))
def F38_k6 (R : Rt) (J1 : (Unit) -> World -> Prop) : EP := (fun E ds w => dPtr (E 0) fun p0 => dPtr (E 2) fun p2 => dBl (E 20) fun b20 => F38_1 R J1 p0 p2 b20 ds w)
def F38_2 (R : Rt) (J1 : (Unit) -> World -> Prop) (p0 p2 : Option Addr) (ds : Ds) (w : World) : Prop :=
 dwE w fun w132 =>
 ptrE p0 fun a133 =>
 ∃ n24 : Int, w132.cell? (a133.add 1) = some (.int .i64 n24) /\
 ptrE p0 fun a134 =>
 ∃ s28 : ByteArray, w132.cell? a134 = some (.string s28) /\
 Br (n24 == (s28.size : Int)) (
 F38_1 R J1 p0 p2 true ds w132) (
 ptrE p0 fun a135 =>
 ∃ s35 : ByteArray, w132.cell? a135 = some (.string s35) /\
 ptrE p0 fun a136 =>
 ∃ n39 : Int, w132.cell? (a136.add 1) = some (.int .i64 n39) /\
 ∃ b40 : UInt8, 0 ≤ n39 /\ s35[n39.toNat]? = some b40 /\
 F38_1 R J1 p0 p2 ((b40.toNat : Int) == 10) ds w132)
abbrev F38_3 (R : Rt) (J1 : (Unit) -> World -> Prop) (p0 p2 : Option Addr) (ds : Ds) (w : World) : Prop := F38_2 R J1 p0 p2 ds w
def F38_k7 (R : Rt) (J1 : (Unit) -> World -> Prop) : EP := (fun E ds w => dPtr (E 0) fun p0 => dPtr (E 2) fun p2 => F38_3 R J1 p0 p2 ds w)
def F38_4 (R : Rt) (J1 : (Unit) -> World -> Prop) (p0 p2 : Option Addr) (ds : Ds) (w : World) : Prop :=
 Calls prog 57 #[.pointer p0] w fun e w137 =>
 e = .returned (.tuple #[]) /\
 F38_3 R J1 p0 p2 ds w137
abbrev F38_5 (R : Rt) (J1 : (Unit) -> World -> Prop) (p0 p2 : Option Addr) (ds : Ds) (w : World) : Prop := F38_4 R J1 p0 p2 ds w
def F38_6 (R : Rt) (p0 p2 : Option Addr) (ds : Ds) (w : World) : Prop :=
 loopT (fun (J1 : (Unit) -> World -> Prop) (_ : Unit) (w : World) => F38_5 R J1 p0 p2 ds w) () w
abbrev F38_7 (R : Rt) (p0 p2 : Option Addr) (ds : Ds) (w : World) : Prop := F38_6 R p0 p2 ds w
def F38_k8 (R : Rt) : EP := (fun E ds w => dPtr (E 0) fun p0 => dPtr (E 2) fun p2 => F38_7 R p0 p2 ds w)
def F38_8 (R : Rt) (p0 : Option Addr) (ds : Ds) (w : World) : Prop :=
 alE (.cells #[.int .i64 0, .int .i64 0, .string (⟨#[]⟩ : ByteArray)] 49) w fun r2 w138 =>
 F38_7 R p0 (some (⟨r2, 0, none⟩ : Addr)) ds w138
theorem c38_l : flat (bodyOf f38) = [c38_0, c38_1] := by kernel_rfl
theorem c38_1_l : flat (innerC c38_1) = [c38_1_0] := by kernel_rfl
theorem c38_1_0_l : flat (innerC c38_1_0) = [c38_1_0_0] := by kernel_rfl
theorem c38_1_0_0_l : flat (innerC c38_1_0_0) = [c38_1_0_0_0, c38_1_0_0_1] := by kernel_rfl
theorem c38_1_0_0_1_l : flat (innerC c38_1_0_0_1) = [c38_1_0_0_1_0, c38_1_0_0_1_1] := by kernel_rfl
theorem F38_1_ok (R : Rt) (J1 : (Unit) -> World -> Prop) (p0 p2 : Option Addr) (b20 : Bool) (ds : Ds) (w : World) (E : Env) (e0 : E 0 = .pointer p0) (e2 : E 2 = .pointer p2) (e20 : E 20 = .bool b20) (h : F38_1 R J1 p0 p2 b20 ds w) :
    TrL prog f38.ntmps [c38_1_0_0_1_1] (F38_q5 R J1) E ds w :=
  TrL_leaf (X := F38_1 R J1 p0 p2 b20 ds w) (setAll_cons e0 (setAll_cons e2 (setAll_cons e20 setAll_nil))) (by kernel_rfl) (by kernel_rfl) h
theorem F38_2_ok (R : Rt) (J1 : (Unit) -> World -> Prop) (p0 p2 : Option Addr) (ds : Ds) (w : World) (E : Env) (e0 : E 0 = .pointer p0) (e2 : E 2 = .pointer p2) (h : F38_2 R J1 p0 p2 ds w) :
    TrL prog f38.ntmps [c38_1_0_0_1_0, c38_1_0_0_1_1] (F38_q5 R J1) E ds w :=
  TrL_piece (pre := [c38_1_0_0_1_0]) (K := (F38_k6 R J1)) (X := F38_2 R J1 p0 p2 ds w) (setAll_cons e0 (setAll_cons e2 setAll_nil)) (by kernel_rfl) (by kernel_rfl)
    (fun E' ds' w' hD => by
      obtain ⟨p0, e0, hD⟩ := dPtr_elim hD; obtain ⟨p2, e2, hD⟩ := dPtr_elim hD; obtain ⟨b20, e20, hD⟩ := dBl_elim hD; exact F38_1_ok R J1 p0 p2 b20 ds' w' E' e0 e2 e20 hD) h
theorem F38_3_ok (R : Rt) (J1 : (Unit) -> World -> Prop) (p0 p2 : Option Addr) (ds : Ds) (w : World) (E : Env) (e0 : E 0 = .pointer p0) (e2 : E 2 = .pointer p2) (h : F38_3 R J1 p0 p2 ds w) :
    TrL prog f38.ntmps [c38_1_0_0_1] (F38_q4 R J1) E ds w :=
  TrL_one (Tr_block' (c := innerC c38_1_0_0_1) (by kernel_rfl) c38_1_0_0_1_l (F38_2_ok R J1 p0 p2 ds w E e0 e2 h))
theorem F38_4_ok (R : Rt) (J1 : (Unit) -> World -> Prop) (p0 p2 : Option Addr) (ds : Ds) (w : World) (E : Env) (e0 : E 0 = .pointer p0) (e2 : E 2 = .pointer p2) (h : F38_4 R J1 p0 p2 ds w) :
    TrL prog f38.ntmps [c38_1_0_0_0, c38_1_0_0_1] (F38_q4 R J1) E ds w :=
  TrL_piece (pre := [c38_1_0_0_0]) (K := (F38_k7 R J1)) (X := F38_4 R J1 p0 p2 ds w) (setAll_cons e0 (setAll_cons e2 setAll_nil)) (by kernel_rfl) (by kernel_rfl)
    (fun E' ds' w' hD => by
      obtain ⟨p0, e0, hD⟩ := dPtr_elim hD; obtain ⟨p2, e2, hD⟩ := dPtr_elim hD; exact F38_3_ok R J1 p0 p2 ds' w' E' e0 e2 hD) h
theorem F38_5_ok (R : Rt) (J1 : (Unit) -> World -> Prop) (p0 p2 : Option Addr) (ds : Ds) (w : World) (E : Env) (e0 : E 0 = .pointer p0) (e2 : E 2 = .pointer p2) (h : F38_5 R J1 p0 p2 ds w) :
    TrL prog f38.ntmps [c38_1_0_0] (F38_q3 R J1) E ds w :=
  TrL_one (Tr_block' (c := innerC c38_1_0_0) (by kernel_rfl) c38_1_0_0_l (F38_4_ok R J1 p0 p2 ds w E e0 e2 h))
theorem F38_6_ok (R : Rt) (p0 p2 : Option Addr) (ds : Ds) (w : World) (E : Env) (e0 : E 0 = .pointer p0) (e2 : E 2 = .pointer p2) (h : F38_6 R p0 p2 ds w) :
    TrL prog f38.ntmps [c38_1_0] (F38_q2 R) E ds w :=
  TrL_one (Tr_loop' (c := innerC c38_1_0) (σ := Unit) (enc := (fun (_ : Unit) (_ : Env) => True)) (D := (fun E K => K ())) (F := (fun (J1 : (Unit) -> World -> Prop) (_ : Unit) (w : World) => F38_5 R J1 p0 p2 ds w)) (s0 := ()) (by kernel_rfl) c38_1_0_l trivial (by kernel_rfl) (fun E K hD => by exact ⟨(), trivial, hD⟩)
      (fun J1 _ E' w' he ha hF => by
      skip
      exact F38_5_ok R J1 p0 p2 ds w' E' ((ha 0 (by kernel_rfl)).trans e0) ((ha 2 (by kernel_rfl)).trans e2) hF) h)
theorem F38_7_ok (R : Rt) (p0 p2 : Option Addr) (ds : Ds) (w : World) (E : Env) (e0 : E 0 = .pointer p0) (e2 : E 2 = .pointer p2) (h : F38_7 R p0 p2 ds w) :
    TrL prog f38.ntmps [c38_1] (F38_q1 R) E ds w :=
  TrL_one (Tr_block' (c := innerC c38_1) (by kernel_rfl) c38_1_l (F38_6_ok R p0 p2 ds w E e0 e2 h))
theorem F38_8_ok (R : Rt) (p0 : Option Addr) (ds : Ds) (w : World) (E : Env) (e0 : E 0 = .pointer p0) (h : F38_8 R p0 ds w) :
    TrL prog f38.ntmps [c38_0, c38_1] (F38_q1 R) E ds w :=
  TrL_piece (pre := [c38_0]) (K := (F38_k8 R)) (X := F38_8 R p0 ds w) (setAll_cons e0 setAll_nil) (by kernel_rfl) (by kernel_rfl)
    (fun E' ds' w' hD => by
      obtain ⟨p0, e0, hD⟩ := dPtr_elim hD; obtain ⟨p2, e2, hD⟩ := dPtr_elim hD; exact F38_7_ok R p0 p2 ds' w' E' e0 e2 hD) h
theorem F38_calls (p0 : Option Addr) (w : World) (R : Rt) (h : F38_8 R p0 [] w) : Calls prog 38 #[.pointer p0] w R :=
  calls_of_L (l := [c38_0, c38_1]) func38 (by kernel_rfl) (by rw [ntmps38]; exact Nat.le_of_ble_eq_true (by kernel_rfl)) c38_l
    (F38_8_ok R p0 [] w _ rfl h)
end Go.Proofs.YtlogipcgejfnnaaGreatDoor

/- Shallow texts of functions, printed by program, each checked by the kernel against the loaded code. No condition. -/
set_option maxRecDepth 100000
set_option linter.unusedVariables false
namespace Go.Proofs.YtlogipcgejfnnaaGreatDoor
open Go.Sh
open Tryz
@[reducible] noncomputable def cI3 (f : Func) (i : Nat) : Code := itemAt (flat (bodyOf f)) i
@[reducible] noncomputable def cJ3 (c : Code) (i : Nat) : Code := itemAt (flat (innerC c)) i
noncomputable def c62_0 := cI3 f62 0
noncomputable def c62_1 := cI3 f62 1
noncomputable def c62_2 := cI3 f62 2
noncomputable def c62_3 := cI3 f62 3
noncomputable def c62_4 := cI3 f62 4
noncomputable def c62_5 := cI3 f62 5
noncomputable def c62_6 := cI3 f62 6
noncomputable def c62_7 := cI3 f62 7
noncomputable def c62_8 := cI3 f62 8
noncomputable def c62_3_0 := cJ3 c62_3 0
noncomputable def c62_3_1 := cJ3 c62_3 1
noncomputable def c62_3_1t_0 := itemAt (flat (thnC c62_3_1)) 0
noncomputable def c62_3_1t_1 := itemAt (flat (thnC c62_3_1)) 1
noncomputable def c62_3_1t_2 := itemAt (flat (thnC c62_3_1)) 2
noncomputable def c62_3_1t_3 := itemAt (flat (thnC c62_3_1)) 3
noncomputable def c62_3_1e_0 := itemAt (flat (elsC c62_3_1)) 0
noncomputable def c62_3_1e_1 := itemAt (flat (elsC c62_3_1)) 1
noncomputable def c62_3_1t_0_0 := cJ3 c62_3_1t_0 0
noncomputable def c62_3_1t_0_0_0 := cJ3 c62_3_1t_0_0 0
noncomputable def c62_3_1t_0_0_1 := cJ3 c62_3_1t_0_0 1
noncomputable def c62_3_1t_0_0_2 := cJ3 c62_3_1t_0_0 2
noncomputable def c62_3_1e_1t_0 := itemAt (flat (thnC c62_3_1e_1)) 0
noncomputable def c62_3_1e_1t_1 := itemAt (flat (thnC c62_3_1e_1)) 1
noncomputable def c62_3_1e_1t_2 := itemAt (flat (thnC c62_3_1e_1)) 2
noncomputable def c62_3_1e_1t_3 := itemAt (flat (thnC c62_3_1e_1)) 3
noncomputable def c62_3_1e_1e_0 := itemAt (flat (elsC c62_3_1e_1)) 0
noncomputable def c62_3_1e_1e_1 := itemAt (flat (elsC c62_3_1e_1)) 1
noncomputable def c62_3_1e_1t_0_0 := cJ3 c62_3_1e_1t_0 0
noncomputable def c62_3_1e_1t_0_0_0 := cJ3 c62_3_1e_1t_0_0 0
noncomputable def c62_3_1e_1t_0_0_1 := cJ3 c62_3_1e_1t_0_0 1
noncomputable def c62_3_1e_1t_0_0_2 := cJ3 c62_3_1e_1t_0_0 2
def F62_q1 (R : Rt) : EQ := endQ prog f62.results.toList R
def F62_1 (R : Rt) (p0 p2 : Option Addr) (n4 : Int) (p5 : Option Addr) (ds : Ds) (w : World) : Prop :=
 Calls prog 83 #[.pointer p0] w fun e w1 =>
 ∃ s114_0 : ByteArray, ∃ n114_1 : Int, ∃ b114_2 : Bool, e = .returned (.tuple #[.string s114_0, .int .i64 n114_1, .bool b114_2]) /\
 Br b114_2 (
 ptrE p0 fun a2 =>
 ∃ n122 : Int, w1.cell? (a2.add 1) = some (.int .i64 n122) /\
 ptrE p0 fun a3 =>
 st1 (a3.add 1) (.int .i64 (IntKind.i64.wrap (n122 + n114_1))) w1 fun w4 =>
 ptrE p2 fun a5 =>
 stA prog 49 a5 #[.int .i64 3, .int .i64 n4, .string s114_0] w4 fun w6 =>
 runD prog ds w6 fun w7 =>
 ptrE p2 fun a8 =>
 ∃ nR0_0 : Int, w7.cell? (a8.add 0) = some (.int .i64 nR0_0) /\
 ∃ nR0_1 : Int, w7.cell? (a8.add 1) = some (.int .i64 nR0_1) /\
 ∃ sR0_2 : ByteArray, w7.cell? (a8.add 2) = some (.string sR0_2) /\
 R (.returned (.tuple #[.agg #[.int .i64 nR0_0, .int .i64 nR0_1, .string sR0_2], .bool true])) w7) (
 ptrE p5 fun a9 =>
 ∃ n131_0 : Int, w1.cell? (a9.add 0) = some (.int .i64 n131_0) /\
 ∃ n131_1 : Int, w1.cell? (a9.add 1) = some (.int .i64 n131_1) /\
 ∃ s131_2 : ByteArray, w1.cell? (a9.add 2) = some (.string s131_2) /\
 Calls prog 84 #[.pointer p0, .agg #[.int .i64 n131_0, .int .i64 n131_1, .string s131_2]] w1 fun e w10 =>
 ∃ n132_0_0 : Int, ∃ n132_0_1 : Int, ∃ s132_0_2 : ByteArray, ∃ b132_1 : Bool, e = .returned (.tuple #[.agg #[.int .i64 n132_0_0, .int .i64 n132_0_1, .string s132_0_2], .bool b132_1]) /\
 ptrE p2 fun a11 =>
 stA prog 49 a11 #[.int .i64 n132_0_0, .int .i64 n132_0_1, .string s132_0_2] w10 fun w12 =>
 runD prog ds w12 fun w13 =>
 ptrE p2 fun a14 =>
 ∃ nR0_0 : Int, w13.cell? (a14.add 0) = some (.int .i64 nR0_0) /\
 ∃ nR0_1 : Int, w13.cell? (a14.add 1) = some (.int .i64 nR0_1) /\
 ∃ sR0_2 : ByteArray, w13.cell? (a14.add 2) = some (.string sR0_2) /\
 R (.returned (.tuple #[.agg #[.int .i64 nR0_0, .int .i64 nR0_1, .string sR0_2], .bool b132_1])) w13)
def F62_k2 (R : Rt) : EP := (fun E ds w => dPtr (E 0) fun p0 => dPtr (E 2) fun p2 => dInt .i64 (E 4) fun n4 => dPtr (E 5) fun p5 => F62_1 R p0 p2 n4 p5 ds w)
def F62_q3 (R : Rt) : EQ := (thenQ (F62_k2 R) (F62_q1 R))
def F62_q4 (R : Rt) : EQ := (blockQ 0 (F62_q3 R))
def F62_2 (R : Rt) (p0 p2 : Option Addr) (n4 : Int) (p5 : Option Addr) (ds : Ds) (w : World) : Prop :=
 dwE w fun w15 =>
 ptrE p0 fun a16 =>
 ∃ s43 : ByteArray, w15.cell? a16 = some (.string s43) /\
 ptrE p0 fun a17 =>
 ∃ n48 : Int, w15.cell? (a17.add 1) = some (.int .i64 n48) /\
 0 ≤ n48 /\ n48.toNat ≤ s43.size /\ 0 ≤ n4 /\ n4.toNat ≤ n48.toNat /\
 ptrE p5 fun a18 =>
 Calls prog 80 #[.string (s43.extract n4.toNat n48.toNat)] w15 fun e w19 =>
 ∃ s50 : ByteArray, e = .returned (.string s50) /\
 st1 a18 (.int .i64 0) w19 fun w20 =>
 ptrE p5 fun a21 =>
 st1 (a21.add 2) (.string s50) w20 fun w22 =>
 dwE w22 fun w23 =>
 ∃ S2 : World -> Prop, S2 w23 /\
 ptrE p5 fun a24 =>
 ∃ n53_0 : Int, (∀ w', S2 w' -> w'.cell? (a24.add 0) = some (.int .i64 n53_0)) /\
 ∃ n53_1 : Int, (∀ w', S2 w' -> w'.cell? (a24.add 1) = some (.int .i64 n53_1)) /\
 ∃ s53_2 : ByteArray, (∀ w', S2 w' -> w'.cell? (a24.add 2) = some (.string s53_2)) /\
 ptrE p5 fun a25 =>
 ∃ n55_0 : Int, (∀ w', S2 w' -> w'.cell? (a25.add 0) = some (.int .i64 n55_0)) /\
 ∃ n55_1 : Int, (∀ w', S2 w' -> w'.cell? (a25.add 1) = some (.int .i64 n55_1)) /\
 ∃ s55_2 : ByteArray, (∀ w', S2 w' -> w'.cell? (a25.add 2) = some (.string s55_2)) /\
 Calls prog 81 #[.pointer p0, .agg #[.int .i64 n55_0, .int .i64 n55_1, .string s55_2], .int .i64 24] w23 fun e w26 =>
 ∃ b56 : Bool, e = .returned (.bool b56) /\
 S2 w26 /\
 ptrE p2 fun a27 =>
 stA prog 49 a27 #[.int .i64 n53_0, .int .i64 n53_1, .string s53_2] w26 fun w28 =>
 runD prog ds w28 fun w29 =>
 ptrE p2 fun a30 =>
 ∃ nR0_0 : Int, w29.cell? (a30.add 0) = some (.int .i64 nR0_0) /\
 ∃ nR0_1 : Int, w29.cell? (a30.add 1) = some (.int .i64 nR0_1) /\
 ∃ sR0_2 : ByteArray, w29.cell? (a30.add 2) = some (.string sR0_2) /\
 R (.returned (.tuple #[.agg #[.int .i64 nR0_0, .int .i64 nR0_1, .string sR0_2], .bool b56])) w29
def F62_k5 (R : Rt) : EP := (fun E ds w => dPtr (E 0) fun p0 => dPtr (E 2) fun p2 => dInt .i64 (E 4) fun n4 => dPtr (E 5) fun p5 => F62_2 R p0 p2 n4 p5 ds w)
def F62_q6 (R : Rt) : EQ := (thenQ (F62_k5 R) (F62_q4 R))
def F62_q7 (R : Rt) : EQ := (blockQ 1 (F62_q6 R))
def F62_q8 (R : Rt) (J1 : (Unit) -> World -> Prop) : EQ := (thenQ (fun E _ w => J1 () w) (F62_q7 R))
def F62_3 (R : Rt) (J1 : (Unit) -> World -> Prop) (p0 p2 : Option Addr) (n4 : Int) (p5 : Option Addr) (ds : Ds) (w : World) : Prop :=
 ptrE p0 fun a31 =>
 ∃ n23 : Int, w.cell? (a31.add 1) = some (.int .i64 n23) /\
 Calls prog 77 #[.pointer p0, .int .i64 n23, .int .u8 1] w fun e w32 =>
 ∃ b24 : Bool, e = .returned (.bool b24) /\
 Br b24 (
 ptrE p0 fun a33 =>
 ∃ n36 : Int, w32.cell? (a33.add 1) = some (.int .i64 n36) /\
 ptrE p0 fun a34 =>
 st1 (a34.add 1) (.int .i64 (IntKind.i64.wrap (n36 + 1))) w32 fun w35 =>
 J1 () w35) (
 ptrE p0 fun a36 =>
 ∃ n30 : Int, w32.cell? (a36.add 1) = some (.int .i64 n30) /\
 Calls prog 77 #[.pointer p0, .int .i64 n30, .int .u8 2] w32 fun e w37 =>
 ∃ b31 : Bool, e = .returned (.bool b31) /\
 Br b31 (
 ptrE p0 fun a38 =>
 ∃ n36 : Int, w37.cell? (a38.add 1) = some (.int .i64 n36) /\
 ptrE p0 fun a39 =>
 st1 (a39.add 1) (.int .i64 (IntKind.i64.wrap (n36 + 1))) w37 fun w40 =>
 J1 () w40) (
 F62_2 R p0 p2 n4 p5 ds w37))
def F62_4 (R : Rt) (p0 p2 : Option Addr) (n4 : Int) (p5 : Option Addr) (ds : Ds) (w : World) : Prop :=
 loopT (fun (J1 : (Unit) -> World -> Prop) (_ : Unit) (w : World) => F62_3 R J1 p0 p2 n4 p5 ds w) () w
abbrev F62_5 (R : Rt) (p0 p2 : Option Addr) (n4 : Int) (p5 : Option Addr) (ds : Ds) (w : World) : Prop := F62_4 R p0 p2 n4 p5 ds w
def F62_6 (R : Rt) (p0 p2 : Option Addr) (n4 : Int) (p5 : Option Addr) (ds : Ds) (w : World) : Prop :=
 dwE w fun w41 =>
 ∃ S3 : World -> Prop, S3 w41 /\
 ptrE p0 fun a42 =>
 ∃ s77 : ByteArray, (∀ w', S3 w' -> w'.cell? a42 = some (.string s77)) /\
 ptrE p0 fun a43 =>
 ∃ n82 : Int, (∀ w', S3 w' -> w'.cell? (a43.add 1) = some (.int .i64 n82)) /\
 0 ≤ n82 /\ n82.toNat ≤ s77.size /\ 0 ≤ n4 /\ n4.toNat ≤ n82.toNat /\
 ptrE p5 fun a44 =>
 st1 a44 (.int .i64 1) w41 fun w45 =>
 S3 w45 /\
 ptrE p5 fun a46 =>
 st1 (a46.add 2) (.string (s77.extract n4.toNat n82.toNat)) w45 fun w47 =>
 dwE w47 fun w48 =>
 ∃ S4 : World -> Prop, S4 w48 /\
 ptrE p5 fun a49 =>
 ∃ n86_0 : Int, (∀ w', S4 w' -> w'.cell? (a49.add 0) = some (.int .i64 n86_0)) /\
 ∃ n86_1 : Int, (∀ w', S4 w' -> w'.cell? (a49.add 1) = some (.int .i64 n86_1)) /\
 ∃ s86_2 : ByteArray, (∀ w', S4 w' -> w'.cell? (a49.add 2) = some (.string s86_2)) /\
 ptrE p5 fun a50 =>
 ∃ n88_0 : Int, (∀ w', S4 w' -> w'.cell? (a50.add 0) = some (.int .i64 n88_0)) /\
 ∃ n88_1 : Int, (∀ w', S4 w' -> w'.cell? (a50.add 1) = some (.int .i64 n88_1)) /\
 ∃ s88_2 : ByteArray, (∀ w', S4 w' -> w'.cell? (a50.add 2) = some (.string s88_2)) /\
 Calls prog 81 #[.pointer p0, .agg #[.int .i64 n88_0, .int .i64 n88_1, .string s88_2], .int .i64 15] w48 fun e w51 =>
 ∃ b89 : Bool, e = .returned (.bool b89) /\
 S4 w51 /\
 ptrE p2 fun a52 =>
 stA prog 49 a52 #[.int .i64 n86_0, .int .i64 n86_1, .string s86_2] w51 fun w53 =>
 runD prog ds w53 fun w54 =>
 ptrE p2 fun a55 =>
 ∃ nR0_0 : Int, w54.cell? (a55.add 0) = some (.int .i64 nR0_0) /\
 ∃ nR0_1 : Int, w54.cell? (a55.add 1) = some (.int .i64 nR0_1) /\
 ∃ sR0_2 : ByteArray, w54.cell? (a55.add 2) = some (.string sR0_2) /\
 R (.returned (.tuple #[.agg #[.int .i64 nR0_0, .int .i64 nR0_1, .string sR0_2], .bool b89])) w54
def F62_k9 (R : Rt) : EP := (fun E ds w => dPtr (E 0) fun p0 => dPtr (E 2) fun p2 => dInt .i64 (E 4) fun n4 => dPtr (E 5) fun p5 => F62_6 R p0 p2 n4 p5 ds w)
def F62_q10 (R : Rt) : EQ := (thenQ (F62_k9 R) (F62_q4 R))
def F62_q11 (R : Rt) : EQ := (blockQ 3 (F62_q10 R))
def F62_q12 (R : Rt) (J1 : (Unit) -> World -> Prop) : EQ := (thenQ (fun E _ w => J1 () w) (F62_q11 R))
def F62_7 (R : Rt) (J1 : (Unit) -> World -> Prop) (p0 p2 : Option Addr) (n4 : Int) (p5 : Option Addr) (ds : Ds) (w : World) : Prop :=
 ptrE p0 fun a56 =>
 ∃ n65 : Int, w.cell? (a56.add 1) = some (.int .i64 n65) /\
 Calls prog 77 #[.pointer p0, .int .i64 n65, .int .u8 2] w fun e w57 =>
 ∃ b66 : Bool, e = .returned (.bool b66) /\
 Br b66 (
 ptrE p0 fun a58 =>
 ∃ n70 : Int, w57.cell? (a58.add 1) = some (.int .i64 n70) /\
 ptrE p0 fun a59 =>
 st1 (a59.add 1) (.int .i64 (IntKind.i64.wrap (n70 + 1))) w57 fun w60 =>
 J1 () w60) (
 F62_6 R p0 p2 n4 p5 ds w57)
def F62_8 (R : Rt) (p0 p2 : Option Addr) (n4 : Int) (p5 : Option Addr) (ds : Ds) (w : World) : Prop :=
 loopT (fun (J1 : (Unit) -> World -> Prop) (_ : Unit) (w : World) => F62_7 R J1 p0 p2 n4 p5 ds w) () w
abbrev F62_9 (R : Rt) (p0 p2 : Option Addr) (n4 : Int) (p5 : Option Addr) (ds : Ds) (w : World) : Prop := F62_8 R p0 p2 n4 p5 ds w
def F62_10 (R : Rt) (p0 p2 : Option Addr) (n4 : Int) (p5 : Option Addr) (ds : Ds) (w : World) : Prop :=
 ptrE p0 fun a61 =>
 ∃ s94 : ByteArray, w.cell? a61 = some (.string s94) /\
 ∃ b96 : UInt8, 0 ≤ n4 /\ s94[n4.toNat]? = some b96 /\
 Br ((b96.toNat : Int) == 34) (
 ptrE p5 fun a62 =>
 ∃ n108_0 : Int, w.cell? (a62.add 0) = some (.int .i64 n108_0) /\
 ∃ n108_1 : Int, w.cell? (a62.add 1) = some (.int .i64 n108_1) /\
 ∃ s108_2 : ByteArray, w.cell? (a62.add 2) = some (.string s108_2) /\
 Calls prog 82 #[.pointer p0, .agg #[.int .i64 n108_0, .int .i64 n108_1, .string s108_2]] w fun e w63 =>
 ∃ n109_0_0 : Int, ∃ n109_0_1 : Int, ∃ s109_0_2 : ByteArray, ∃ b109_1 : Bool, e = .returned (.tuple #[.agg #[.int .i64 n109_0_0, .int .i64 n109_0_1, .string s109_0_2], .bool b109_1]) /\
 ptrE p2 fun a64 =>
 stA prog 49 a64 #[.int .i64 n109_0_0, .int .i64 n109_0_1, .string s109_0_2] w63 fun w65 =>
 runD prog ds w65 fun w66 =>
 ptrE p2 fun a67 =>
 ∃ nR0_0 : Int, w66.cell? (a67.add 0) = some (.int .i64 nR0_0) /\
 ∃ nR0_1 : Int, w66.cell? (a67.add 1) = some (.int .i64 nR0_1) /\
 ∃ sR0_2 : ByteArray, w66.cell? (a67.add 2) = some (.string sR0_2) /\
 R (.returned (.tuple #[.agg #[.int .i64 nR0_0, .int .i64 nR0_1, .string sR0_2], .bool b109_1])) w66) (
 ptrE p0 fun a68 =>
 ∃ s102 : ByteArray, w.cell? a68 = some (.string s102) /\
 ∃ b104 : UInt8, 0 ≤ n4 /\ s102[n4.toNat]? = some b104 /\
 Br ((b104.toNat : Int) == 39) (
 ptrE p5 fun a69 =>
 ∃ n108_0 : Int, w.cell? (a69.add 0) = some (.int .i64 n108_0) /\
 ∃ n108_1 : Int, w.cell? (a69.add 1) = some (.int .i64 n108_1) /\
 ∃ s108_2 : ByteArray, w.cell? (a69.add 2) = some (.string s108_2) /\
 Calls prog 82 #[.pointer p0, .agg #[.int .i64 n108_0, .int .i64 n108_1, .string s108_2]] w fun e w70 =>
 ∃ n109_0_0 : Int, ∃ n109_0_1 : Int, ∃ s109_0_2 : ByteArray, ∃ b109_1 : Bool, e = .returned (.tuple #[.agg #[.int .i64 n109_0_0, .int .i64 n109_0_1, .string s109_0_2], .bool b109_1]) /\
 ptrE p2 fun a71 =>
 stA prog 49 a71 #[.int .i64 n109_0_0, .int .i64 n109_0_1, .string s109_0_2] w70 fun w72 =>
 runD prog ds w72 fun w73 =>
 ptrE p2 fun a74 =>
 ∃ nR0_0 : Int, w73.cell? (a74.add 0) = some (.int .i64 nR0_0) /\
 ∃ nR0_1 : Int, w73.cell? (a74.add 1) = some (.int .i64 nR0_1) /\
 ∃ sR0_2 : ByteArray, w73.cell? (a74.add 2) = some (.string sR0_2) /\
 R (.returned (.tuple #[.agg #[.int .i64 nR0_0, .int .i64 nR0_1, .string sR0_2], .bool b109_1])) w73) (
 F62_1 R p0 p2 n4 p5 ds w))
def F62_11 (R : Rt) (p0 p2 : Option Addr) (n4 : Int) (p5 : Option Addr) (b57 : Bool) (ds : Ds) (w : World) : Prop :=
 Br b57 (
 F62_9 R p0 p2 n4 p5 ds w) (
 F62_10 R p0 p2 n4 p5 ds w)
def F62_k13 (R : Rt) : EP := (fun E ds w => dPtr (E 0) fun p0 => dPtr (E 2) fun p2 => dInt .i64 (E 4) fun n4 => dPtr (E 5) fun p5 => dBl (E 57) fun b57 => F62_11 R p0 p2 n4 p5 b57 ds w)
def F62_12 (R : Rt) (p0 p2 : Option Addr) (n4 : Int) (p5 : Option Addr) (ds : Ds) (w : World) : Prop :=
 Calls prog 77 #[.pointer p0, .int .i64 n4, .int .u8 2] w fun e w75 =>
 ∃ b60 : Bool, e = .returned (.bool b60) /\
 F62_11 R p0 p2 n4 p5 b60 ds w75
def F62_13 (R : Rt) (p0 p2 : Option Addr) (n4 : Int) (p5 : Option Addr) (b15 : Bool) (ds : Ds) (w : World) : Prop :=
 Br b15 (
 F62_5 R p0 p2 n4 p5 ds w) (
 F62_12 R p0 p2 n4 p5 ds w)
def F62_k14 (R : Rt) : EP := (fun E ds w => dPtr (E 0) fun p0 => dPtr (E 2) fun p2 => dInt .i64 (E 4) fun n4 => dPtr (E 5) fun p5 => dBl (E 15) fun b15 => F62_13 R p0 p2 n4 p5 b15 ds w)
def F62_14 (R : Rt) (p0 p2 : Option Addr) (n4 : Int) (p5 : Option Addr) (ds : Ds) (w : World) : Prop :=
 Calls prog 77 #[.pointer p0, .int .i64 n4, .int .u8 1] w fun e w76 =>
 ∃ b18 : Bool, e = .returned (.bool b18) /\
 F62_13 R p0 p2 n4 p5 b18 ds w76
abbrev F62_15 (R : Rt) (p0 p2 : Option Addr) (n4 : Int) (p5 : Option Addr) (ds : Ds) (w : World) : Prop := F62_14 R p0 p2 n4 p5 ds w
def F62_k15 (R : Rt) : EP := (fun E ds w => dPtr (E 0) fun p0 => dPtr (E 2) fun p2 => dInt .i64 (E 4) fun n4 => dPtr (E 5) fun p5 => F62_15 R p0 p2 n4 p5 ds w)
def F62_16 (R : Rt) (p0 : Option Addr) (ds : Ds) (w : World) : Prop :=
 alE (.cells #[.int .i64 0, .int .i64 0, .string (⟨#[]⟩ : ByteArray)] 49) w fun r2 w77 =>
 ptrE p0 fun a78 =>
 ∃ n12 : Int, w77.cell? (a78.add 1) = some (.int .i64 n12) /\
 alE (.cells #[.int .i64 0, .int .i64 0, .string (⟨#[]⟩ : ByteArray)] 49) w77 fun r5 w79 =>
 stA prog 49 (⟨r5, 0, none⟩ : Addr) #[.int .i64 0, .int .i64 n12, .string (⟨#[]⟩ : ByteArray)] w79 fun w80 =>
 F62_15 R p0 (some (⟨r2, 0, none⟩ : Addr)) n12 (some (⟨r5, 0, none⟩ : Addr)) ds w80
theorem c62_l : flat (bodyOf f62) = [c62_0, c62_1, c62_2, c62_3, c62_4, c62_5, c62_6, c62_7, c62_8] := by kernel_rfl
theorem c62_3_l : flat (innerC c62_3) = [c62_3_0, c62_3_1] := by kernel_rfl
theorem c62_3_1t_l : flat (thnC c62_3_1) = [c62_3_1t_0, c62_3_1t_1, c62_3_1t_2, c62_3_1t_3] := by kernel_rfl
theorem c62_3_1e_l : flat (elsC c62_3_1) = [c62_3_1e_0, c62_3_1e_1] := by kernel_rfl
theorem c62_3_1t_0_l : flat (innerC c62_3_1t_0) = [c62_3_1t_0_0] := by kernel_rfl
theorem c62_3_1t_0_0_l : flat (innerC c62_3_1t_0_0) = [c62_3_1t_0_0_0, c62_3_1t_0_0_1, c62_3_1t_0_0_2] := by kernel_rfl
theorem c62_3_1e_1t_l : flat (thnC c62_3_1e_1) = [c62_3_1e_1t_0, c62_3_1e_1t_1, c62_3_1e_1t_2, c62_3_1e_1t_3] := by kernel_rfl
theorem c62_3_1e_1e_l : flat (elsC c62_3_1e_1) = [c62_3_1e_1e_0, c62_3_1e_1e_1] := by kernel_rfl
theorem c62_3_1e_1t_0_l : flat (innerC c62_3_1e_1t_0) = [c62_3_1e_1t_0_0] := by kernel_rfl
theorem c62_3_1e_1t_0_0_l : flat (innerC c62_3_1e_1t_0_0) = [c62_3_1e_1t_0_0_0, c62_3_1e_1t_0_0_1, c62_3_1e_1t_0_0_2] := by kernel_rfl
theorem F62_1_ok (R : Rt) (p0 p2 : Option Addr) (n4 : Int) (p5 : Option Addr) (ds : Ds) (w : World) (E : Env) (e0 : E 0 = .pointer p0) (e2 : E 2 = .pointer p2) (e4 : E 4 = .int .i64 n4) (e5 : E 5 = .pointer p5) (h : F62_1 R p0 p2 n4 p5 ds w) :
    TrL prog f62.ntmps [c62_4, c62_5, c62_6, c62_7, c62_8] (F62_q1 R) E ds w :=
  TrL_leaf (X := F62_1 R p0 p2 n4 p5 ds w) (setAll_cons e0 (setAll_cons e2 (setAll_cons e4 (setAll_cons e5 setAll_nil)))) (by kernel_rfl) (by kernel_rfl) h
theorem F62_2_ok (R : Rt) (p0 p2 : Option Addr) (n4 : Int) (p5 : Option Addr) (ds : Ds) (w : World) (E : Env) (e0 : E 0 = .pointer p0) (e2 : E 2 = .pointer p2) (e4 : E 4 = .int .i64 n4) (e5 : E 5 = .pointer p5) (h : F62_2 R p0 p2 n4 p5 ds w) :
    TrL prog f62.ntmps [c62_3_1t_1, c62_3_1t_2, c62_3_1t_3] (F62_q4 R) E ds w :=
  TrL_leaf (X := F62_2 R p0 p2 n4 p5 ds w) (setAll_cons e0 (setAll_cons e2 (setAll_cons e4 (setAll_cons e5 setAll_nil)))) (by kernel_rfl) (by kernel_rfl) h
theorem F62_3_ok (R : Rt) (J1 : (Unit) -> World -> Prop) (p0 p2 : Option Addr) (n4 : Int) (p5 : Option Addr) (ds : Ds) (w : World) (E : Env) (e0 : E 0 = .pointer p0) (e2 : E 2 = .pointer p2) (e4 : E 4 = .int .i64 n4) (e5 : E 5 = .pointer p5) (h : F62_3 R J1 p0 p2 n4 p5 ds w) :
    TrL prog f62.ntmps [c62_3_1t_0_0_0, c62_3_1t_0_0_1, c62_3_1t_0_0_2] (F62_q8 R J1) E ds w :=
  TrL_leaf (X := F62_3 R J1 p0 p2 n4 p5 ds w) (setAll_cons e0 (setAll_cons e2 (setAll_cons e4 (setAll_cons e5 setAll_nil)))) (by kernel_rfl) (by kernel_rfl) h
theorem F62_4_ok (R : Rt) (p0 p2 : Option Addr) (n4 : Int) (p5 : Option Addr) (ds : Ds) (w : World) (E : Env) (e0 : E 0 = .pointer p0) (e2 : E 2 = .pointer p2) (e4 : E 4 = .int .i64 n4) (e5 : E 5 = .pointer p5) (h : F62_4 R p0 p2 n4 p5 ds w) :
    TrL prog f62.ntmps [c62_3_1t_0_0] (F62_q7 R) E ds w :=
  TrL_one (Tr_loop' (c := innerC c62_3_1t_0_0) (σ := Unit) (enc := (fun (_ : Unit) (_ : Env) => True)) (D := (fun E K => K ())) (F := (fun (J1 : (Unit) -> World -> Prop) (_ : Unit) (w : World) => F62_3 R J1 p0 p2 n4 p5 ds w)) (s0 := ()) (by kernel_rfl) c62_3_1t_0_0_l trivial (by kernel_rfl) (fun E K hD => by exact ⟨(), trivial, hD⟩)
      (fun J1 _ E' w' he ha hF => by
      skip
      exact F62_3_ok R J1 p0 p2 n4 p5 ds w' E' ((ha 0 (by kernel_rfl)).trans e0) ((ha 2 (by kernel_rfl)).trans e2) ((ha 4 (by kernel_rfl)).trans e4) ((ha 5 (by kernel_rfl)).trans e5) hF) h)
theorem F62_5_ok (R : Rt) (p0 p2 : Option Addr) (n4 : Int) (p5 : Option Addr) (ds : Ds) (w : World) (E : Env) (e0 : E 0 = .pointer p0) (e2 : E 2 = .pointer p2) (e4 : E 4 = .int .i64 n4) (e5 : E 5 = .pointer p5) (h : F62_5 R p0 p2 n4 p5 ds w) :
    TrL prog f62.ntmps [c62_3_1t_0, c62_3_1t_1, c62_3_1t_2, c62_3_1t_3] (F62_q4 R) E ds w :=
  TrL_head (K := (F62_k5 R)) (Tr_block' (c := innerC c62_3_1t_0) (by kernel_rfl) c62_3_1t_0_l (F62_4_ok R p0 p2 n4 p5 ds w E e0 e2 e4 e5 h))
    (fun E' ds' w' hD => by
      obtain ⟨p0, e0, hD⟩ := dPtr_elim hD; obtain ⟨p2, e2, hD⟩ := dPtr_elim hD; obtain ⟨n4, e4, hD⟩ := dInt_elim hD; obtain ⟨p5, e5, hD⟩ := dPtr_elim hD; exact F62_2_ok R p0 p2 n4 p5 ds' w' E' e0 e2 e4 e5 hD)
theorem F62_6_ok (R : Rt) (p0 p2 : Option Addr) (n4 : Int) (p5 : Option Addr) (ds : Ds) (w : World) (E : Env) (e0 : E 0 = .pointer p0) (e2 : E 2 = .pointer p2) (e4 : E 4 = .int .i64 n4) (e5 : E 5 = .pointer p5) (h : F62_6 R p0 p2 n4 p5 ds w) :
    TrL prog f62.ntmps [c62_3_1e_1t_1, c62_3_1e_1t_2, c62_3_1e_1t_3] (F62_q4 R) E ds w :=
  TrL_leaf (X := F62_6 R p0 p2 n4 p5 ds w) (setAll_cons e0 (setAll_cons e2 (setAll_cons e4 (setAll_cons e5 setAll_nil)))) (by kernel_rfl) (by kernel_rfl) h
theorem F62_7_ok (R : Rt) (J1 : (Unit) -> World -> Prop) (p0 p2 : Option Addr) (n4 : Int) (p5 : Option Addr) (ds : Ds) (w : World) (E : Env) (e0 : E 0 = .pointer p0) (e2 : E 2 = .pointer p2) (e4 : E 4 = .int .i64 n4) (e5 : E 5 = .pointer p5) (h : F62_7 R J1 p0 p2 n4 p5 ds w) :
    TrL prog f62.ntmps [c62_3_1e_1t_0_0_0, c62_3_1e_1t_0_0_1, c62_3_1e_1t_0_0_2] (F62_q12 R J1) E ds w :=
  TrL_leaf (X := F62_7 R J1 p0 p2 n4 p5 ds w) (setAll_cons e0 (setAll_cons e2 (setAll_cons e4 (setAll_cons e5 setAll_nil)))) (by kernel_rfl) (by kernel_rfl) h
theorem F62_8_ok (R : Rt) (p0 p2 : Option Addr) (n4 : Int) (p5 : Option Addr) (ds : Ds) (w : World) (E : Env) (e0 : E 0 = .pointer p0) (e2 : E 2 = .pointer p2) (e4 : E 4 = .int .i64 n4) (e5 : E 5 = .pointer p5) (h : F62_8 R p0 p2 n4 p5 ds w) :
    TrL prog f62.ntmps [c62_3_1e_1t_0_0] (F62_q11 R) E ds w :=
  TrL_one (Tr_loop' (c := innerC c62_3_1e_1t_0_0) (σ := Unit) (enc := (fun (_ : Unit) (_ : Env) => True)) (D := (fun E K => K ())) (F := (fun (J1 : (Unit) -> World -> Prop) (_ : Unit) (w : World) => F62_7 R J1 p0 p2 n4 p5 ds w)) (s0 := ()) (by kernel_rfl) c62_3_1e_1t_0_0_l trivial (by kernel_rfl) (fun E K hD => by exact ⟨(), trivial, hD⟩)
      (fun J1 _ E' w' he ha hF => by
      skip
      exact F62_7_ok R J1 p0 p2 n4 p5 ds w' E' ((ha 0 (by kernel_rfl)).trans e0) ((ha 2 (by kernel_rfl)).trans e2) ((ha 4 (by kernel_rfl)).trans e4) ((ha 5 (by kernel_rfl)).trans e5) hF) h)
theorem F62_9_ok (R : Rt) (p0 p2 : Option Addr) (n4 : Int) (p5 : Option Addr) (ds : Ds) (w : World) (E : Env) (e0 : E 0 = .pointer p0) (e2 : E 2 = .pointer p2) (e4 : E 4 = .int .i64 n4) (e5 : E 5 = .pointer p5) (h : F62_9 R p0 p2 n4 p5 ds w) :
    TrL prog f62.ntmps [c62_3_1e_1t_0, c62_3_1e_1t_1, c62_3_1e_1t_2, c62_3_1e_1t_3] (F62_q4 R) E ds w :=
  TrL_head (K := (F62_k9 R)) (Tr_block' (c := innerC c62_3_1e_1t_0) (by kernel_rfl) c62_3_1e_1t_0_l (F62_8_ok R p0 p2 n4 p5 ds w E e0 e2 e4 e5 h))
    (fun E' ds' w' hD => by
      obtain ⟨p0, e0, hD⟩ := dPtr_elim hD; obtain ⟨p2, e2, hD⟩ := dPtr_elim hD; obtain ⟨n4, e4, hD⟩ := dInt_elim hD; obtain ⟨p5, e5, hD⟩ := dPtr_elim hD; exact F62_6_ok R p0 p2 n4 p5 ds' w' E' e0 e2 e4 e5 hD)
theorem F62_10_ok (R : Rt) (p0 p2 : Option Addr) (n4 : Int) (p5 : Option Addr) (ds : Ds) (w : World) (E : Env) (e0 : E 0 = .pointer p0) (e2 : E 2 = .pointer p2) (e4 : E 4 = .int .i64 n4) (e5 : E 5 = .pointer p5) (h : F62_10 R p0 p2 n4 p5 ds w) :
    TrL prog f62.ntmps [c62_3_1e_1e_0, c62_3_1e_1e_1] (F62_q4 R) E ds w :=
  TrL_leaf (X := F62_10 R p0 p2 n4 p5 ds w) (setAll_cons e0 (setAll_cons e2 (setAll_cons e4 (setAll_cons e5 setAll_nil)))) (by kernel_rfl) (by kernel_rfl) h
theorem F62_11_ok (R : Rt) (p0 p2 : Option Addr) (n4 : Int) (p5 : Option Addr) (b57 : Bool) (ds : Ds) (w : World) (E : Env) (e0 : E 0 = .pointer p0) (e2 : E 2 = .pointer p2) (e4 : E 4 = .int .i64 n4) (e5 : E 5 = .pointer p5) (e57 : E 57 = .bool b57) (h : F62_11 R p0 p2 n4 p5 b57 ds w) :
    TrL prog f62.ntmps [c62_3_1e_1] (F62_q4 R) E ds w :=
  TrL_one (Tr_cond' (c := .tmp 57) (x := thnC c62_3_1e_1) (y := elsC c62_3_1e_1) (by kernel_rfl) c62_3_1e_1t_l c62_3_1e_1e_l e57 (fun h => F62_9_ok R p0 p2 n4 p5 ds w E e0 e2 e4 e5 h) (fun h => F62_10_ok R p0 p2 n4 p5 ds w E e0 e2 e4 e5 h) h)
theorem F62_12_ok (R : Rt) (p0 p2 : Option Addr) (n4 : Int) (p5 : Option Addr) (ds : Ds) (w : World) (E : Env) (e0 : E 0 = .pointer p0) (e2 : E 2 = .pointer p2) (e4 : E 4 = .int .i64 n4) (e5 : E 5 = .pointer p5) (h : F62_12 R p0 p2 n4 p5 ds w) :
    TrL prog f62.ntmps [c62_3_1e_0, c62_3_1e_1] (F62_q4 R) E ds w :=
  TrL_piece (pre := [c62_3_1e_0]) (K := (F62_k13 R)) (X := F62_12 R p0 p2 n4 p5 ds w) (setAll_cons e0 (setAll_cons e2 (setAll_cons e4 (setAll_cons e5 setAll_nil)))) (by kernel_rfl) (by kernel_rfl)
    (fun E' ds' w' hD => by
      obtain ⟨p0, e0, hD⟩ := dPtr_elim hD; obtain ⟨p2, e2, hD⟩ := dPtr_elim hD; obtain ⟨n4, e4, hD⟩ := dInt_elim hD; obtain ⟨p5, e5, hD⟩ := dPtr_elim hD; obtain ⟨b57, e57, hD⟩ := dBl_elim hD; exact F62_11_ok R p0 p2 n4 p5 b57 ds' w' E' e0 e2 e4 e5 e57 hD) h
theorem F62_13_ok (R : Rt) (p0 p2 : Option Addr) (n4 : Int) (p5 : Option Addr) (b15 : Bool) (ds : Ds) (w : World) (E : Env) (e0 : E 0 = .pointer p0) (e2 : E 2 = .pointer p2) (e4 : E 4 = .int .i64 n4) (e5 : E 5 = .pointer p5) (e15 : E 15 = .bool b15) (h : F62_13 R p0 p2 n4 p5 b15 ds w) :
    TrL prog f62.ntmps [c62_3_1] (F62_q4 R) E ds w :=
  TrL_one (Tr_cond' (c := .tmp 15) (x := thnC c62_3_1) (y := elsC c62_3_1) (by kernel_rfl) c62_3_1t_l c62_3_1e_l e15 (fun h => F62_5_ok R p0 p2 n4 p5 ds w E e0 e2 e4 e5 h) (fun h => F62_12_ok R p0 p2 n4 p5 ds w E e0 e2 e4 e5 h) h)
theorem F62_14_ok (R : Rt) (p0 p2 : Option Addr) (n4 : Int) (p5 : Option Addr) (ds : Ds) (w : World) (E : Env) (e0 : E 0 = .pointer p0) (e2 : E 2 = .pointer p2) (e4 : E 4 = .int .i64 n4) (e5 : E 5 = .pointer p5) (h : F62_14 R p0 p2 n4 p5 ds w) :
    TrL prog f62.ntmps [c62_3_0, c62_3_1] (F62_q4 R) E ds w :=
  TrL_piece (pre := [c62_3_0]) (K := (F62_k14 R)) (X := F62_14 R p0 p2 n4 p5 ds w) (setAll_cons e0 (setAll_cons e2 (setAll_cons e4 (setAll_cons e5 setAll_nil)))) (by kernel_rfl) (by kernel_rfl)
    (fun E' ds' w' hD => by
      obtain ⟨p0, e0, hD⟩ := dPtr_elim hD; obtain ⟨p2, e2, hD⟩ := dPtr_elim hD; obtain ⟨n4, e4, hD⟩ := dInt_elim hD; obtain ⟨p5, e5, hD⟩ := dPtr_elim hD; obtain ⟨b15, e15, hD⟩ := dBl_elim hD; exact F62_13_ok R p0 p2 n4 p5 b15 ds' w' E' e0 e2 e4 e5 e15 hD) h
theorem F62_15_ok (R : Rt) (p0 p2 : Option Addr) (n4 : Int) (p5 : Option Addr) (ds : Ds) (w : World) (E : Env) (e0 : E 0 = .pointer p0) (e2 : E 2 = .pointer p2) (e4 : E 4 = .int .i64 n4) (e5 : E 5 = .pointer p5) (h : F62_15 R p0 p2 n4 p5 ds w) :
    TrL prog f62.ntmps [c62_3, c62_4, c62_5, c62_6, c62_7, c62_8] (F62_q1 R) E ds w :=
  TrL_head (K := (F62_k2 R)) (Tr_block' (c := innerC c62_3) (by kernel_rfl) c62_3_l (F62_14_ok R p0 p2 n4 p5 ds w E e0 e2 e4 e5 h))
    (fun E' ds' w' hD => by
      obtain ⟨p0, e0, hD⟩ := dPtr_elim hD; obtain ⟨p2, e2, hD⟩ := dPtr_elim hD; obtain ⟨n4, e4, hD⟩ := dInt_elim hD; obtain ⟨p5, e5, hD⟩ := dPtr_elim hD; exact F62_1_ok R p0 p2 n4 p5 ds' w' E' e0 e2 e4 e5 hD)
theorem F62_16_ok (R : Rt) (p0 : Option Addr) (ds : Ds) (w : World) (E : Env) (e0 : E 0 = .pointer p0) (h : F62_16 R p0 ds w) :
    TrL prog f62.ntmps [c62_0, c62_1, c62_2, c62_3, c62_4, c62_5, c62_6, c62_7, c62_8] (F62_q1 R) E ds w :=
  TrL_piece (pre := [c62_0, c62_1, c62_2]) (K := (F62_k15 R)) (X := F62_16 R p0 ds w) (setAll_cons e0 setAll_nil) (by kernel_rfl) (by kernel_rfl)
    (fun E' ds' w' hD => by
      obtain ⟨p0, e0, hD⟩ := dPtr_elim hD; obtain ⟨p2, e2, hD⟩ := dPtr_elim hD; obtain ⟨n4, e4, hD⟩ := dInt_elim hD; obtain ⟨p5, e5, hD⟩ := dPtr_elim hD; exact F62_15_ok R p0 p2 n4 p5 ds' w' E' e0 e2 e4 e5 hD) h
theorem F62_calls (p0 : Option Addr) (w : World) (R : Rt) (h : F62_16 R p0 [] w) : Calls prog 62 #[.pointer p0] w R :=
  calls_of_L (l := [c62_0, c62_1, c62_2, c62_3, c62_4, c62_5, c62_6, c62_7, c62_8]) func62 (by kernel_rfl) (by rw [ntmps62]; exact Nat.le_of_ble_eq_true (by kernel_rfl)) c62_l
    (F62_16_ok R p0 [] w _ rfl h)
noncomputable def c81_0 := cI3 f81 0
noncomputable def c81_1 := cI3 f81 1
noncomputable def c81_2 := cI3 f81 2
noncomputable def c81_3 := cI3 f81 3
noncomputable def c81_4 := cI3 f81 4
def F81_q1 (R : Rt) : EQ := endQ prog f81.results.toList R
def F81_1 (R : Rt) (p0 : Option Addr) (n1_0 n1_1 : Int) (s1_2 : ByteArray) (n2 : Int) (ds : Ds) (w : World) : Prop :=
 alE (.cells #[.int .i64 n1_0, .int .i64 n1_1, .string s1_2] 49) w fun r4 w1 =>
 ∃ s8 : ByteArray, w1.cell? ((⟨r4, 0, none⟩ : Addr).add 2) = some (.string s8) /\
 Br (decide ((s8.size : Int) > n2)) (
 ∃ n14 : Int, w1.cell? ((⟨r4, 0, none⟩ : Addr).add 1) = some (.int .i64 n14) /\
 ptrE p0 fun a2 =>
 st1 (a2.add 260) (.int .i64 n14) w1 fun w3 =>
 runD prog ds w3 fun w4 =>
 R (.returned (.bool false)) w4) (
 runD prog ds w1 fun w5 =>
 R (.returned (.bool true)) w5)
theorem c81_l : flat (bodyOf f81) = [c81_0, c81_1, c81_2, c81_3, c81_4] := by kernel_rfl
theorem F81_1_ok (R : Rt) (p0 : Option Addr) (n1_0 n1_1 : Int) (s1_2 : ByteArray) (n2 : Int) (ds : Ds) (w : World) (E : Env) (e0 : E 0 = .pointer p0) (e1 : E 1 = .agg #[.int .i64 n1_0, .int .i64 n1_1, .string s1_2]) (e2 : E 2 = .int .i64 n2) (h : F81_1 R p0 n1_0 n1_1 s1_2 n2 ds w) :
    TrL prog f81.ntmps [c81_0, c81_1, c81_2, c81_3, c81_4] (F81_q1 R) E ds w :=
  TrL_leaf (X := F81_1 R p0 n1_0 n1_1 s1_2 n2 ds w) (setAll_cons e0 (setAll_cons e1 (setAll_cons e2 setAll_nil))) (by kernel_rfl) (by kernel_rfl) h
theorem F81_calls (p0 : Option Addr) (n1_0 n1_1 : Int) (s1_2 : ByteArray) (n2 : Int) (w : World) (R : Rt) (h : F81_1 R p0 n1_0 n1_1 s1_2 n2 [] w) : Calls prog 81 #[.pointer p0, .agg #[.int .i64 n1_0, .int .i64 n1_1, .string s1_2], .int .i64 n2] w R :=
  calls_of_L (l := [c81_0, c81_1, c81_2, c81_3, c81_4]) func81 (by kernel_rfl) (by rw [ntmps81]; exact Nat.le_of_ble_eq_true (by kernel_rfl)) c81_l
    (F81_1_ok R p0 n1_0 n1_1 s1_2 n2 [] w _ rfl rfl rfl h)
noncomputable def c82_0 := cI3 f82 0
noncomputable def c82_1 := cI3 f82 1
noncomputable def c82_2 := cI3 f82 2
noncomputable def c82_3 := cI3 f82 3
noncomputable def c82_4 := cI3 f82 4
noncomputable def c82_5 := cI3 f82 5
noncomputable def c82_6 := cI3 f82 6
noncomputable def c82_7 := cI3 f82 7
noncomputable def c82_8 := cI3 f82 8
noncomputable def c82_9 := cI3 f82 9
noncomputable def c82_10 := cI3 f82 10
noncomputable def c82_7_0 := cJ3 c82_7 0
noncomputable def c82_7_0_0 := cJ3 c82_7_0 0
noncomputable def c82_7_0_1 := cJ3 c82_7_0 1
noncomputable def c82_7_0_2 := cJ3 c82_7_0 2
noncomputable def c82_7_0_3 := cJ3 c82_7_0 3
def F82_q1 (R : Rt) : EQ := endQ prog f82.results.toList R
def F82_1 (R : Rt) (p0 p3 p4 : Option Addr) (n7 : Int) (ds : Ds) (w : World) : Prop :=
 ptrE p0 fun a1 =>
 ∃ n96 : Int, w.cell? (a1.add 1) = some (.int .i64 n96) /\
 ptrE p0 fun a2 =>
 st1 (a2.add 1) (.int .i64 (IntKind.i64.wrap (n96 + (IntKind.i64.wrap (n7 + 2))))) w fun w3 =>
 ptrE p3 fun a4 =>
 ∃ n102_0 : Int, w3.cell? (a4.add 0) = some (.int .i64 n102_0) /\
 ∃ n102_1 : Int, w3.cell? (a4.add 1) = some (.int .i64 n102_1) /\
 ∃ s102_2 : ByteArray, w3.cell? (a4.add 2) = some (.string s102_2) /\
 ptrE p4 fun a5 =>
 stA prog 49 a5 #[.int .i64 n102_0, .int .i64 n102_1, .string s102_2] w3 fun w6 =>
 runD prog ds w6 fun w7 =>
 ptrE p4 fun a8 =>
 ∃ nR0_0 : Int, w7.cell? (a8.add 0) = some (.int .i64 nR0_0) /\
 ∃ nR0_1 : Int, w7.cell? (a8.add 1) = some (.int .i64 nR0_1) /\
 ∃ sR0_2 : ByteArray, w7.cell? (a8.add 2) = some (.string sR0_2) /\
 R (.returned (.tuple #[.agg #[.int .i64 nR0_0, .int .i64 nR0_1, .string sR0_2], .bool true])) w7
def F82_k2 (R : Rt) : EP := (fun E ds w => dPtr (E 0) fun p0 => dPtr (E 3) fun p3 => dPtr (E 4) fun p4 => dInt .i64 (E 7) fun n7 => F82_1 R p0 p3 p4 n7 ds w)
def F82_q3 (R : Rt) : EQ := (thenQ (F82_k2 R) (F82_q1 R))
def F82_q4 (R : Rt) : EQ := (blockQ 0 (F82_q3 R))
def F82_q5 (R : Rt) (J1 : (Int) -> World -> Prop) : EQ := (thenQ (fun E _ w => dInt .i64 (E 68) fun n68 => J1 n68 w) (F82_q4 R))
def F82_2 (R : Rt) (J1 : (Int) -> World -> Prop) (p0 p3 p4 : Option Addr) (n7 n67 n68 : Int) (ds : Ds) (w : World) : Prop :=
 Br (decide (n68 < n67)) (
 dwE w fun w9 =>
 ptrE p3 fun a10 =>
 ∃ s73 : ByteArray, w9.cell? (a10.add 2) = some (.string s73) /\
 ∃ b75 : UInt8, 0 ≤ n68 /\ s73[n68.toNat]? = some b75 /\
 ptrE p0 fun a11 =>
 0 ≤ (b75.toNat : Int) /\ (b75.toNat : Int) < (256 : Int) /\
 ∃ n79 : Int, w9.cell? ((a11.add 2).add ((b75.toNat : Int).toNat * 1)) = some (.int .u8 n79) /\
 Br (n79 == 4) (
 ptrE p0 fun a12 =>
 ∃ n85 : Int, w9.cell? (a12.add 1) = some (.int .i64 n85) /\
 ptrE p0 fun a13 =>
 st1 (a13.add 260) (.int .i64 (IntKind.i64.wrap ((IntKind.i64.wrap (n85 + 1)) + n68))) w9 fun w14 =>
 ptrE p3 fun a15 =>
 ∃ n91_0 : Int, w14.cell? (a15.add 0) = some (.int .i64 n91_0) /\
 ∃ n91_1 : Int, w14.cell? (a15.add 1) = some (.int .i64 n91_1) /\
 ∃ s91_2 : ByteArray, w14.cell? (a15.add 2) = some (.string s91_2) /\
 ptrE p4 fun a16 =>
 stA prog 49 a16 #[.int .i64 n91_0, .int .i64 n91_1, .string s91_2] w14 fun w17 =>
 runD prog ds w17 fun w18 =>
 ptrE p4 fun a19 =>
 ∃ nR0_0 : Int, w18.cell? (a19.add 0) = some (.int .i64 nR0_0) /\
 ∃ nR0_1 : Int, w18.cell? (a19.add 1) = some (.int .i64 nR0_1) /\
 ∃ sR0_2 : ByteArray, w18.cell? (a19.add 2) = some (.string sR0_2) /\
 R (.returned (.tuple #[.agg #[.int .i64 nR0_0, .int .i64 nR0_1, .string sR0_2], .bool false])) w18) (
 J1 (IntKind.i64.wrap (n68 + 1)) w9)) (
 F82_1 R p0 p3 p4 n7 ds w)
def F82_3 (R : Rt) (p0 p3 p4 : Option Addr) (n7 n67 n68 : Int) (ds : Ds) (w : World) : Prop :=
 loopT (fun (J1 : (Int) -> World -> Prop) (s : Int) (w : World) => F82_2 R J1 p0 p3 p4 n7 n67 s ds w) n68 w
abbrev F82_4 (R : Rt) (p0 p3 p4 : Option Addr) (n7 n67 n68 : Int) (ds : Ds) (w : World) : Prop := F82_3 R p0 p3 p4 n7 n67 n68 ds w
def F82_k6 (R : Rt) : EP := (fun E ds w => dPtr (E 0) fun p0 => dPtr (E 3) fun p3 => dPtr (E 4) fun p4 => dInt .i64 (E 7) fun n7 => dInt .i64 (E 67) fun n67 => dInt .i64 (E 68) fun n68 => F82_4 R p0 p3 p4 n7 n67 n68 ds w)
def F82_5 (R : Rt) (p0 : Option Addr) (n1_0 n1_1 : Int) (s1_2 : ByteArray) (ds : Ds) (w : World) : Prop :=
 alE (.cells #[.int .i64 n1_0, .int .i64 n1_1, .string s1_2] 49) w fun r3 w20 =>
 alE (.cells #[.int .i64 0, .int .i64 0, .string (⟨#[]⟩ : ByteArray)] 49) w20 fun r4 w21 =>
 ptrE p0 fun a22 =>
 ∃ n13 : Int, w21.cell? (a22.add 1) = some (.int .i64 n13) /\
 Calls prog 79 #[.pointer p0, .int .i64 n13] w21 fun e w23 =>
 ∃ n14 : Int, e = .returned (.int .i64 n14) /\
 dwE w23 fun w24 =>
 ptrE p0 fun a25 =>
 ∃ s18 : ByteArray, w24.cell? a25 = some (.string s18) /\
 ptrE p0 fun a26 =>
 ∃ n22 : Int, w24.cell? (a26.add 1) = some (.int .i64 n22) /\
 0 ≤ n14 /\ n14.toNat ≤ s18.size /\ 0 ≤ (IntKind.i64.wrap (n22 + 1)) /\ (IntKind.i64.wrap (n22 + 1)).toNat ≤ n14.toNat /\
 ptrE p0 fun a27 =>
 ∃ s29 : ByteArray, w24.cell? a27 = some (.string s29) /\
 ptrE p0 fun a28 =>
 ∃ n33 : Int, w24.cell? (a28.add 1) = some (.int .i64 n33) /\
 ∃ b34 : UInt8, 0 ≤ n33 /\ s29[n33.toNat]? = some b34 /\
 Calls prog 93 #[.string (s18.extract ((IntKind.i64.wrap (n22 + 1)).toNat) n14.toNat), .int .u8 (b34.toNat : Int)] w24 fun e w29 =>
 ∃ n35 : Int, e = .returned (.int .i64 n35) /\
 Br (decide (n35 < 0)) (
 ptrE p0 fun a30 =>
 ∃ n42 : Int, w29.cell? (a30.add 1) = some (.int .i64 n42) /\
 ptrE p0 fun a31 =>
 st1 (a31.add 260) (.int .i64 n42) w29 fun w32 =>
 ∃ n45_0 : Int, w32.cell? ((⟨r3, 0, none⟩ : Addr).add 0) = some (.int .i64 n45_0) /\
 ∃ n45_1 : Int, w32.cell? ((⟨r3, 0, none⟩ : Addr).add 1) = some (.int .i64 n45_1) /\
 ∃ s45_2 : ByteArray, w32.cell? ((⟨r3, 0, none⟩ : Addr).add 2) = some (.string s45_2) /\
 stA prog 49 (⟨r4, 0, none⟩ : Addr) #[.int .i64 n45_0, .int .i64 n45_1, .string s45_2] w32 fun w33 =>
 runD prog ds w33 fun w34 =>
 ∃ nR0_0 : Int, w34.cell? ((⟨r4, 0, none⟩ : Addr).add 0) = some (.int .i64 nR0_0) /\
 ∃ nR0_1 : Int, w34.cell? ((⟨r4, 0, none⟩ : Addr).add 1) = some (.int .i64 nR0_1) /\
 ∃ sR0_2 : ByteArray, w34.cell? ((⟨r4, 0, none⟩ : Addr).add 2) = some (.string sR0_2) /\
 R (.returned (.tuple #[.agg #[.int .i64 nR0_0, .int .i64 nR0_1, .string sR0_2], .bool false])) w34) (
 dwE w29 fun w35 =>
 ∃ S3 : World -> Prop, S3 w35 /\
 ptrE p0 fun a36 =>
 ∃ s49 : ByteArray, (∀ w', S3 w' -> w'.cell? a36 = some (.string s49)) /\
 ptrE p0 fun a37 =>
 ∃ n53 : Int, (∀ w', S3 w' -> w'.cell? (a37.add 1) = some (.int .i64 n53)) /\
 ptrE p0 fun a38 =>
 ∃ n58 : Int, (∀ w', S3 w' -> w'.cell? (a38.add 1) = some (.int .i64 n58)) /\
 0 ≤ (IntKind.i64.wrap ((IntKind.i64.wrap (n58 + 1)) + n35)) /\ (IntKind.i64.wrap ((IntKind.i64.wrap (n58 + 1)) + n35)).toNat ≤ s49.size /\ 0 ≤ (IntKind.i64.wrap (n53 + 1)) /\ (IntKind.i64.wrap (n53 + 1)).toNat ≤ (IntKind.i64.wrap ((IntKind.i64.wrap (n58 + 1)) + n35)).toNat /\
 st1 (⟨r3, 0, none⟩ : Addr) (.int .i64 2) w35 fun w39 =>
 S3 w39 /\
 st1 ((⟨r3, 0, none⟩ : Addr).add 2) (.string (s49.extract ((IntKind.i64.wrap (n53 + 1)).toNat) ((IntKind.i64.wrap ((IntKind.i64.wrap (n58 + 1)) + n35)).toNat))) w39 fun w40 =>
 ∃ s66 : ByteArray, w40.cell? ((⟨r3, 0, none⟩ : Addr).add 2) = some (.string s66) /\
 F82_4 R p0 (some (⟨r3, 0, none⟩ : Addr)) (some (⟨r4, 0, none⟩ : Addr)) n35 (s66.size : Int) 0 ds w40)
theorem c82_l : flat (bodyOf f82) = [c82_0, c82_1, c82_2, c82_3, c82_4, c82_5, c82_6, c82_7, c82_8, c82_9, c82_10] := by kernel_rfl
theorem c82_7_l : flat (innerC c82_7) = [c82_7_0] := by kernel_rfl
theorem c82_7_0_l : flat (innerC c82_7_0) = [c82_7_0_0, c82_7_0_1, c82_7_0_2, c82_7_0_3] := by kernel_rfl
theorem F82_1_ok (R : Rt) (p0 p3 p4 : Option Addr) (n7 : Int) (ds : Ds) (w : World) (E : Env) (e0 : E 0 = .pointer p0) (e3 : E 3 = .pointer p3) (e4 : E 4 = .pointer p4) (e7 : E 7 = .int .i64 n7) (h : F82_1 R p0 p3 p4 n7 ds w) :
    TrL prog f82.ntmps [c82_8, c82_9, c82_10] (F82_q1 R) E ds w :=
  TrL_leaf (X := F82_1 R p0 p3 p4 n7 ds w) (setAll_cons e0 (setAll_cons e3 (setAll_cons e4 (setAll_cons e7 setAll_nil)))) (by kernel_rfl) (by kernel_rfl) h
theorem F82_2_ok (R : Rt) (J1 : (Int) -> World -> Prop) (p0 p3 p4 : Option Addr) (n7 n67 n68 : Int) (ds : Ds) (w : World) (E : Env) (e0 : E 0 = .pointer p0) (e3 : E 3 = .pointer p3) (e4 : E 4 = .pointer p4) (e7 : E 7 = .int .i64 n7) (e67 : E 67 = .int .i64 n67) (e68 : E 68 = .int .i64 n68) (h : F82_2 R J1 p0 p3 p4 n7 n67 n68 ds w) :
    TrL prog f82.ntmps [c82_7_0_0, c82_7_0_1, c82_7_0_2, c82_7_0_3] (F82_q5 R J1) E ds w :=
  TrL_leaf (X := F82_2 R J1 p0 p3 p4 n7 n67 n68 ds w) (setAll_cons e0 (setAll_cons e3 (setAll_cons e4 (setAll_cons e7 (setAll_cons e67 (setAll_cons e68 setAll_nil)))))) (by kernel_rfl) (by kernel_rfl) h
theorem F82_3_ok (R : Rt) (p0 p3 p4 : Option Addr) (n7 n67 n68 : Int) (ds : Ds) (w : World) (E : Env) (e0 : E 0 = .pointer p0) (e3 : E 3 = .pointer p3) (e4 : E 4 = .pointer p4) (e7 : E 7 = .int .i64 n7) (e67 : E 67 = .int .i64 n67) (e68 : E 68 = .int .i64 n68) (h : F82_3 R p0 p3 p4 n7 n67 n68 ds w) :
    TrL prog f82.ntmps [c82_7_0] (F82_q4 R) E ds w :=
  TrL_one (Tr_loop' (c := innerC c82_7_0) (σ := Int) (enc := (fun (s : Int) (E : Env) => E 68 = .int .i64 s)) (D := (fun E K => dInt .i64 (E 68) fun n68 => K n68)) (F := (fun (J1 : (Int) -> World -> Prop) (s : Int) (w : World) => F82_2 R J1 p0 p3 p4 n7 n67 s ds w)) (s0 := n68) (by kernel_rfl) c82_7_0_l e68 (by kernel_rfl) (fun E K hD => by obtain ⟨n68, e68, hD⟩ := dInt_elim hD; exact ⟨n68, e68, hD⟩)
      (fun J1 s E' w' he ha hF => by
      have e68' := he
      exact F82_2_ok R J1 p0 p3 p4 n7 n67 s ds w' E' ((ha 0 (by kernel_rfl)).trans e0) ((ha 3 (by kernel_rfl)).trans e3) ((ha 4 (by kernel_rfl)).trans e4) ((ha 7 (by kernel_rfl)).trans e7) ((ha 67 (by kernel_rfl)).trans e67) e68' hF) h)
theorem F82_4_ok (R : Rt) (p0 p3 p4 : Option Addr) (n7 n67 n68 : Int) (ds : Ds) (w : World) (E : Env) (e0 : E 0 = .pointer p0) (e3 : E 3 = .pointer p3) (e4 : E 4 = .pointer p4) (e7 : E 7 = .int .i64 n7) (e67 : E 67 = .int .i64 n67) (e68 : E 68 = .int .i64 n68) (h : F82_4 R p0 p3 p4 n7 n67 n68 ds w) :
    TrL prog f82.ntmps [c82_7, c82_8, c82_9, c82_10] (F82_q1 R) E ds w :=
  TrL_head (K := (F82_k2 R)) (Tr_block' (c := innerC c82_7) (by kernel_rfl) c82_7_l (F82_3_ok R p0 p3 p4 n7 n67 n68 ds w E e0 e3 e4 e7 e67 e68 h))
    (fun E' ds' w' hD => by
      obtain ⟨p0, e0, hD⟩ := dPtr_elim hD; obtain ⟨p3, e3, hD⟩ := dPtr_elim hD; obtain ⟨p4, e4, hD⟩ := dPtr_elim hD; obtain ⟨n7, e7, hD⟩ := dInt_elim hD; exact F82_1_ok R p0 p3 p4 n7 ds' w' E' e0 e3 e4 e7 hD)
theorem F82_5_ok (R : Rt) (p0 : Option Addr) (n1_0 n1_1 : Int) (s1_2 : ByteArray) (ds : Ds) (w : World) (E : Env) (e0 : E 0 = .pointer p0) (e1 : E 1 = .agg #[.int .i64 n1_0, .int .i64 n1_1, .string s1_2]) (h : F82_5 R p0 n1_0 n1_1 s1_2 ds w) :
    TrL prog f82.ntmps [c82_0, c82_1, c82_2, c82_3, c82_4, c82_5, c82_6, c82_7, c82_8, c82_9, c82_10] (F82_q1 R) E ds w :=
  TrL_piece (pre := [c82_0, c82_1, c82_2, c82_3, c82_4, c82_5, c82_6]) (K := (F82_k6 R)) (X := F82_5 R p0 n1_0 n1_1 s1_2 ds w) (setAll_cons e0 (setAll_cons e1 setAll_nil)) (by kernel_rfl) (by kernel_rfl)
    (fun E' ds' w' hD => by
      obtain ⟨p0, e0, hD⟩ := dPtr_elim hD; obtain ⟨p3, e3, hD⟩ := dPtr_elim hD; obtain ⟨p4, e4, hD⟩ := dPtr_elim hD; obtain ⟨n7, e7, hD⟩ := dInt_elim hD; obtain ⟨n67, e67, hD⟩ := dInt_elim hD; obtain ⟨n68, e68, hD⟩ := dInt_elim hD; exact F82_4_ok R p0 p3 p4 n7 n67 n68 ds' w' E' e0 e3 e4 e7 e67 e68 hD) h
theorem F82_calls (p0 : Option Addr) (n1_0 n1_1 : Int) (s1_2 : ByteArray) (w : World) (R : Rt) (h : F82_5 R p0 n1_0 n1_1 s1_2 [] w) : Calls prog 82 #[.pointer p0, .agg #[.int .i64 n1_0, .int .i64 n1_1, .string s1_2]] w R :=
  calls_of_L (l := [c82_0, c82_1, c82_2, c82_3, c82_4, c82_5, c82_6, c82_7, c82_8, c82_9, c82_10]) func82 (by kernel_rfl) (by rw [ntmps82]; exact Nat.le_of_ble_eq_true (by kernel_rfl)) c82_l
    (F82_5_ok R p0 n1_0 n1_1 s1_2 [] w _ rfl rfl h)
noncomputable def c83_0 := cI3 f83 0
noncomputable def c83_1 := cI3 f83 1
noncomputable def c83_2 := cI3 f83 2
noncomputable def c83_3 := cI3 f83 3
noncomputable def c83_4 := cI3 f83 4
noncomputable def c83_5 := cI3 f83 5
noncomputable def c83_6 := cI3 f83 6
noncomputable def c83_7 := cI3 f83 7
noncomputable def c83_8 := cI3 f83 8
noncomputable def c83_9 := cI3 f83 9
def F83_q1 (R : Rt) : EQ := endQ prog f83.results.toList R
def F83_1 (R : Rt) (s5 : ByteArray) (b42 : Bool) (ds : Ds) (w : World) : Prop :=
 Br b42 (
 runD prog ds w fun w1 =>
 R (.returned (.tuple #[.string (⟨#[]⟩ : ByteArray), .int .i64 0, .bool false])) w1) (
 dwE w fun w2 =>
 0 ≤ (6 : Int) /\ (6 : Int).toNat ≤ s5.size /\ 0 ≤ (2 : Int) /\ (2 : Int).toNat ≤ (6 : Int).toNat /\
 0 ≤ (9 : Int) /\ (9 : Int).toNat ≤ s5.size /\ 0 ≤ (7 : Int) /\ (7 : Int).toNat ≤ (9 : Int).toNat /\
 (((s5.extract ((2 : Int).toNat) ((6 : Int).toNat)).size + (s5.extract ((7 : Int).toNat) ((9 : Int).toNat)).size : Nat) : Int) ≤ 9223372036854775807 /\
 0 ≤ (12 : Int) /\ (12 : Int).toNat ≤ s5.size /\ 0 ≤ (10 : Int) /\ (10 : Int).toNat ≤ (12 : Int).toNat /\
 ((((s5.extract ((2 : Int).toNat) ((6 : Int).toNat)) ++ (s5.extract ((7 : Int).toNat) ((9 : Int).toNat))).size + (s5.extract ((10 : Int).toNat) ((12 : Int).toNat)).size : Nat) : Int) ≤ 9223372036854775807 /\
 Calls prog 97 #[.string (((s5.extract ((2 : Int).toNat) ((6 : Int).toNat)) ++ (s5.extract ((7 : Int).toNat) ((9 : Int).toNat))) ++ (s5.extract ((10 : Int).toNat) ((12 : Int).toNat)))] w2 fun e w3 =>
 ∃ n53_0 : Int, ∃ b53_1 : Bool, e = .returned (.tuple #[.int .i64 n53_0, .bool b53_1]) /\
 Br b53_1 (
 runD prog ds w3 fun w4 =>
 R (.returned (.tuple #[.string (((s5.extract ((2 : Int).toNat) ((6 : Int).toNat)) ++ (s5.extract ((7 : Int).toNat) ((9 : Int).toNat))) ++ (s5.extract ((10 : Int).toNat) ((12 : Int).toNat))), .int .i64 13, .bool (!((((s5.extract ((2 : Int).toNat) ((6 : Int).toNat)) ++ (s5.extract ((7 : Int).toNat) ((9 : Int).toNat))) ++ (s5.extract ((10 : Int).toNat) ((12 : Int).toNat))).toList == (⟨#[32, 32, 32, 32, 32, 32, 32, 32]⟩ : ByteArray).toList))])) w4) (
 runD prog ds w3 fun w5 =>
 R (.returned (.tuple #[.string (((s5.extract ((2 : Int).toNat) ((6 : Int).toNat)) ++ (s5.extract ((7 : Int).toNat) ((9 : Int).toNat))) ++ (s5.extract ((10 : Int).toNat) ((12 : Int).toNat))), .int .i64 13, .bool false])) w5))
def F83_k2 (R : Rt) : EP := (fun E ds w => dStr (E 5) fun s5 => dBl (E 42) fun b42 => F83_1 R s5 b42 ds w)
def F83_2 (R : Rt) (p0 : Option Addr) (ds : Ds) (w : World) : Prop :=
 dwE w fun w6 =>
 ptrE p0 fun a7 =>
 ∃ s12 : ByteArray, w6.cell? a7 = some (.string s12) /\
 ptrE p0 fun a8 =>
 ∃ n16 : Int, w6.cell? (a8.add 1) = some (.int .i64 n16) /\
 s12.size ≤ s12.size /\ 0 ≤ n16 /\ n16.toNat ≤ s12.size /\
 Calls prog 59 #[.string (s12.extract n16.toNat s12.size), .string (⟨#[123, 125]⟩ : ByteArray)] w6 fun e w9 =>
 ∃ b19 : Bool, e = .returned (.bool b19) /\
 Br b19 (
 runD prog ds w9 fun w10 =>
 R (.returned (.tuple #[.string (⟨#[]⟩ : ByteArray), .int .i64 2, .bool true])) w10) (
 Br (decide ((((s12.extract n16.toNat s12.size).size : Nat) : Int) < 13)) (
 F83_1 R (s12.extract n16.toNat s12.size) true ds w9) (
 0 ≤ (2 : Int) /\ (2 : Int).toNat ≤ (s12.extract n16.toNat s12.size).size /\ 0 ≤ (2 : Int).toNat /\
 Br (!(((s12.extract n16.toNat s12.size).extract 0 ((2 : Int).toNat)).toList == (⟨#[123, 94]⟩ : ByteArray).toList)) (
 F83_1 R (s12.extract n16.toNat s12.size) true ds w9) (
 ∃ b30 : UInt8, 0 ≤ (6 : Int) /\ (s12.extract n16.toNat s12.size)[(6 : Int).toNat]? = some b30 /\
 Br ((b30.toNat : Int) != 45) (
 F83_1 R (s12.extract n16.toNat s12.size) true ds w9) (
 ∃ b35 : UInt8, 0 ≤ (9 : Int) /\ (s12.extract n16.toNat s12.size)[(9 : Int).toNat]? = some b35 /\
 Br ((b35.toNat : Int) != 45) (
 F83_1 R (s12.extract n16.toNat s12.size) true ds w9) (
 ∃ b40 : UInt8, 0 ≤ (12 : Int) /\ (s12.extract n16.toNat s12.size)[(12 : Int).toNat]? = some b40 /\
 F83_1 R (s12.extract n16.toNat s12.size) ((b40.toNat : Int) != 125) ds w9)))))
theorem c83_l : flat (bodyOf f83) = [c83_0, c83_1, c83_2, c83_3, c83_4, c83_5, c83_6, c83_7, c83_8, c83_9] := by kernel_rfl
theorem F83_1_ok (R : Rt) (s5 : ByteArray) (b42 : Bool) (ds : Ds) (w : World) (E : Env) (e5 : E 5 = .string s5) (e42 : E 42 = .bool b42) (h : F83_1 R s5 b42 ds w) :
    TrL prog f83.ntmps [c83_5, c83_6, c83_7, c83_8, c83_9] (F83_q1 R) E ds w :=
  TrL_leaf (X := F83_1 R s5 b42 ds w) (setAll_cons e5 (setAll_cons e42 setAll_nil)) (by kernel_rfl) (by kernel_rfl) h
theorem F83_2_ok (R : Rt) (p0 : Option Addr) (ds : Ds) (w : World) (E : Env) (e0 : E 0 = .pointer p0) (h : F83_2 R p0 ds w) :
    TrL prog f83.ntmps [c83_0, c83_1, c83_2, c83_3, c83_4, c83_5, c83_6, c83_7, c83_8, c83_9] (F83_q1 R) E ds w :=
  TrL_piece (pre := [c83_0, c83_1, c83_2, c83_3, c83_4]) (K := (F83_k2 R)) (X := F83_2 R p0 ds w) (setAll_cons e0 setAll_nil) (by kernel_rfl) (by kernel_rfl)
    (fun E' ds' w' hD => by
      obtain ⟨s5, e5, hD⟩ := dStr_elim hD; obtain ⟨b42, e42, hD⟩ := dBl_elim hD; exact F83_1_ok R s5 b42 ds' w' E' e5 e42 hD) h
theorem F83_calls (p0 : Option Addr) (w : World) (R : Rt) (h : F83_2 R p0 [] w) : Calls prog 83 #[.pointer p0] w R :=
  calls_of_L (l := [c83_0, c83_1, c83_2, c83_3, c83_4, c83_5, c83_6, c83_7, c83_8, c83_9]) func83 (by kernel_rfl) (by rw [ntmps83]; exact Nat.le_of_ble_eq_true (by kernel_rfl)) c83_l
    (F83_2_ok R p0 [] w _ rfl h)
noncomputable def c84_0 := cI3 f84 0
noncomputable def c84_1 := cI3 f84 1
noncomputable def c84_2 := cI3 f84 2
noncomputable def c84_3 := cI3 f84 3
noncomputable def c84_4 := cI3 f84 4
noncomputable def c84_5 := cI3 f84 5
noncomputable def c84_6 := cI3 f84 6
noncomputable def c84_3_0 := cJ3 c84_3 0
noncomputable def c84_3_0_0 := cJ3 c84_3_0 0
noncomputable def c84_3_0_1 := cJ3 c84_3_0 1
noncomputable def c84_3_0_2 := cJ3 c84_3_0 2
noncomputable def c84_3_0_3 := cJ3 c84_3_0 3
def F84_q1 (R : Rt) : EQ := endQ prog f84.results.toList R
def F84_1 (R : Rt) (p0 p3 p4 : Option Addr) (ds : Ds) (w : World) : Prop :=
 ptrE p0 fun a1 =>
 ∃ n57 : Int, w.cell? (a1.add 1) = some (.int .i64 n57) /\
 ptrE p0 fun a2 =>
 st1 (a2.add 260) (.int .i64 n57) w fun w3 =>
 ptrE p3 fun a4 =>
 ∃ n60_0 : Int, w3.cell? (a4.add 0) = some (.int .i64 n60_0) /\
 ∃ n60_1 : Int, w3.cell? (a4.add 1) = some (.int .i64 n60_1) /\
 ∃ s60_2 : ByteArray, w3.cell? (a4.add 2) = some (.string s60_2) /\
 ptrE p4 fun a5 =>
 stA prog 49 a5 #[.int .i64 n60_0, .int .i64 n60_1, .string s60_2] w3 fun w6 =>
 runD prog ds w6 fun w7 =>
 ptrE p4 fun a8 =>
 ∃ nR0_0 : Int, w7.cell? (a8.add 0) = some (.int .i64 nR0_0) /\
 ∃ nR0_1 : Int, w7.cell? (a8.add 1) = some (.int .i64 nR0_1) /\
 ∃ sR0_2 : ByteArray, w7.cell? (a8.add 2) = some (.string sR0_2) /\
 R (.returned (.tuple #[.agg #[.int .i64 nR0_0, .int .i64 nR0_1, .string sR0_2], .bool false])) w7
def F84_k2 (R : Rt) : EP := (fun E ds w => dPtr (E 0) fun p0 => dPtr (E 3) fun p3 => dPtr (E 4) fun p4 => F84_1 R p0 p3 p4 ds w)
def F84_q3 (R : Rt) : EQ := (thenQ (F84_k2 R) (F84_q1 R))
def F84_q4 (R : Rt) : EQ := (blockQ 0 (F84_q3 R))
def F84_q5 (R : Rt) (J1 : (Int) -> World -> Prop) : EQ := (thenQ (fun E _ w => dInt .i64 (E 12) fun n12 => J1 n12 w) (F84_q4 R))
def F84_2 (R : Rt) (J1 : (Int) -> World -> Prop) (p0 p3 p4 : Option Addr) (l10 : SV) (n11 n12 : Int) (ds : Ds) (w : World) : Prop :=
 Br (decide (n12 < n11)) (
 ∃ a9 : Addr, l10.a = some a9 /\ 0 ≤ n12 /\ n12 < (l10.len : Int) /\
 ∃ s15 : ByteArray, w.cell? (a9.add (n12.toNat * 1)) = some (.string s15) /\
 ptrE p0 fun a10 =>
 ∃ n19 : Int, w.cell? (a10.add 1) = some (.int .i64 n19) /\
 dwE w fun w11 =>
 ptrE p0 fun a12 =>
 ∃ s27 : ByteArray, w11.cell? a12 = some (.string s27) /\
 Br (decide ((IntKind.i64.wrap (n19 + (s15.size : Int))) ≤ (s27.size : Int))) (
 ptrE p0 fun a13 =>
 ∃ s34 : ByteArray, w11.cell? a13 = some (.string s34) /\
 ptrE p0 fun a14 =>
 ∃ n38 : Int, w11.cell? (a14.add 1) = some (.int .i64 n38) /\
 0 ≤ (IntKind.i64.wrap (n19 + (s15.size : Int))) /\ (IntKind.i64.wrap (n19 + (s15.size : Int))).toNat ≤ s34.size /\ 0 ≤ n38 /\ n38.toNat ≤ (IntKind.i64.wrap (n19 + (s15.size : Int))).toNat /\
 Calls prog 80 #[.string (s34.extract n38.toNat ((IntKind.i64.wrap (n19 + (s15.size : Int))).toNat))] w11 fun e w15 =>
 ∃ s41 : ByteArray, e = .returned (.string s41) /\
 Br (s41.toList == s15.toList) (
 ptrE p3 fun a16 =>
 st1 (a16.add 2) (.string s15) w15 fun w17 =>
 ptrE p0 fun a18 =>
 st1 (a18.add 1) (.int .i64 (IntKind.i64.wrap (n19 + (s15.size : Int)))) w17 fun w19 =>
 ptrE p3 fun a20 =>
 ∃ n51_0 : Int, w19.cell? (a20.add 0) = some (.int .i64 n51_0) /\
 ∃ n51_1 : Int, w19.cell? (a20.add 1) = some (.int .i64 n51_1) /\
 ∃ s51_2 : ByteArray, w19.cell? (a20.add 2) = some (.string s51_2) /\
 ptrE p4 fun a21 =>
 stA prog 49 a21 #[.int .i64 n51_0, .int .i64 n51_1, .string s51_2] w19 fun w22 =>
 runD prog ds w22 fun w23 =>
 ptrE p4 fun a24 =>
 ∃ nR0_0 : Int, w23.cell? (a24.add 0) = some (.int .i64 nR0_0) /\
 ∃ nR0_1 : Int, w23.cell? (a24.add 1) = some (.int .i64 nR0_1) /\
 ∃ sR0_2 : ByteArray, w23.cell? (a24.add 2) = some (.string sR0_2) /\
 R (.returned (.tuple #[.agg #[.int .i64 nR0_0, .int .i64 nR0_1, .string sR0_2], .bool true])) w23) (
 J1 (IntKind.i64.wrap (n12 + 1)) w15)) (
 J1 (IntKind.i64.wrap (n12 + 1)) w11)) (
 F84_1 R p0 p3 p4 ds w)
def F84_3 (R : Rt) (p0 p3 p4 : Option Addr) (l10 : SV) (n11 n12 : Int) (ds : Ds) (w : World) : Prop :=
 loopT (fun (J1 : (Int) -> World -> Prop) (s : Int) (w : World) => F84_2 R J1 p0 p3 p4 l10 n11 s ds w) n12 w
abbrev F84_4 (R : Rt) (p0 p3 p4 : Option Addr) (l10 : SV) (n11 n12 : Int) (ds : Ds) (w : World) : Prop := F84_3 R p0 p3 p4 l10 n11 n12 ds w
def F84_k6 (R : Rt) : EP := (fun E ds w => dPtr (E 0) fun p0 => dPtr (E 3) fun p3 => dPtr (E 4) fun p4 => dSl (E 10) fun l10 => dInt .i64 (E 11) fun n11 => dInt .i64 (E 12) fun n12 => F84_4 R p0 p3 p4 l10 n11 n12 ds w)
def F84_5 (R : Rt) (p0 : Option Addr) (n1_0 n1_1 : Int) (s1_2 : ByteArray) (ds : Ds) (w : World) : Prop :=
 alE (.cells #[.int .i64 n1_0, .int .i64 n1_1, .string s1_2] 49) w fun r3 w25 =>
 alE (.cells #[.int .i64 0, .int .i64 0, .string (⟨#[]⟩ : ByteArray)] 49) w25 fun r4 w26 =>
 st1 (⟨r3, 0, none⟩ : Addr) (.int .i64 4) w26 fun w27 =>
 Calls prog 98 #[] w27 fun e w28 =>
 ∃ l10 : SV, e = .returned (.slice l10.a l10.len l10.cap) /\
 F84_4 R p0 (some (⟨r3, 0, none⟩ : Addr)) (some (⟨r4, 0, none⟩ : Addr)) l10 (l10.len : Int) 0 ds w28
theorem c84_l : flat (bodyOf f84) = [c84_0, c84_1, c84_2, c84_3, c84_4, c84_5, c84_6] := by kernel_rfl
theorem c84_3_l : flat (innerC c84_3) = [c84_3_0] := by kernel_rfl
theorem c84_3_0_l : flat (innerC c84_3_0) = [c84_3_0_0, c84_3_0_1, c84_3_0_2, c84_3_0_3] := by kernel_rfl
theorem F84_1_ok (R : Rt) (p0 p3 p4 : Option Addr) (ds : Ds) (w : World) (E : Env) (e0 : E 0 = .pointer p0) (e3 : E 3 = .pointer p3) (e4 : E 4 = .pointer p4) (h : F84_1 R p0 p3 p4 ds w) :
    TrL prog f84.ntmps [c84_4, c84_5, c84_6] (F84_q1 R) E ds w :=
  TrL_leaf (X := F84_1 R p0 p3 p4 ds w) (setAll_cons e0 (setAll_cons e3 (setAll_cons e4 setAll_nil))) (by kernel_rfl) (by kernel_rfl) h
theorem F84_2_ok (R : Rt) (J1 : (Int) -> World -> Prop) (p0 p3 p4 : Option Addr) (l10 : SV) (n11 n12 : Int) (ds : Ds) (w : World) (E : Env) (e0 : E 0 = .pointer p0) (e3 : E 3 = .pointer p3) (e4 : E 4 = .pointer p4) (e10 : E 10 = .slice l10.a l10.len l10.cap) (e11 : E 11 = .int .i64 n11) (e12 : E 12 = .int .i64 n12) (h : F84_2 R J1 p0 p3 p4 l10 n11 n12 ds w) :
    TrL prog f84.ntmps [c84_3_0_0, c84_3_0_1, c84_3_0_2, c84_3_0_3] (F84_q5 R J1) E ds w :=
  TrL_leaf (X := F84_2 R J1 p0 p3 p4 l10 n11 n12 ds w) (setAll_cons e0 (setAll_cons e3 (setAll_cons e4 (setAll_cons e10 (setAll_cons e11 (setAll_cons e12 setAll_nil)))))) (by kernel_rfl) (by kernel_rfl) h
theorem F84_3_ok (R : Rt) (p0 p3 p4 : Option Addr) (l10 : SV) (n11 n12 : Int) (ds : Ds) (w : World) (E : Env) (e0 : E 0 = .pointer p0) (e3 : E 3 = .pointer p3) (e4 : E 4 = .pointer p4) (e10 : E 10 = .slice l10.a l10.len l10.cap) (e11 : E 11 = .int .i64 n11) (e12 : E 12 = .int .i64 n12) (h : F84_3 R p0 p3 p4 l10 n11 n12 ds w) :
    TrL prog f84.ntmps [c84_3_0] (F84_q4 R) E ds w :=
  TrL_one (Tr_loop' (c := innerC c84_3_0) (σ := Int) (enc := (fun (s : Int) (E : Env) => E 12 = .int .i64 s)) (D := (fun E K => dInt .i64 (E 12) fun n12 => K n12)) (F := (fun (J1 : (Int) -> World -> Prop) (s : Int) (w : World) => F84_2 R J1 p0 p3 p4 l10 n11 s ds w)) (s0 := n12) (by kernel_rfl) c84_3_0_l e12 (by kernel_rfl) (fun E K hD => by obtain ⟨n12, e12, hD⟩ := dInt_elim hD; exact ⟨n12, e12, hD⟩)
      (fun J1 s E' w' he ha hF => by
      have e12' := he
      exact F84_2_ok R J1 p0 p3 p4 l10 n11 s ds w' E' ((ha 0 (by kernel_rfl)).trans e0) ((ha 3 (by kernel_rfl)).trans e3) ((ha 4 (by kernel_rfl)).trans e4) ((ha 10 (by kernel_rfl)).trans e10) ((ha 11 (by kernel_rfl)).trans e11) e12' hF) h)
theorem F84_4_ok (R : Rt) (p0 p3 p4 : Option Addr) (l10 : SV) (n11 n12 : Int) (ds : Ds) (w : World) (E : Env) (e0 : E 0 = .pointer p0) (e3 : E 3 = .pointer p3) (e4 : E 4 = .pointer p4) (e10 : E 10 = .slice l10.a l10.len l10.cap) (e11 : E 11 = .int .i64 n11) (e12 : E 12 = .int .i64 n12) (h : F84_4 R p0 p3 p4 l10 n11 n12 ds w) :
    TrL prog f84.ntmps [c84_3, c84_4, c84_5, c84_6] (F84_q1 R) E ds w :=
  TrL_head (K := (F84_k2 R)) (Tr_block' (c := innerC c84_3) (by kernel_rfl) c84_3_l (F84_3_ok R p0 p3 p4 l10 n11 n12 ds w E e0 e3 e4 e10 e11 e12 h))
    (fun E' ds' w' hD => by
      obtain ⟨p0, e0, hD⟩ := dPtr_elim hD; obtain ⟨p3, e3, hD⟩ := dPtr_elim hD; obtain ⟨p4, e4, hD⟩ := dPtr_elim hD; exact F84_1_ok R p0 p3 p4 ds' w' E' e0 e3 e4 hD)
theorem F84_5_ok (R : Rt) (p0 : Option Addr) (n1_0 n1_1 : Int) (s1_2 : ByteArray) (ds : Ds) (w : World) (E : Env) (e0 : E 0 = .pointer p0) (e1 : E 1 = .agg #[.int .i64 n1_0, .int .i64 n1_1, .string s1_2]) (h : F84_5 R p0 n1_0 n1_1 s1_2 ds w) :
    TrL prog f84.ntmps [c84_0, c84_1, c84_2, c84_3, c84_4, c84_5, c84_6] (F84_q1 R) E ds w :=
  TrL_piece (pre := [c84_0, c84_1, c84_2]) (K := (F84_k6 R)) (X := F84_5 R p0 n1_0 n1_1 s1_2 ds w) (setAll_cons e0 (setAll_cons e1 setAll_nil)) (by kernel_rfl) (by kernel_rfl)
    (fun E' ds' w' hD => by
      obtain ⟨p0, e0, hD⟩ := dPtr_elim hD; obtain ⟨p3, e3, hD⟩ := dPtr_elim hD; obtain ⟨p4, e4, hD⟩ := dPtr_elim hD; obtain ⟨l10, e10, hD⟩ := dSl_elim hD; obtain ⟨n11, e11, hD⟩ := dInt_elim hD; obtain ⟨n12, e12, hD⟩ := dInt_elim hD; exact F84_4_ok R p0 p3 p4 l10 n11 n12 ds' w' E' e0 e3 e4 e10 e11 e12 hD) h
theorem F84_calls (p0 : Option Addr) (n1_0 n1_1 : Int) (s1_2 : ByteArray) (w : World) (R : Rt) (h : F84_5 R p0 n1_0 n1_1 s1_2 [] w) : Calls prog 84 #[.pointer p0, .agg #[.int .i64 n1_0, .int .i64 n1_1, .string s1_2]] w R :=
  calls_of_L (l := [c84_0, c84_1, c84_2, c84_3, c84_4, c84_5, c84_6]) func84 (by kernel_rfl) (by rw [ntmps84]; exact Nat.le_of_ble_eq_true (by kernel_rfl)) c84_l
    (F84_5_ok R p0 n1_0 n1_1 s1_2 [] w _ rfl rfl h)
noncomputable def c98_0 := cI3 f98 0
noncomputable def c98_1 := cI3 f98 1
noncomputable def c98_2 := cI3 f98 2
def F98_q1 (R : Rt) : EQ := endQ prog f98.results.toList R
def F98_1 (R : Rt) (ds : Ds) (w : World) : Prop :=
 alE (.cells #[.string (⟨#[46, 78, 85, 76, 76, 46]⟩ : ByteArray), .string (⟨#[46, 65, 78, 68, 46]⟩ : ByteArray), .string (⟨#[46, 78, 79, 84, 46]⟩ : ByteArray), .string (⟨#[46, 79, 82, 46]⟩ : ByteArray), .string (⟨#[46, 84, 46]⟩ : ByteArray), .string (⟨#[46, 70, 46]⟩ : ByteArray), .string (⟨#[58, 61]⟩ : ByteArray), .string (⟨#[61, 61]⟩ : ByteArray), .string (⟨#[60, 62]⟩ : ByteArray), .string (⟨#[33, 61]⟩ : ByteArray), .string (⟨#[60, 61]⟩ : ByteArray), .string (⟨#[62, 61]⟩ : ByteArray), .string (⟨#[45, 62]⟩ : ByteArray), .string (⟨#[40]⟩ : ByteArray), .string (⟨#[41]⟩ : ByteArray), .string (⟨#[91]⟩ : ByteArray), .string (⟨#[93]⟩ : ByteArray), .string (⟨#[123]⟩ : ByteArray), .string (⟨#[125]⟩ : ByteArray), .string (⟨#[44]⟩ : ByteArray), .string (⟨#[124]⟩ : ByteArray), .string (⟨#[58]⟩ : ByteArray), .string (⟨#[46]⟩ : ByteArray), .string (⟨#[61]⟩ : ByteArray), .string (⟨#[35]⟩ : ByteArray), .string (⟨#[60]⟩ : ByteArray), .string (⟨#[62]⟩ : ByteArray), .string (⟨#[43]⟩ : ByteArray), .string (⟨#[45]⟩ : ByteArray), .string (⟨#[42]⟩ : ByteArray), .string (⟨#[47]⟩ : ByteArray), .string (⟨#[37]⟩ : ByteArray), .string (⟨#[94]⟩ : ByteArray), .string (⟨#[36]⟩ : ByteArray), .string (⟨#[38]⟩ : ByteArray), .string (⟨#[63]⟩ : ByteArray), .string (⟨#[64]⟩ : ByteArray), .string (⟨#[33]⟩ : ByteArray)] 9) w fun r1 w1 =>
 runD prog ds w1 fun w2 =>
 R (.returned (.slice (some ⟨r1, 0, none⟩) 38 38)) w2
theorem c98_l : flat (bodyOf f98) = [c98_0, c98_1, c98_2] := by kernel_rfl
theorem F98_1_ok (R : Rt) (ds : Ds) (w : World) (E : Env) (h : F98_1 R ds w) :
    TrL prog f98.ntmps [c98_0, c98_1, c98_2] (F98_q1 R) E ds w :=
  TrL_leaf (X := F98_1 R ds w) setAll_nil (by kernel_rfl) (by kernel_rfl) h
theorem F98_calls  (w : World) (R : Rt) (h : F98_1 R [] w) : Calls prog 98 #[] w R :=
  calls_of_L (l := [c98_0, c98_1, c98_2]) func98 (by kernel_rfl) (by rw [ntmps98]; exact Nat.le_of_ble_eq_true (by kernel_rfl)) c98_l
    (F98_1_ok R [] w _  h)
end Go.Proofs.YtlogipcgejfnnaaGreatDoor

/- Shallow texts of functions, printed by program, each checked by the kernel against the loaded code. No condition. -/
set_option maxRecDepth 100000
set_option linter.unusedVariables false
namespace Go.Proofs.YtlogipcgejfnnaaGreatDoor
open Go.Sh
open Tryz
@[reducible] noncomputable def cI4 (f : Func) (i : Nat) : Code := itemAt (flat (bodyOf f)) i
@[reducible] noncomputable def cJ4 (c : Code) (i : Nat) : Code := itemAt (flat (innerC c)) i
noncomputable def c134_0 := cI4 f134 0
noncomputable def c134_1 := cI4 f134 1
noncomputable def c134_2 := cI4 f134 2
def F134_q1 (R : Rt) : EQ := endQ prog f134.results.toList R
def F134_1 (R : Rt) (n0 : Int) (ds : Ds) (w : World) : Prop :=
 IntKind.i64 = IntKind.i64 /\ (4 : Int) ≠ 0 /\
 Br ((n0.tmod 4) == 0) (
 IntKind.i64 = IntKind.i64 /\ (100 : Int) ≠ 0 /\
 Br ((n0.tmod 100) != 0) (
 runD prog ds w fun w1 =>
 R (.returned (.bool true)) w1) (
 IntKind.i64 = IntKind.i64 /\ (400 : Int) ≠ 0 /\
 runD prog ds w fun w2 =>
 R (.returned (.bool ((n0.tmod 400) == 0))) w2)) (
 runD prog ds w fun w3 =>
 R (.returned (.bool false)) w3)
theorem c134_l : flat (bodyOf f134) = [c134_0, c134_1, c134_2] := by kernel_rfl
theorem F134_1_ok (R : Rt) (n0 : Int) (ds : Ds) (w : World) (E : Env) (e0 : E 0 = .int .i64 n0) (h : F134_1 R n0 ds w) :
    TrL prog f134.ntmps [c134_0, c134_1, c134_2] (F134_q1 R) E ds w :=
  TrL_leaf (X := F134_1 R n0 ds w) (setAll_cons e0 setAll_nil) (by kernel_rfl) (by kernel_rfl) h
theorem F134_calls (n0 : Int) (w : World) (R : Rt) (h : F134_1 R n0 [] w) : Calls prog 134 #[.int .i64 n0] w R :=
  calls_of_L (l := [c134_0, c134_1, c134_2]) func134 (by kernel_rfl) (by rw [ntmps134]; exact Nat.le_of_ble_eq_true (by kernel_rfl)) c134_l
    (F134_1_ok R n0 [] w _ rfl h)
noncomputable def c124_0 := cI4 f124 0
noncomputable def c124_1 := cI4 f124 1
noncomputable def c124_2 := cI4 f124 2
noncomputable def c124_3 := cI4 f124 3
noncomputable def c124_4 := cI4 f124 4
noncomputable def c124_5 := cI4 f124 5
def F124_q1 (R : Rt) : EQ := endQ prog f124.results.toList R
def F124_1 (R : Rt) (n0 n1 : Int) (ds : Ds) (w : World) : Prop :=
 alE (.cells #[.int .i64 0, .int .i64 0, .int .i64 0, .int .i64 0, .int .i64 0, .int .i64 0, .int .i64 0, .int .i64 0, .int .i64 0, .int .i64 0, .int .i64 0, .int .i64 0] 141) w fun r5 w1 =>
 stA prog 141 (⟨r5, 0, none⟩ : Addr) #[.int .i64 31, .int .i64 28, .int .i64 31, .int .i64 30, .int .i64 31, .int .i64 30, .int .i64 31, .int .i64 31, .int .i64 30, .int .i64 31, .int .i64 30, .int .i64 31] w1 fun w2 =>
 Br (n1 == 2) (
 Calls prog 134 #[.int .i64 n0] w2 fun e w3 =>
 ∃ b11 : Bool, e = .returned (.bool b11) /\
 Br b11 (
 runD prog ds w3 fun w4 =>
 R (.returned (.int .i64 29)) w4) (
 0 ≤ (IntKind.i64.wrap (n1 - 1)) /\ (IntKind.i64.wrap (n1 - 1)) < (12 : Int) /\
 ∃ n16 : Int, w3.cell? ((⟨r5, 0, none⟩ : Addr).add ((IntKind.i64.wrap (n1 - 1)).toNat * 1)) = some (.int .i64 n16) /\
 runD prog ds w3 fun w5 =>
 R (.returned (.int .i64 n16)) w5)) (
 0 ≤ (IntKind.i64.wrap (n1 - 1)) /\ (IntKind.i64.wrap (n1 - 1)) < (12 : Int) /\
 ∃ n16 : Int, w2.cell? ((⟨r5, 0, none⟩ : Addr).add ((IntKind.i64.wrap (n1 - 1)).toNat * 1)) = some (.int .i64 n16) /\
 runD prog ds w2 fun w6 =>
 R (.returned (.int .i64 n16)) w6)
theorem c124_l : flat (bodyOf f124) = [c124_0, c124_1, c124_2, c124_3, c124_4, c124_5] := by kernel_rfl
theorem F124_1_ok (R : Rt) (n0 n1 : Int) (ds : Ds) (w : World) (E : Env) (e0 : E 0 = .int .i64 n0) (e1 : E 1 = .int .i64 n1) (h : F124_1 R n0 n1 ds w) :
    TrL prog f124.ntmps [c124_0, c124_1, c124_2, c124_3, c124_4, c124_5] (F124_q1 R) E ds w :=
  TrL_leaf (X := F124_1 R n0 n1 ds w) (setAll_cons e0 (setAll_cons e1 setAll_nil)) (by kernel_rfl) (by kernel_rfl) h
theorem F124_calls (n0 n1 : Int) (w : World) (R : Rt) (h : F124_1 R n0 n1 [] w) : Calls prog 124 #[.int .i64 n0, .int .i64 n1] w R :=
  calls_of_L (l := [c124_0, c124_1, c124_2, c124_3, c124_4, c124_5]) func124 (by kernel_rfl) (by rw [ntmps124]; exact Nat.le_of_ble_eq_true (by kernel_rfl)) c124_l
    (F124_1_ok R n0 n1 [] w _ rfl rfl h)
noncomputable def c125_0 := cI4 f125 0
noncomputable def c125_1 := cI4 f125 1
noncomputable def c125_2 := cI4 f125 2
noncomputable def c125_3 := cI4 f125 3
def F125_q1 (R : Rt) : EQ := endQ prog f125.results.toList R
def F125_1 (R : Rt) (n0 : Int) (ds : Ds) (w : World) : Prop :=
 IntKind.i64 = IntKind.i64 /\ (4 : Int) ≠ 0 /\
 IntKind.i64 = IntKind.i64 /\ (100 : Int) ≠ 0 /\
 IntKind.i64 = IntKind.i64 /\ (400 : Int) ≠ 0 /\
 runD prog ds w fun w1 =>
 R (.returned (.int .i64 (IntKind.i64.wrap ((IntKind.i64.wrap ((IntKind.i64.wrap ((IntKind.i64.wrap ((365 : Int) * (IntKind.i64.wrap (n0 - 1)))) + (IntKind.i64.wrap ((IntKind.i64.wrap (n0 - 1)).tdiv 4)))) - (IntKind.i64.wrap ((IntKind.i64.wrap (n0 - 1)).tdiv 100)))) + (IntKind.i64.wrap ((IntKind.i64.wrap (n0 - 1)).tdiv 400)))))) w1
theorem c125_l : flat (bodyOf f125) = [c125_0, c125_1, c125_2, c125_3] := by kernel_rfl
theorem F125_1_ok (R : Rt) (n0 : Int) (ds : Ds) (w : World) (E : Env) (e0 : E 0 = .int .i64 n0) (h : F125_1 R n0 ds w) :
    TrL prog f125.ntmps [c125_0, c125_1, c125_2, c125_3] (F125_q1 R) E ds w :=
  TrL_leaf (X := F125_1 R n0 ds w) (setAll_cons e0 setAll_nil) (by kernel_rfl) (by kernel_rfl) h
theorem F125_calls (n0 : Int) (w : World) (R : Rt) (h : F125_1 R n0 [] w) : Calls prog 125 #[.int .i64 n0] w R :=
  calls_of_L (l := [c125_0, c125_1, c125_2, c125_3]) func125 (by kernel_rfl) (by rw [ntmps125]; exact Nat.le_of_ble_eq_true (by kernel_rfl)) c125_l
    (F125_1_ok R n0 [] w _ rfl h)
noncomputable def c110_0 := cI4 f110 0
noncomputable def c110_1 := cI4 f110 1
noncomputable def c110_2 := cI4 f110 2
noncomputable def c110_3 := cI4 f110 3
noncomputable def c110_4 := cI4 f110 4
noncomputable def c110_5 := cI4 f110 5
noncomputable def c110_6 := cI4 f110 6
noncomputable def c110_7 := cI4 f110 7
noncomputable def c110_5_0 := cJ4 c110_5 0
noncomputable def c110_5_0_0 := cJ4 c110_5_0 0
noncomputable def c110_5_0_1 := cJ4 c110_5_0 1
noncomputable def c110_5_0_2 := cJ4 c110_5_0 2
noncomputable def c110_5_0_3 := cJ4 c110_5_0 3
def F110_q1 (R : Rt) : EQ := endQ prog f110.results.toList R
def F110_1 (R : Rt) (n8 : Int) (ds : Ds) (w : World) : Prop :=
 runD prog ds w fun w1 =>
 R (.returned (.tuple #[.int .i64 n8, .int .i64 0])) w1
def F110_k2 (R : Rt) : EP := (fun E ds w => dInt .i64 (E 8) fun n8 => F110_1 R n8 ds w)
def F110_q3 (R : Rt) : EQ := (thenQ (F110_k2 R) (F110_q1 R))
def F110_q4 (R : Rt) : EQ := (blockQ 0 (F110_q3 R))
def F110_q5 (R : Rt) (J1 : (Int × Int) -> World -> Prop) : EQ := (thenQ (fun E _ w => dInt .i64 (E 8) fun n8 => dInt .i64 (E 41) fun n41 => J1 (n8, n41) w) (F110_q4 R))
def F110_2 (R : Rt) (J1 : (Int × Int) -> World -> Prop) (n0 n8 n40 n41 : Int) (ds : Ds) (w : World) : Prop :=
 Br (decide (n41 < n40)) (
 Calls prog 124 #[.int .i64 n0, .int .i64 (IntKind.i64.wrap (n41 + 1))] w fun e w2 =>
 ∃ n48 : Int, e = .returned (.int .i64 n48) /\
 J1 ((IntKind.i64.wrap (n8 + n48)), (IntKind.i64.wrap (n41 + 1))) w2) (
 F110_1 R n8 ds w)
def F110_3 (R : Rt) (n0 n8 n40 n41 : Int) (ds : Ds) (w : World) : Prop :=
 loopT (fun (J1 : (Int × Int) -> World -> Prop) (s : Int × Int) (w : World) => F110_2 R J1 n0 s.1 n40 s.2 ds w) (n8, n41) w
abbrev F110_4 (R : Rt) (n0 n8 n40 n41 : Int) (ds : Ds) (w : World) : Prop := F110_3 R n0 n8 n40 n41 ds w
def F110_k6 (R : Rt) : EP := (fun E ds w => dInt .i64 (E 0) fun n0 => dInt .i64 (E 8) fun n8 => dInt .i64 (E 40) fun n40 => dInt .i64 (E 41) fun n41 => F110_4 R n0 n8 n40 n41 ds w)
def F110_5 (R : Rt) (n0 n1 n2 : Int) (b34 : Bool) (ds : Ds) (w : World) : Prop :=
 Br b34 (
 runD prog ds w fun w3 =>
 R (.returned (.tuple #[.int .i64 0, .int .i64 1])) w3) (
 Calls prog 125 #[.int .i64 n0] w fun e w4 =>
 ∃ n36 : Int, e = .returned (.int .i64 n36) /\
 F110_4 R n0 (IntKind.i64.wrap (n36 + n2)) (IntKind.i64.wrap (n1 - 1)) 0 ds w4)
def F110_k7 (R : Rt) : EP := (fun E ds w => dInt .i64 (E 0) fun n0 => dInt .i64 (E 1) fun n1 => dInt .i64 (E 2) fun n2 => dBl (E 34) fun b34 => F110_5 R n0 n1 n2 b34 ds w)
def F110_6 (R : Rt) (n0 n1 n2 : Int) (ds : Ds) (w : World) : Prop :=
 Br (decide (n0 < 1)) (
 F110_5 R n0 n1 n2 true ds w) (
 Br (decide (n0 > 9999)) (
 F110_5 R n0 n1 n2 true ds w) (
 Br (decide (n1 < 1)) (
 F110_5 R n0 n1 n2 true ds w) (
 Br (decide (n1 > 12)) (
 F110_5 R n0 n1 n2 true ds w) (
 Br (decide (n2 < 1)) (
 F110_5 R n0 n1 n2 true ds w) (
 Calls prog 124 #[.int .i64 n0, .int .i64 n1] w fun e w5 =>
 ∃ n32 : Int, e = .returned (.int .i64 n32) /\
 F110_5 R n0 n1 n2 (decide (n2 > n32)) ds w5)))))
def F110_k8 (R : Rt) : EP := (fun E ds w => dInt .i64 (E 0) fun n0 => dInt .i64 (E 1) fun n1 => dInt .i64 (E 2) fun n2 => F110_6 R n0 n1 n2 ds w)
def F110_7 (R : Rt) (n0 n1 n2 : Int) (ds : Ds) (w : World) : Prop :=
 F110_6 R n0 n1 n2 ds w
theorem c110_l : flat (bodyOf f110) = [c110_0, c110_1, c110_2, c110_3, c110_4, c110_5, c110_6, c110_7] := by kernel_rfl
theorem c110_5_l : flat (innerC c110_5) = [c110_5_0] := by kernel_rfl
theorem c110_5_0_l : flat (innerC c110_5_0) = [c110_5_0_0, c110_5_0_1, c110_5_0_2, c110_5_0_3] := by kernel_rfl
theorem F110_1_ok (R : Rt) (n8 : Int) (ds : Ds) (w : World) (E : Env) (e8 : E 8 = .int .i64 n8) (h : F110_1 R n8 ds w) :
    TrL prog f110.ntmps [c110_6, c110_7] (F110_q1 R) E ds w :=
  TrL_leaf (X := F110_1 R n8 ds w) (setAll_cons e8 setAll_nil) (by kernel_rfl) (by kernel_rfl) h
theorem F110_2_ok (R : Rt) (J1 : (Int × Int) -> World -> Prop) (n0 n8 n40 n41 : Int) (ds : Ds) (w : World) (E : Env) (e0 : E 0 = .int .i64 n0) (e8 : E 8 = .int .i64 n8) (e40 : E 40 = .int .i64 n40) (e41 : E 41 = .int .i64 n41) (h : F110_2 R J1 n0 n8 n40 n41 ds w) :
    TrL prog f110.ntmps [c110_5_0_0, c110_5_0_1, c110_5_0_2, c110_5_0_3] (F110_q5 R J1) E ds w :=
  TrL_leaf (X := F110_2 R J1 n0 n8 n40 n41 ds w) (setAll_cons e0 (setAll_cons e8 (setAll_cons e40 (setAll_cons e41 setAll_nil)))) (by kernel_rfl) (by kernel_rfl) h
theorem F110_3_ok (R : Rt) (n0 n8 n40 n41 : Int) (ds : Ds) (w : World) (E : Env) (e0 : E 0 = .int .i64 n0) (e8 : E 8 = .int .i64 n8) (e40 : E 40 = .int .i64 n40) (e41 : E 41 = .int .i64 n41) (h : F110_3 R n0 n8 n40 n41 ds w) :
    TrL prog f110.ntmps [c110_5_0] (F110_q4 R) E ds w :=
  TrL_one (Tr_loop' (c := innerC c110_5_0) (σ := Int × Int) (enc := (fun (s : Int × Int) (E : Env) => E 8 = .int .i64 s.1 /\ E 41 = .int .i64 s.2)) (D := (fun E K => dInt .i64 (E 8) fun n8 => dInt .i64 (E 41) fun n41 => K (n8, n41))) (F := (fun (J1 : (Int × Int) -> World -> Prop) (s : Int × Int) (w : World) => F110_2 R J1 n0 s.1 n40 s.2 ds w)) (s0 := (n8, n41)) (by kernel_rfl) c110_5_0_l ⟨e8, e41⟩ (by kernel_rfl) (fun E K hD => by obtain ⟨n8, e8, hD⟩ := dInt_elim hD; obtain ⟨n41, e41, hD⟩ := dInt_elim hD; exact ⟨(n8, n41), ⟨e8, e41⟩, hD⟩)
      (fun J1 s E' w' he ha hF => by
      obtain ⟨e8', e41'⟩ := he
      exact F110_2_ok R J1 n0 s.1 n40 s.2 ds w' E' ((ha 0 (by kernel_rfl)).trans e0) e8' ((ha 40 (by kernel_rfl)).trans e40) e41' hF) h)
theorem F110_4_ok (R : Rt) (n0 n8 n40 n41 : Int) (ds : Ds) (w : World) (E : Env) (e0 : E 0 = .int .i64 n0) (e8 : E 8 = .int .i64 n8) (e40 : E 40 = .int .i64 n40) (e41 : E 41 = .int .i64 n41) (h : F110_4 R n0 n8 n40 n41 ds w) :
    TrL prog f110.ntmps [c110_5, c110_6, c110_7] (F110_q1 R) E ds w :=
  TrL_head (K := (F110_k2 R)) (Tr_block' (c := innerC c110_5) (by kernel_rfl) c110_5_l (F110_3_ok R n0 n8 n40 n41 ds w E e0 e8 e40 e41 h))
    (fun E' ds' w' hD => by
      obtain ⟨n8, e8, hD⟩ := dInt_elim hD; exact F110_1_ok R n8 ds' w' E' e8 hD)
theorem F110_5_ok (R : Rt) (n0 n1 n2 : Int) (b34 : Bool) (ds : Ds) (w : World) (E : Env) (e0 : E 0 = .int .i64 n0) (e1 : E 1 = .int .i64 n1) (e2 : E 2 = .int .i64 n2) (e34 : E 34 = .bool b34) (h : F110_5 R n0 n1 n2 b34 ds w) :
    TrL prog f110.ntmps [c110_2, c110_3, c110_4, c110_5, c110_6, c110_7] (F110_q1 R) E ds w :=
  TrL_piece (pre := [c110_2, c110_3, c110_4]) (K := (F110_k6 R)) (X := F110_5 R n0 n1 n2 b34 ds w) (setAll_cons e0 (setAll_cons e1 (setAll_cons e2 (setAll_cons e34 setAll_nil)))) (by kernel_rfl) (by kernel_rfl)
    (fun E' ds' w' hD => by
      obtain ⟨n0, e0, hD⟩ := dInt_elim hD; obtain ⟨n8, e8, hD⟩ := dInt_elim hD; obtain ⟨n40, e40, hD⟩ := dInt_elim hD; obtain ⟨n41, e41, hD⟩ := dInt_elim hD; exact F110_4_ok R n0 n8 n40 n41 ds' w' E' e0 e8 e40 e41 hD) h
theorem F110_6_ok (R : Rt) (n0 n1 n2 : Int) (ds : Ds) (w : World) (E : Env) (e0 : E 0 = .int .i64 n0) (e1 : E 1 = .int .i64 n1) (e2 : E 2 = .int .i64 n2) (h : F110_6 R n0 n1 n2 ds w) :
    TrL prog f110.ntmps [c110_1, c110_2, c110_3, c110_4, c110_5, c110_6, c110_7] (F110_q1 R) E ds w :=
  TrL_piece (pre := [c110_1]) (K := (F110_k7 R)) (X := F110_6 R n0 n1 n2 ds w) (setAll_cons e0 (setAll_cons e1 (setAll_cons e2 setAll_nil))) (by kernel_rfl) (by kernel_rfl)
    (fun E' ds' w' hD => by
      obtain ⟨n0, e0, hD⟩ := dInt_elim hD; obtain ⟨n1, e1, hD⟩ := dInt_elim hD; obtain ⟨n2, e2, hD⟩ := dInt_elim hD; obtain ⟨b34, e34, hD⟩ := dBl_elim hD; exact F110_5_ok R n0 n1 n2 b34 ds' w' E' e0 e1 e2 e34 hD) h
theorem F110_7_ok (R : Rt) (n0 n1 n2 : Int) (ds : Ds) (w : World) (E : Env) (e0 : E 0 = .int .i64 n0) (e1 : E 1 = .int .i64 n1) (e2 : E 2 = .int .i64 n2) (h : F110_7 R n0 n1 n2 ds w) :
    TrL prog f110.ntmps [c110_0, c110_1, c110_2, c110_3, c110_4, c110_5, c110_6, c110_7] (F110_q1 R) E ds w :=
  TrL_piece (pre := [c110_0]) (K := (F110_k8 R)) (X := F110_7 R n0 n1 n2 ds w) (setAll_cons e0 (setAll_cons e1 (setAll_cons e2 setAll_nil))) (by kernel_rfl) (by kernel_rfl)
    (fun E' ds' w' hD => by
      obtain ⟨n0, e0, hD⟩ := dInt_elim hD; obtain ⟨n1, e1, hD⟩ := dInt_elim hD; obtain ⟨n2, e2, hD⟩ := dInt_elim hD; exact F110_6_ok R n0 n1 n2 ds' w' E' e0 e1 e2 hD) h
theorem F110_calls (n0 n1 n2 : Int) (w : World) (R : Rt) (h : F110_7 R n0 n1 n2 [] w) : Calls prog 110 #[.int .i64 n0, .int .i64 n1, .int .i64 n2] w R :=
  calls_of_L (l := [c110_0, c110_1, c110_2, c110_3, c110_4, c110_5, c110_6, c110_7]) func110 (by kernel_rfl) (by rw [ntmps110]; exact Nat.le_of_ble_eq_true (by kernel_rfl)) c110_l
    (F110_7_ok R n0 n1 n2 [] w _ rfl rfl rfl h)
noncomputable def c111_0 := cI4 f111 0
noncomputable def c111_1 := cI4 f111 1
noncomputable def c111_2 := cI4 f111 2
noncomputable def c111_3 := cI4 f111 3
noncomputable def c111_4 := cI4 f111 4
noncomputable def c111_5 := cI4 f111 5
noncomputable def c111_6 := cI4 f111 6
noncomputable def c111_7 := cI4 f111 7
noncomputable def c111_8 := cI4 f111 8
noncomputable def c111_9 := cI4 f111 9
noncomputable def c111_7_0 := cJ4 c111_7 0
noncomputable def c111_7_0_0 := cJ4 c111_7_0 0
noncomputable def c111_7_0_1 := cJ4 c111_7_0 1
noncomputable def c111_7_0_2 := cJ4 c111_7_0 2
noncomputable def c111_7_0_3 := cJ4 c111_7_0 3
def F111_q1 (R : Rt) : EQ := endQ prog f111.results.toList R
def F111_1 (R : Rt) (n3 n4 : Int) (ds : Ds) (w : World) : Prop :=
 runD prog ds w fun w1 =>
 R (.returned (.int .i64 (IntKind.i64.wrap (n3 * n4)))) w1
def F111_k2 (R : Rt) : EP := (fun E ds w => dInt .i64 (E 3) fun n3 => dInt .i64 (E 4) fun n4 => F111_1 R n3 n4 ds w)
def F111_q3 (R : Rt) : EQ := (thenQ (F111_k2 R) (F111_q1 R))
def F111_q4 (R : Rt) : EQ := (blockQ 0 (F111_q3 R))
def F111_q5 (R : Rt) (J1 : (Int × Int) -> World -> Prop) : EQ := (thenQ (fun E _ w => dInt .i64 (E 4) fun n4 => dInt .i64 (E 27) fun n27 => J1 (n4, n27) w) (F111_q4 R))
def F111_2 (R : Rt) (J1 : (Int × Int) -> World -> Prop) (s0 : ByteArray) (n3 n4 n26 n27 : Int) (ds : Ds) (w : World) : Prop :=
 Br (decide (n27 < n26)) (
 ∃ b32 : UInt8, 0 ≤ n27 /\ s0[n27.toNat]? = some b32 /\
 Br (decide ((b32.toNat : Int) < 48)) (
 F111_1 R n3 n4 ds w) (
 ∃ b37 : UInt8, 0 ≤ n27 /\ s0[n27.toNat]? = some b37 /\
 Br (decide ((b37.toNat : Int) > 57)) (
 F111_1 R n3 n4 ds w) (
 ∃ b44 : UInt8, 0 ≤ n27 /\ s0[n27.toNat]? = some b44 /\
 ∃ n48 : Int, ∃ w2 : World, (Builtin.min_ #[3, 3] 3 #[.int .i64 (IntKind.i64.wrap ((IntKind.i64.wrap (n4 * 10)) + (IntKind.i64.wrap (IntKind.u8.wrap ((b44.toNat : Int) - 48))))), .int .i64 1000000000000000]).run prog w = .ok (.int .i64 n48) w2 /\
 J1 (n48, (IntKind.i64.wrap (n27 + 1))) w2))) (
 F111_1 R n3 n4 ds w)
def F111_3 (R : Rt) (s0 : ByteArray) (n3 n4 n26 n27 : Int) (ds : Ds) (w : World) : Prop :=
 loopT (fun (J1 : (Int × Int) -> World -> Prop) (s : Int × Int) (w : World) => F111_2 R J1 s0 n3 s.1 n26 s.2 ds w) (n4, n27) w
abbrev F111_4 (R : Rt) (s0 : ByteArray) (n3 n4 n26 n27 : Int) (ds : Ds) (w : World) : Prop := F111_3 R s0 n3 n4 n26 n27 ds w
def F111_k6 (R : Rt) : EP := (fun E ds w => dStr (E 0) fun s0 => dInt .i64 (E 3) fun n3 => dInt .i64 (E 4) fun n4 => dInt .i64 (E 26) fun n26 => dInt .i64 (E 27) fun n27 => F111_4 R s0 n3 n4 n26 n27 ds w)
def F111_5 (R : Rt) (s0 : ByteArray) (n3 : Int) (ds : Ds) (w : World) : Prop :=
 F111_4 R s0 n3 0 (s0.size : Int) 0 ds w
def F111_k7 (R : Rt) : EP := (fun E ds w => dStr (E 0) fun s0 => dInt .i64 (E 3) fun n3 => F111_5 R s0 n3 ds w)
def F111_6 (R : Rt) (s0 : ByteArray) (ds : Ds) (w : World) : Prop :=
 Calls prog 126 #[.string s0, .string (⟨#[32]⟩ : ByteArray)] w fun e w3 =>
 ∃ s7 : ByteArray, e = .returned (.string s7) /\
 Br (!(s7.toList == (⟨#[]⟩ : ByteArray).toList)) (
 ∃ b12 : UInt8, 0 ≤ (0 : Int) /\ s7[(0 : Int).toNat]? = some b12 /\
 Br ((b12.toNat : Int) == 45) (
 ∃ b21 : UInt8, 0 ≤ (0 : Int) /\ s7[(0 : Int).toNat]? = some b21 /\
 Br ((b21.toNat : Int) == 45) (
 s7.size ≤ s7.size /\ 0 ≤ (1 : Int) /\ (1 : Int).toNat ≤ s7.size /\
 F111_5 R (s7.extract ((1 : Int).toNat) s7.size) (-1) ds w3) (
 s7.size ≤ s7.size /\ 0 ≤ (1 : Int) /\ (1 : Int).toNat ≤ s7.size /\
 F111_5 R (s7.extract ((1 : Int).toNat) s7.size) 1 ds w3)) (
 ∃ b16 : UInt8, 0 ≤ (0 : Int) /\ s7[(0 : Int).toNat]? = some b16 /\
 Br ((b16.toNat : Int) == 43) (
 ∃ b21 : UInt8, 0 ≤ (0 : Int) /\ s7[(0 : Int).toNat]? = some b21 /\
 Br ((b21.toNat : Int) == 45) (
 s7.size ≤ s7.size /\ 0 ≤ (1 : Int) /\ (1 : Int).toNat ≤ s7.size /\
 F111_5 R (s7.extract ((1 : Int).toNat) s7.size) (-1) ds w3) (
 s7.size ≤ s7.size /\ 0 ≤ (1 : Int) /\ (1 : Int).toNat ≤ s7.size /\
 F111_5 R (s7.extract ((1 : Int).toNat) s7.size) 1 ds w3)) (
 F111_5 R s7 1 ds w3))) (
 F111_5 R s7 1 ds w3)
theorem c111_l : flat (bodyOf f111) = [c111_0, c111_1, c111_2, c111_3, c111_4, c111_5, c111_6, c111_7, c111_8, c111_9] := by kernel_rfl
theorem c111_7_l : flat (innerC c111_7) = [c111_7_0] := by kernel_rfl
theorem c111_7_0_l : flat (innerC c111_7_0) = [c111_7_0_0, c111_7_0_1, c111_7_0_2, c111_7_0_3] := by kernel_rfl
theorem F111_1_ok (R : Rt) (n3 n4 : Int) (ds : Ds) (w : World) (E : Env) (e3 : E 3 = .int .i64 n3) (e4 : E 4 = .int .i64 n4) (h : F111_1 R n3 n4 ds w) :
    TrL prog f111.ntmps [c111_8, c111_9] (F111_q1 R) E ds w :=
  TrL_leaf (X := F111_1 R n3 n4 ds w) (setAll_cons e3 (setAll_cons e4 setAll_nil)) (by kernel_rfl) (by kernel_rfl) h
theorem F111_2_ok (R : Rt) (J1 : (Int × Int) -> World -> Prop) (s0 : ByteArray) (n3 n4 n26 n27 : Int) (ds : Ds) (w : World) (E : Env) (e0 : E 0 = .string s0) (e3 : E 3 = .int .i64 n3) (e4 : E 4 = .int .i64 n4) (e26 : E 26 = .int .i64 n26) (e27 : E 27 = .int .i64 n27) (h : F111_2 R J1 s0 n3 n4 n26 n27 ds w) :
    TrL prog f111.ntmps [c111_7_0_0, c111_7_0_1, c111_7_0_2, c111_7_0_3] (F111_q5 R J1) E ds w :=
  TrL_leaf (X := F111_2 R J1 s0 n3 n4 n26 n27 ds w) (setAll_cons e0 (setAll_cons e3 (setAll_cons e4 (setAll_cons e26 (setAll_cons e27 setAll_nil))))) (by kernel_rfl) (by kernel_rfl) h
theorem F111_3_ok (R : Rt) (s0 : ByteArray) (n3 n4 n26 n27 : Int) (ds : Ds) (w : World) (E : Env) (e0 : E 0 = .string s0) (e3 : E 3 = .int .i64 n3) (e4 : E 4 = .int .i64 n4) (e26 : E 26 = .int .i64 n26) (e27 : E 27 = .int .i64 n27) (h : F111_3 R s0 n3 n4 n26 n27 ds w) :
    TrL prog f111.ntmps [c111_7_0] (F111_q4 R) E ds w :=
  TrL_one (Tr_loop' (c := innerC c111_7_0) (σ := Int × Int) (enc := (fun (s : Int × Int) (E : Env) => E 4 = .int .i64 s.1 /\ E 27 = .int .i64 s.2)) (D := (fun E K => dInt .i64 (E 4) fun n4 => dInt .i64 (E 27) fun n27 => K (n4, n27))) (F := (fun (J1 : (Int × Int) -> World -> Prop) (s : Int × Int) (w : World) => F111_2 R J1 s0 n3 s.1 n26 s.2 ds w)) (s0 := (n4, n27)) (by kernel_rfl) c111_7_0_l ⟨e4, e27⟩ (by kernel_rfl) (fun E K hD => by obtain ⟨n4, e4, hD⟩ := dInt_elim hD; obtain ⟨n27, e27, hD⟩ := dInt_elim hD; exact ⟨(n4, n27), ⟨e4, e27⟩, hD⟩)
      (fun J1 s E' w' he ha hF => by
      obtain ⟨e4', e27'⟩ := he
      exact F111_2_ok R J1 s0 n3 s.1 n26 s.2 ds w' E' ((ha 0 (by kernel_rfl)).trans e0) ((ha 3 (by kernel_rfl)).trans e3) e4' ((ha 26 (by kernel_rfl)).trans e26) e27' hF) h)
theorem F111_4_ok (R : Rt) (s0 : ByteArray) (n3 n4 n26 n27 : Int) (ds : Ds) (w : World) (E : Env) (e0 : E 0 = .string s0) (e3 : E 3 = .int .i64 n3) (e4 : E 4 = .int .i64 n4) (e26 : E 26 = .int .i64 n26) (e27 : E 27 = .int .i64 n27) (h : F111_4 R s0 n3 n4 n26 n27 ds w) :
    TrL prog f111.ntmps [c111_7, c111_8, c111_9] (F111_q1 R) E ds w :=
  TrL_head (K := (F111_k2 R)) (Tr_block' (c := innerC c111_7) (by kernel_rfl) c111_7_l (F111_3_ok R s0 n3 n4 n26 n27 ds w E e0 e3 e4 e26 e27 h))
    (fun E' ds' w' hD => by
      obtain ⟨n3, e3, hD⟩ := dInt_elim hD; obtain ⟨n4, e4, hD⟩ := dInt_elim hD; exact F111_1_ok R n3 n4 ds' w' E' e3 e4 hD)
theorem F111_5_ok (R : Rt) (s0 : ByteArray) (n3 : Int) (ds : Ds) (w : World) (E : Env) (e0 : E 0 = .string s0) (e3 : E 3 = .int .i64 n3) (h : F111_5 R s0 n3 ds w) :
    TrL prog f111.ntmps [c111_5, c111_6, c111_7, c111_8, c111_9] (F111_q1 R) E ds w :=
  TrL_piece (pre := [c111_5, c111_6]) (K := (F111_k6 R)) (X := F111_5 R s0 n3 ds w) (setAll_cons e0 (setAll_cons e3 setAll_nil)) (by kernel_rfl) (by kernel_rfl)
    (fun E' ds' w' hD => by
      obtain ⟨s0, e0, hD⟩ := dStr_elim hD; obtain ⟨n3, e3, hD⟩ := dInt_elim hD; obtain ⟨n4, e4, hD⟩ := dInt_elim hD; obtain ⟨n26, e26, hD⟩ := dInt_elim hD; obtain ⟨n27, e27, hD⟩ := dInt_elim hD; exact F111_4_ok R s0 n3 n4 n26 n27 ds' w' E' e0 e3 e4 e26 e27 hD) h
theorem F111_6_ok (R : Rt) (s0 : ByteArray) (ds : Ds) (w : World) (E : Env) (e0 : E 0 = .string s0) (h : F111_6 R s0 ds w) :
    TrL prog f111.ntmps [c111_0, c111_1, c111_2, c111_3, c111_4, c111_5, c111_6, c111_7, c111_8, c111_9] (F111_q1 R) E ds w :=
  TrL_piece (pre := [c111_0, c111_1, c111_2, c111_3, c111_4]) (K := (F111_k7 R)) (X := F111_6 R s0 ds w) (setAll_cons e0 setAll_nil) (by kernel_rfl) (by kernel_rfl)
    (fun E' ds' w' hD => by
      obtain ⟨s0, e0, hD⟩ := dStr_elim hD; obtain ⟨n3, e3, hD⟩ := dInt_elim hD; exact F111_5_ok R s0 n3 ds' w' E' e0 e3 hD) h
theorem F111_calls (s0 : ByteArray) (w : World) (R : Rt) (h : F111_6 R s0 [] w) : Calls prog 111 #[.string s0] w R :=
  calls_of_L (l := [c111_0, c111_1, c111_2, c111_3, c111_4, c111_5, c111_6, c111_7, c111_8, c111_9]) func111 (by kernel_rfl) (by rw [ntmps111]; exact Nat.le_of_ble_eq_true (by kernel_rfl)) c111_l
    (F111_6_ok R s0 [] w _ rfl h)
noncomputable def c97_0 := cI4 f97 0
noncomputable def c97_1 := cI4 f97 1
noncomputable def c97_2 := cI4 f97 2
noncomputable def c97_3 := cI4 f97 3
noncomputable def c97_4 := cI4 f97 4
noncomputable def c97_5 := cI4 f97 5
noncomputable def c97_6 := cI4 f97 6
noncomputable def c97_7 := cI4 f97 7
def F97_q1 (R : Rt) : EQ := endQ prog f97.results.toList R
def F97_1 (R : Rt) (s0 : ByteArray) (ds : Ds) (w : World) : Prop :=
 Br (s0.toList == (⟨#[32, 32, 32, 32, 32, 32, 32, 32]⟩ : ByteArray).toList) (
 runD prog ds w fun w1 =>
 R (.returned (.tuple #[.int .i64 0, .bool true])) w1) (
 Br ((s0.size : Int) != 8) (
 runD prog ds w fun w2 =>
 R (.returned (.tuple #[.int .i64 0, .bool false])) w2) (
 Calls prog 109 #[.string s0, .string (⟨#[48, 49, 50, 51, 52, 53, 54, 55, 56, 57]⟩ : ByteArray)] w fun e w3 =>
 ∃ s13 : ByteArray, e = .returned (.string s13) /\
 Br (!(s13.toList == (⟨#[]⟩ : ByteArray).toList)) (
 runD prog ds w3 fun w4 =>
 R (.returned (.tuple #[.int .i64 0, .bool false])) w4) (
 dwE w3 fun w5 =>
 0 ≤ (4 : Int) /\ (4 : Int).toNat ≤ s0.size /\ 0 ≤ (4 : Int).toNat /\
 0 ≤ (6 : Int) /\ (6 : Int).toNat ≤ s0.size /\ 0 ≤ (4 : Int) /\ (4 : Int).toNat ≤ (6 : Int).toNat /\
 s0.size ≤ s0.size /\ 0 ≤ (6 : Int) /\ (6 : Int).toNat ≤ s0.size /\
 Calls prog 111 #[.string (s0.extract 0 ((4 : Int).toNat))] w5 fun e w6 =>
 ∃ n19 : Int, e = .returned (.int .i64 n19) /\
 Calls prog 111 #[.string (s0.extract ((4 : Int).toNat) ((6 : Int).toNat))] w6 fun e w7 =>
 ∃ n22 : Int, e = .returned (.int .i64 n22) /\
 Calls prog 111 #[.string (s0.extract ((6 : Int).toNat) s0.size)] w7 fun e w8 =>
 ∃ n25 : Int, e = .returned (.int .i64 n25) /\
 Calls prog 110 #[.int .i64 n19, .int .i64 n22, .int .i64 n25] w8 fun e w9 =>
 ∃ n26_0 : Int, ∃ n26_1 : Int, e = .returned (.tuple #[.int .i64 n26_0, .int .i64 n26_1]) /\
 runD prog ds w9 fun w10 =>
 R (.returned (.tuple #[.int .i64 n26_0, .bool (n26_1 == 0)])) w10)))
theorem c97_l : flat (bodyOf f97) = [c97_0, c97_1, c97_2, c97_3, c97_4, c97_5, c97_6, c97_7] := by kernel_rfl
theorem F97_1_ok (R : Rt) (s0 : ByteArray) (ds : Ds) (w : World) (E : Env) (e0 : E 0 = .string s0) (h : F97_1 R s0 ds w) :
    TrL prog f97.ntmps [c97_0, c97_1, c97_2, c97_3, c97_4, c97_5, c97_6, c97_7] (F97_q1 R) E ds w :=
  TrL_leaf (X := F97_1 R s0 ds w) (setAll_cons e0 setAll_nil) (by kernel_rfl) (by kernel_rfl) h
theorem F97_calls (s0 : ByteArray) (w : World) (R : Rt) (h : F97_1 R s0 [] w) : Calls prog 97 #[.string s0] w R :=
  calls_of_L (l := [c97_0, c97_1, c97_2, c97_3, c97_4, c97_5, c97_6, c97_7]) func97 (by kernel_rfl) (by rw [ntmps97]; exact Nat.le_of_ble_eq_true (by kernel_rfl)) c97_l
    (F97_1_ok R s0 [] w _ rfl h)
end Go.Proofs.YtlogipcgejfnnaaGreatDoor

/- Shallow texts of functions, printed by program, each checked by the kernel against the loaded code. No condition. -/
set_option maxRecDepth 100000
set_option linter.unusedVariables false
namespace Go.Proofs.YtlogipcgejfnnaaGreatDoor
open Go.Sh
open Tryz
@[reducible] noncomputable def cI5 (f : Func) (i : Nat) : Code := itemAt (flat (bodyOf f)) i
@[reducible] noncomputable def cJ5 (c : Code) (i : Nat) : Code := itemAt (flat (innerC c)) i
noncomputable def c127_0 := cI5 f127 0
noncomputable def c127_1 := cI5 f127 1
noncomputable def c127_2 := cI5 f127 2
def F127_q1 (R : Rt) : EQ := endQ prog f127.results.toList R
def F127_1 (R : Rt) (n0 : Int) (ds : Ds) (w : World) : Prop :=
 IntKind.i64 = IntKind.i64 /\ (4 : Int) ≠ 0 /\
 Br ((n0.tmod 4) == 0) (
 IntKind.i64 = IntKind.i64 /\ (100 : Int) ≠ 0 /\
 Br ((n0.tmod 100) != 0) (
 runD prog ds w fun w1 =>
 R (.returned (.bool true)) w1) (
 IntKind.i64 = IntKind.i64 /\ (400 : Int) ≠ 0 /\
 runD prog ds w fun w2 =>
 R (.returned (.bool ((n0.tmod 400) == 0))) w2)) (
 IntKind.i64 = IntKind.i64 /\ (400 : Int) ≠ 0 /\
 runD prog ds w fun w3 =>
 R (.returned (.bool ((n0.tmod 400) == 0))) w3)
theorem c127_l : flat (bodyOf f127) = [c127_0, c127_1, c127_2] := by kernel_rfl
theorem F127_1_ok (R : Rt) (n0 : Int) (ds : Ds) (w : World) (E : Env) (e0 : E 0 = .int .i64 n0) (h : F127_1 R n0 ds w) :
    TrL prog f127.ntmps [c127_0, c127_1, c127_2] (F127_q1 R) E ds w :=
  TrL_leaf (X := F127_1 R n0 ds w) (setAll_cons e0 setAll_nil) (by kernel_rfl) (by kernel_rfl) h
theorem F127_calls (n0 : Int) (w : World) (R : Rt) (h : F127_1 R n0 [] w) : Calls prog 127 #[.int .i64 n0] w R :=
  calls_of_L (l := [c127_0, c127_1, c127_2]) func127 (by kernel_rfl) (by rw [ntmps127]; exact Nat.le_of_ble_eq_true (by kernel_rfl)) c127_l
    (F127_1_ok R n0 [] w _ rfl h)
noncomputable def c112_0 := cI5 f112 0
noncomputable def c112_1 := cI5 f112 1
noncomputable def c112_2 := cI5 f112 2
noncomputable def c112_3 := cI5 f112 3
noncomputable def c112_4 := cI5 f112 4
noncomputable def c112_5 := cI5 f112 5
noncomputable def c112_6 := cI5 f112 6
def F112_q1 (R : Rt) : EQ := endQ prog f112.results.toList R
def F112_1 (R : Rt) (n0 n1 : Int) (ds : Ds) (w : World) : Prop :=
 Br (n1 == 2) (
 Calls prog 127 #[.int .i64 n0] w fun e w1 =>
 ∃ b8 : Bool, e = .returned (.bool b8) /\
 Br b8 (
 runD prog ds w1 fun w2 =>
 R (.returned (.int .i64 29)) w2) (
 runD prog ds w1 fun w3 =>
 R (.returned (.int .i64 28)) w3)) (
 Br (n1 == 4) (
 runD prog ds w fun w4 =>
 R (.returned (.int .i64 30)) w4) (
 Br (n1 == 6) (
 runD prog ds w fun w5 =>
 R (.returned (.int .i64 30)) w5) (
 Br (n1 == 9) (
 runD prog ds w fun w6 =>
 R (.returned (.int .i64 30)) w6) (
 Br (n1 == 11) (
 runD prog ds w fun w7 =>
 R (.returned (.int .i64 30)) w7) (
 runD prog ds w fun w8 =>
 R (.returned (.int .i64 31)) w8)))))
theorem c112_l : flat (bodyOf f112) = [c112_0, c112_1, c112_2, c112_3, c112_4, c112_5, c112_6] := by kernel_rfl
theorem F112_1_ok (R : Rt) (n0 n1 : Int) (ds : Ds) (w : World) (E : Env) (e0 : E 0 = .int .i64 n0) (e1 : E 1 = .int .i64 n1) (h : F112_1 R n0 n1 ds w) :
    TrL prog f112.ntmps [c112_0, c112_1, c112_2, c112_3, c112_4, c112_5, c112_6] (F112_q1 R) E ds w :=
  TrL_leaf (X := F112_1 R n0 n1 ds w) (setAll_cons e0 (setAll_cons e1 setAll_nil)) (by kernel_rfl) (by kernel_rfl) h
theorem F112_calls (n0 n1 : Int) (w : World) (R : Rt) (h : F112_1 R n0 n1 [] w) : Calls prog 112 #[.int .i64 n0, .int .i64 n1] w R :=
  calls_of_L (l := [c112_0, c112_1, c112_2, c112_3, c112_4, c112_5, c112_6]) func112 (by kernel_rfl) (by rw [ntmps112]; exact Nat.le_of_ble_eq_true (by kernel_rfl)) c112_l
    (F112_1_ok R n0 n1 [] w _ rfl rfl h)
noncomputable def c99_0 := cI5 f99 0
noncomputable def c99_1 := cI5 f99 1
noncomputable def c99_2 := cI5 f99 2
noncomputable def c99_3 := cI5 f99 3
noncomputable def c99_4 := cI5 f99 4
noncomputable def c99_5 := cI5 f99 5
noncomputable def c99_6 := cI5 f99 6
noncomputable def c99_7 := cI5 f99 7
noncomputable def c99_8 := cI5 f99 8
noncomputable def c99_5_0 := cJ5 c99_5 0
noncomputable def c99_5_0_0 := cJ5 c99_5_0 0
noncomputable def c99_5_0_1 := cJ5 c99_5_0 1
noncomputable def c99_5_0_2 := cJ5 c99_5_0 2
noncomputable def c99_5_0_3 := cJ5 c99_5_0 3
def F99_q1 (R : Rt) : EQ := endQ prog f99.results.toList R
def F99_1 (R : Rt) (n0 n8 : Int) (ds : Ds) (w : World) : Prop :=
 IntKind.i64 = IntKind.i64 /\ (4 : Int) ≠ 0 /\
 IntKind.i64 = IntKind.i64 /\ (100 : Int) ≠ 0 /\
 IntKind.i64 = IntKind.i64 /\ (400 : Int) ≠ 0 /\
 runD prog ds w fun w1 =>
 R (.returned (.tuple #[.int .i64 (IntKind.i64.wrap ((IntKind.i64.wrap ((IntKind.i64.wrap ((IntKind.i64.wrap (n8 + (IntKind.i64.wrap ((365 : Int) * (IntKind.i64.wrap (n0 - 1)))))) + (IntKind.i64.wrap ((IntKind.i64.wrap (n0 - 1)).tdiv 4)))) - (IntKind.i64.wrap ((IntKind.i64.wrap (n0 - 1)).tdiv 100)))) + (IntKind.i64.wrap ((IntKind.i64.wrap (n0 - 1)).tdiv 400)))), .int .i64 0])) w1
def F99_k2 (R : Rt) : EP := (fun E ds w => dInt .i64 (E 0) fun n0 => dInt .i64 (E 8) fun n8 => F99_1 R n0 n8 ds w)
def F99_q3 (R : Rt) : EQ := (thenQ (F99_k2 R) (F99_q1 R))
def F99_q4 (R : Rt) : EQ := (blockQ 0 (F99_q3 R))
def F99_q5 (R : Rt) (J1 : (Int × Int) -> World -> Prop) : EQ := (thenQ (fun E _ w => dInt .i64 (E 8) fun n8 => dInt .i64 (E 9) fun n9 => J1 (n8, n9) w) (F99_q4 R))
def F99_2 (R : Rt) (J1 : (Int × Int) -> World -> Prop) (n0 n1 n8 n9 : Int) (ds : Ds) (w : World) : Prop :=
 Br (decide (n9 < n1)) (
 Calls prog 112 #[.int .i64 n0, .int .i64 n9] w fun e w2 =>
 ∃ n45 : Int, e = .returned (.int .i64 n45) /\
 J1 ((IntKind.i64.wrap (n8 + n45)), (IntKind.i64.wrap (n9 + 1))) w2) (
 F99_1 R n0 n8 ds w)
def F99_3 (R : Rt) (n0 n1 n8 n9 : Int) (ds : Ds) (w : World) : Prop :=
 loopT (fun (J1 : (Int × Int) -> World -> Prop) (s : Int × Int) (w : World) => F99_2 R J1 n0 n1 s.1 s.2 ds w) (n8, n9) w
abbrev F99_4 (R : Rt) (n0 n1 n8 n9 : Int) (ds : Ds) (w : World) : Prop := F99_3 R n0 n1 n8 n9 ds w
def F99_k6 (R : Rt) : EP := (fun E ds w => dInt .i64 (E 0) fun n0 => dInt .i64 (E 1) fun n1 => dInt .i64 (E 8) fun n8 => dInt .i64 (E 9) fun n9 => F99_4 R n0 n1 n8 n9 ds w)
def F99_5 (R : Rt) (n0 n1 n2 : Int) (b35 : Bool) (ds : Ds) (w : World) : Prop :=
 Br b35 (
 runD prog ds w fun w3 =>
 R (.returned (.tuple #[.int .i64 0, .int .i64 1])) w3) (
 F99_4 R n0 n1 n2 1 ds w)
def F99_k7 (R : Rt) : EP := (fun E ds w => dInt .i64 (E 0) fun n0 => dInt .i64 (E 1) fun n1 => dInt .i64 (E 2) fun n2 => dBl (E 35) fun b35 => F99_5 R n0 n1 n2 b35 ds w)
def F99_6 (R : Rt) (n0 n1 n2 : Int) (ds : Ds) (w : World) : Prop :=
 Br (decide (n0 < 1)) (
 F99_5 R n0 n1 n2 true ds w) (
 Br (decide (n0 > 9999)) (
 F99_5 R n0 n1 n2 true ds w) (
 Br (decide (n1 < 1)) (
 F99_5 R n0 n1 n2 true ds w) (
 Br (decide (n1 > 12)) (
 F99_5 R n0 n1 n2 true ds w) (
 Br (decide (n2 < 1)) (
 F99_5 R n0 n1 n2 true ds w) (
 Calls prog 112 #[.int .i64 n0, .int .i64 n1] w fun e w4 =>
 ∃ n33 : Int, e = .returned (.int .i64 n33) /\
 F99_5 R n0 n1 n2 (decide (n2 > n33)) ds w4)))))
def F99_k8 (R : Rt) : EP := (fun E ds w => dInt .i64 (E 0) fun n0 => dInt .i64 (E 1) fun n1 => dInt .i64 (E 2) fun n2 => F99_6 R n0 n1 n2 ds w)
def F99_7 (R : Rt) (n0 n1 n2 : Int) (ds : Ds) (w : World) : Prop :=
 F99_6 R n0 n1 n2 ds w
theorem c99_l : flat (bodyOf f99) = [c99_0, c99_1, c99_2, c99_3, c99_4, c99_5, c99_6, c99_7, c99_8] := by kernel_rfl
theorem c99_5_l : flat (innerC c99_5) = [c99_5_0] := by kernel_rfl
theorem c99_5_0_l : flat (innerC c99_5_0) = [c99_5_0_0, c99_5_0_1, c99_5_0_2, c99_5_0_3] := by kernel_rfl
theorem F99_1_ok (R : Rt) (n0 n8 : Int) (ds : Ds) (w : World) (E : Env) (e0 : E 0 = .int .i64 n0) (e8 : E 8 = .int .i64 n8) (h : F99_1 R n0 n8 ds w) :
    TrL prog f99.ntmps [c99_6, c99_7, c99_8] (F99_q1 R) E ds w :=
  TrL_leaf (X := F99_1 R n0 n8 ds w) (setAll_cons e0 (setAll_cons e8 setAll_nil)) (by kernel_rfl) (by kernel_rfl) h
theorem F99_2_ok (R : Rt) (J1 : (Int × Int) -> World -> Prop) (n0 n1 n8 n9 : Int) (ds : Ds) (w : World) (E : Env) (e0 : E 0 = .int .i64 n0) (e1 : E 1 = .int .i64 n1) (e8 : E 8 = .int .i64 n8) (e9 : E 9 = .int .i64 n9) (h : F99_2 R J1 n0 n1 n8 n9 ds w) :
    TrL prog f99.ntmps [c99_5_0_0, c99_5_0_1, c99_5_0_2, c99_5_0_3] (F99_q5 R J1) E ds w :=
  TrL_leaf (X := F99_2 R J1 n0 n1 n8 n9 ds w) (setAll_cons e0 (setAll_cons e1 (setAll_cons e8 (setAll_cons e9 setAll_nil)))) (by kernel_rfl) (by kernel_rfl) h
theorem F99_3_ok (R : Rt) (n0 n1 n8 n9 : Int) (ds : Ds) (w : World) (E : Env) (e0 : E 0 = .int .i64 n0) (e1 : E 1 = .int .i64 n1) (e8 : E 8 = .int .i64 n8) (e9 : E 9 = .int .i64 n9) (h : F99_3 R n0 n1 n8 n9 ds w) :
    TrL prog f99.ntmps [c99_5_0] (F99_q4 R) E ds w :=
  TrL_one (Tr_loop' (c := innerC c99_5_0) (σ := Int × Int) (enc := (fun (s : Int × Int) (E : Env) => E 8 = .int .i64 s.1 /\ E 9 = .int .i64 s.2)) (D := (fun E K => dInt .i64 (E 8) fun n8 => dInt .i64 (E 9) fun n9 => K (n8, n9))) (F := (fun (J1 : (Int × Int) -> World -> Prop) (s : Int × Int) (w : World) => F99_2 R J1 n0 n1 s.1 s.2 ds w)) (s0 := (n8, n9)) (by kernel_rfl) c99_5_0_l ⟨e8, e9⟩ (by kernel_rfl) (fun E K hD => by obtain ⟨n8, e8, hD⟩ := dInt_elim hD; obtain ⟨n9, e9, hD⟩ := dInt_elim hD; exact ⟨(n8, n9), ⟨e8, e9⟩, hD⟩)
      (fun J1 s E' w' he ha hF => by
      obtain ⟨e8', e9'⟩ := he
      exact F99_2_ok R J1 n0 n1 s.1 s.2 ds w' E' ((ha 0 (by kernel_rfl)).trans e0) ((ha 1 (by kernel_rfl)).trans e1) e8' e9' hF) h)
theorem F99_4_ok (R : Rt) (n0 n1 n8 n9 : Int) (ds : Ds) (w : World) (E : Env) (e0 : E 0 = .int .i64 n0) (e1 : E 1 = .int .i64 n1) (e8 : E 8 = .int .i64 n8) (e9 : E 9 = .int .i64 n9) (h : F99_4 R n0 n1 n8 n9 ds w) :
    TrL prog f99.ntmps [c99_5, c99_6, c99_7, c99_8] (F99_q1 R) E ds w :=
  TrL_head (K := (F99_k2 R)) (Tr_block' (c := innerC c99_5) (by kernel_rfl) c99_5_l (F99_3_ok R n0 n1 n8 n9 ds w E e0 e1 e8 e9 h))
    (fun E' ds' w' hD => by
      obtain ⟨n0, e0, hD⟩ := dInt_elim hD; obtain ⟨n8, e8, hD⟩ := dInt_elim hD; exact F99_1_ok R n0 n8 ds' w' E' e0 e8 hD)
theorem F99_5_ok (R : Rt) (n0 n1 n2 : Int) (b35 : Bool) (ds : Ds) (w : World) (E : Env) (e0 : E 0 = .int .i64 n0) (e1 : E 1 = .int .i64 n1) (e2 : E 2 = .int .i64 n2) (e35 : E 35 = .bool b35) (h : F99_5 R n0 n1 n2 b35 ds w) :
    TrL prog f99.ntmps [c99_2, c99_3, c99_4, c99_5, c99_6, c99_7, c99_8] (F99_q1 R) E ds w :=
  TrL_piece (pre := [c99_2, c99_3, c99_4]) (K := (F99_k6 R)) (X := F99_5 R n0 n1 n2 b35 ds w) (setAll_cons e0 (setAll_cons e1 (setAll_cons e2 (setAll_cons e35 setAll_nil)))) (by kernel_rfl) (by kernel_rfl)
    (fun E' ds' w' hD => by
      obtain ⟨n0, e0, hD⟩ := dInt_elim hD; obtain ⟨n1, e1, hD⟩ := dInt_elim hD; obtain ⟨n8, e8, hD⟩ := dInt_elim hD; obtain ⟨n9, e9, hD⟩ := dInt_elim hD; exact F99_4_ok R n0 n1 n8 n9 ds' w' E' e0 e1 e8 e9 hD) h
theorem F99_6_ok (R : Rt) (n0 n1 n2 : Int) (ds : Ds) (w : World) (E : Env) (e0 : E 0 = .int .i64 n0) (e1 : E 1 = .int .i64 n1) (e2 : E 2 = .int .i64 n2) (h : F99_6 R n0 n1 n2 ds w) :
    TrL prog f99.ntmps [c99_1, c99_2, c99_3, c99_4, c99_5, c99_6, c99_7, c99_8] (F99_q1 R) E ds w :=
  TrL_piece (pre := [c99_1]) (K := (F99_k7 R)) (X := F99_6 R n0 n1 n2 ds w) (setAll_cons e0 (setAll_cons e1 (setAll_cons e2 setAll_nil))) (by kernel_rfl) (by kernel_rfl)
    (fun E' ds' w' hD => by
      obtain ⟨n0, e0, hD⟩ := dInt_elim hD; obtain ⟨n1, e1, hD⟩ := dInt_elim hD; obtain ⟨n2, e2, hD⟩ := dInt_elim hD; obtain ⟨b35, e35, hD⟩ := dBl_elim hD; exact F99_5_ok R n0 n1 n2 b35 ds' w' E' e0 e1 e2 e35 hD) h
theorem F99_7_ok (R : Rt) (n0 n1 n2 : Int) (ds : Ds) (w : World) (E : Env) (e0 : E 0 = .int .i64 n0) (e1 : E 1 = .int .i64 n1) (e2 : E 2 = .int .i64 n2) (h : F99_7 R n0 n1 n2 ds w) :
    TrL prog f99.ntmps [c99_0, c99_1, c99_2, c99_3, c99_4, c99_5, c99_6, c99_7, c99_8] (F99_q1 R) E ds w :=
  TrL_piece (pre := [c99_0]) (K := (F99_k8 R)) (X := F99_7 R n0 n1 n2 ds w) (setAll_cons e0 (setAll_cons e1 (setAll_cons e2 setAll_nil))) (by kernel_rfl) (by kernel_rfl)
    (fun E' ds' w' hD => by
      obtain ⟨n0, e0, hD⟩ := dInt_elim hD; obtain ⟨n1, e1, hD⟩ := dInt_elim hD; obtain ⟨n2, e2, hD⟩ := dInt_elim hD; exact F99_6_ok R n0 n1 n2 ds' w' E' e0 e1 e2 hD) h
theorem F99_calls (n0 n1 n2 : Int) (w : World) (R : Rt) (h : F99_7 R n0 n1 n2 [] w) : Calls prog 99 #[.int .i64 n0, .int .i64 n1, .int .i64 n2] w R :=
  calls_of_L (l := [c99_0, c99_1, c99_2, c99_3, c99_4, c99_5, c99_6, c99_7, c99_8]) func99 (by kernel_rfl) (by rw [ntmps99]; exact Nat.le_of_ble_eq_true (by kernel_rfl)) c99_l
    (F99_7_ok R n0 n1 n2 [] w _ rfl rfl rfl h)
noncomputable def c100_0 := cI5 f100 0
noncomputable def c100_1 := cI5 f100 1
noncomputable def c100_2 := cI5 f100 2
noncomputable def c100_3 := cI5 f100 3
noncomputable def c100_4 := cI5 f100 4
noncomputable def c100_5 := cI5 f100 5
noncomputable def c100_6 := cI5 f100 6
noncomputable def c100_7 := cI5 f100 7
noncomputable def c100_8 := cI5 f100 8
noncomputable def c100_9 := cI5 f100 9
noncomputable def c100_10 := cI5 f100 10
noncomputable def c100_11 := cI5 f100 11
noncomputable def c100_7_0 := cJ5 c100_7 0
noncomputable def c100_7_0_0 := cJ5 c100_7_0 0
noncomputable def c100_7_0_1 := cJ5 c100_7_0 1
noncomputable def c100_7_0_2 := cJ5 c100_7_0 2
noncomputable def c100_2_0 := cJ5 c100_2 0
noncomputable def c100_2_0_0 := cJ5 c100_2_0 0
noncomputable def c100_2_0_1 := cJ5 c100_2_0 1
noncomputable def c100_2_0_2 := cJ5 c100_2_0 2
def F100_q1 (R : Rt) : EQ := endQ prog f100.results.toList R
def F100_1 (R : Rt) (b4 : Bool) (n5 : Int) (ds : Ds) (w : World) : Prop :=
 Br b4 (
 runD prog ds w fun w1 =>
 R (.returned (.int .i64 (IntKind.i64.wrap (0 - n5)))) w1) (
 runD prog ds w fun w2 =>
 R (.returned (.int .i64 n5)) w2)
def F100_k2 (R : Rt) : EP := (fun E ds w => dBl (E 4) fun b4 => dInt .i64 (E 5) fun n5 => F100_1 R b4 n5 ds w)
def F100_q3 (R : Rt) : EQ := (thenQ (F100_k2 R) (F100_q1 R))
def F100_q4 (R : Rt) : EQ := (blockQ 2 (F100_q3 R))
def F100_q5 (R : Rt) (J1 : (Int × Int) -> World -> Prop) : EQ := (thenQ (fun E _ w => dInt .i64 (E 3) fun n3 => dInt .i64 (E 5) fun n5 => J1 (n3, n5) w) (F100_q4 R))
def F100_2 (R : Rt) (J1 : (Int × Int) -> World -> Prop) (s0 : ByteArray) (n3 : Int) (b4 : Bool) (n5 : Int) (ds : Ds) (w : World) : Prop :=
 Br (decide (n3 < (s0.size : Int))) (
 ∃ b47 : UInt8, 0 ≤ n3 /\ s0[n3.toNat]? = some b47 /\
 Calls prog 69 #[.int .u8 (b47.toNat : Int)] w fun e w3 =>
 ∃ b48 : Bool, e = .returned (.bool b48) /\
 Br b48 (
 ∃ b54 : UInt8, 0 ≤ n3 /\ s0[n3.toNat]? = some b54 /\
 ∃ n58 : Int, ∃ w4 : World, (Builtin.min_ #[3, 3] 3 #[.int .i64 (IntKind.i64.wrap ((IntKind.i64.wrap ((10 : Int) * n5)) + (IntKind.i64.wrap (IntKind.u8.wrap ((b54.toNat : Int) - 48))))), .int .i64 1000000000000000]).run prog w3 = .ok (.int .i64 n58) w4 /\
 J1 ((IntKind.i64.wrap (n3 + 1)), n58) w4) (
 F100_1 R b4 n5 ds w3)) (
 F100_1 R b4 n5 ds w)
def F100_3 (R : Rt) (s0 : ByteArray) (n3 : Int) (b4 : Bool) (n5 : Int) (ds : Ds) (w : World) : Prop :=
 loopT (fun (J1 : (Int × Int) -> World -> Prop) (s : Int × Int) (w : World) => F100_2 R J1 s0 s.1 b4 s.2 ds w) (n3, n5) w
abbrev F100_4 (R : Rt) (s0 : ByteArray) (n3 : Int) (b4 : Bool) (n5 : Int) (ds : Ds) (w : World) : Prop := F100_3 R s0 n3 b4 n5 ds w
def F100_k6 (R : Rt) : EP := (fun E ds w => dStr (E 0) fun s0 => dInt .i64 (E 3) fun n3 => dBl (E 4) fun b4 => dInt .i64 (E 5) fun n5 => F100_4 R s0 n3 b4 n5 ds w)
def F100_5 (R : Rt) (s0 : ByteArray) (n3 : Int) (ds : Ds) (w : World) : Prop :=
 Br (decide (n3 < (s0.size : Int))) (
 ∃ b25 : UInt8, 0 ≤ n3 /\ s0[n3.toNat]? = some b25 /\
 Br ((b25.toNat : Int) == 45) (
 ∃ b36 : UInt8, 0 ≤ n3 /\ s0[n3.toNat]? = some b36 /\
 F100_4 R s0 (IntKind.i64.wrap (n3 + 1)) ((b36.toNat : Int) == 45) 0 ds w) (
 ∃ b30 : UInt8, 0 ≤ n3 /\ s0[n3.toNat]? = some b30 /\
 Br ((b30.toNat : Int) == 43) (
 ∃ b36 : UInt8, 0 ≤ n3 /\ s0[n3.toNat]? = some b36 /\
 F100_4 R s0 (IntKind.i64.wrap (n3 + 1)) ((b36.toNat : Int) == 45) 0 ds w) (
 F100_4 R s0 n3 false 0 ds w))) (
 F100_4 R s0 n3 false 0 ds w)
def F100_k7 (R : Rt) : EP := (fun E ds w => dStr (E 0) fun s0 => dInt .i64 (E 3) fun n3 => F100_5 R s0 n3 ds w)
def F100_q8 (R : Rt) : EQ := (thenQ (F100_k7 R) (F100_q1 R))
def F100_q9 (R : Rt) : EQ := (blockQ 0 (F100_q8 R))
def F100_q10 (R : Rt) (J1 : (Int) -> World -> Prop) : EQ := (thenQ (fun E _ w => dInt .i64 (E 3) fun n3 => J1 n3 w) (F100_q9 R))
def F100_6 (R : Rt) (J1 : (Int) -> World -> Prop) (s0 : ByteArray) (n3 : Int) (ds : Ds) (w : World) : Prop :=
 Br (decide (n3 < (s0.size : Int))) (
 ∃ b13 : UInt8, 0 ≤ n3 /\ s0[n3.toNat]? = some b13 /\
 Br ((b13.toNat : Int) == 32) (
 J1 (IntKind.i64.wrap (n3 + 1)) w) (
 F100_5 R s0 n3 ds w)) (
 F100_5 R s0 n3 ds w)
def F100_7 (R : Rt) (s0 : ByteArray) (n3 : Int) (ds : Ds) (w : World) : Prop :=
 loopT (fun (J1 : (Int) -> World -> Prop) (s : Int) (w : World) => F100_6 R J1 s0 s ds w) n3 w
abbrev F100_8 (R : Rt) (s0 : ByteArray) (n3 : Int) (ds : Ds) (w : World) : Prop := F100_7 R s0 n3 ds w
def F100_k11 (R : Rt) : EP := (fun E ds w => dStr (E 0) fun s0 => dInt .i64 (E 3) fun n3 => F100_8 R s0 n3 ds w)
def F100_9 (R : Rt) (s0 : ByteArray) (ds : Ds) (w : World) : Prop :=
 F100_8 R s0 0 ds w
theorem c100_l : flat (bodyOf f100) = [c100_0, c100_1, c100_2, c100_3, c100_4, c100_5, c100_6, c100_7, c100_8, c100_9, c100_10, c100_11] := by kernel_rfl
theorem c100_7_l : flat (innerC c100_7) = [c100_7_0] := by kernel_rfl
theorem c100_7_0_l : flat (innerC c100_7_0) = [c100_7_0_0, c100_7_0_1, c100_7_0_2] := by kernel_rfl
theorem c100_2_l : flat (innerC c100_2) = [c100_2_0] := by kernel_rfl
theorem c100_2_0_l : flat (innerC c100_2_0) = [c100_2_0_0, c100_2_0_1, c100_2_0_2] := by kernel_rfl
theorem F100_1_ok (R : Rt) (b4 : Bool) (n5 : Int) (ds : Ds) (w : World) (E : Env) (e4 : E 4 = .bool b4) (e5 : E 5 = .int .i64 n5) (h : F100_1 R b4 n5 ds w) :
    TrL prog f100.ntmps [c100_8, c100_9, c100_10, c100_11] (F100_q1 R) E ds w :=
  TrL_leaf (X := F100_1 R b4 n5 ds w) (setAll_cons e4 (setAll_cons e5 setAll_nil)) (by kernel_rfl) (by kernel_rfl) h
theorem F100_2_ok (R : Rt) (J1 : (Int × Int) -> World -> Prop) (s0 : ByteArray) (n3 : Int) (b4 : Bool) (n5 : Int) (ds : Ds) (w : World) (E : Env) (e0 : E 0 = .string s0) (e3 : E 3 = .int .i64 n3) (e4 : E 4 = .bool b4) (e5 : E 5 = .int .i64 n5) (h : F100_2 R J1 s0 n3 b4 n5 ds w) :
    TrL prog f100.ntmps [c100_7_0_0, c100_7_0_1, c100_7_0_2] (F100_q5 R J1) E ds w :=
  TrL_leaf (X := F100_2 R J1 s0 n3 b4 n5 ds w) (setAll_cons e0 (setAll_cons e3 (setAll_cons e4 (setAll_cons e5 setAll_nil)))) (by kernel_rfl) (by kernel_rfl) h
theorem F100_3_ok (R : Rt) (s0 : ByteArray) (n3 : Int) (b4 : Bool) (n5 : Int) (ds : Ds) (w : World) (E : Env) (e0 : E 0 = .string s0) (e3 : E 3 = .int .i64 n3) (e4 : E 4 = .bool b4) (e5 : E 5 = .int .i64 n5) (h : F100_3 R s0 n3 b4 n5 ds w) :
    TrL prog f100.ntmps [c100_7_0] (F100_q4 R) E ds w :=
  TrL_one (Tr_loop' (c := innerC c100_7_0) (σ := Int × Int) (enc := (fun (s : Int × Int) (E : Env) => E 3 = .int .i64 s.1 /\ E 5 = .int .i64 s.2)) (D := (fun E K => dInt .i64 (E 3) fun n3 => dInt .i64 (E 5) fun n5 => K (n3, n5))) (F := (fun (J1 : (Int × Int) -> World -> Prop) (s : Int × Int) (w : World) => F100_2 R J1 s0 s.1 b4 s.2 ds w)) (s0 := (n3, n5)) (by kernel_rfl) c100_7_0_l ⟨e3, e5⟩ (by kernel_rfl) (fun E K hD => by obtain ⟨n3, e3, hD⟩ := dInt_elim hD; obtain ⟨n5, e5, hD⟩ := dInt_elim hD; exact ⟨(n3, n5), ⟨e3, e5⟩, hD⟩)
      (fun J1 s E' w' he ha hF => by
      obtain ⟨e3', e5'⟩ := he
      exact F100_2_ok R J1 s0 s.1 b4 s.2 ds w' E' ((ha 0 (by kernel_rfl)).trans e0) e3' ((ha 4 (by kernel_rfl)).trans e4) e5' hF) h)
theorem F100_4_ok (R : Rt) (s0 : ByteArray) (n3 : Int) (b4 : Bool) (n5 : Int) (ds : Ds) (w : World) (E : Env) (e0 : E 0 = .string s0) (e3 : E 3 = .int .i64 n3) (e4 : E 4 = .bool b4) (e5 : E 5 = .int .i64 n5) (h : F100_4 R s0 n3 b4 n5 ds w) :
    TrL prog f100.ntmps [c100_7, c100_8, c100_9, c100_10, c100_11] (F100_q1 R) E ds w :=
  TrL_head (K := (F100_k2 R)) (Tr_block' (c := innerC c100_7) (by kernel_rfl) c100_7_l (F100_3_ok R s0 n3 b4 n5 ds w E e0 e3 e4 e5 h))
    (fun E' ds' w' hD => by
      obtain ⟨b4, e4, hD⟩ := dBl_elim hD; obtain ⟨n5, e5, hD⟩ := dInt_elim hD; exact F100_1_ok R b4 n5 ds' w' E' e4 e5 hD)
theorem F100_5_ok (R : Rt) (s0 : ByteArray) (n3 : Int) (ds : Ds) (w : World) (E : Env) (e0 : E 0 = .string s0) (e3 : E 3 = .int .i64 n3) (h : F100_5 R s0 n3 ds w) :
    TrL prog f100.ntmps [c100_3, c100_4, c100_5, c100_6, c100_7, c100_8, c100_9, c100_10, c100_11] (F100_q1 R) E ds w :=
  TrL_piece (pre := [c100_3, c100_4, c100_5, c100_6]) (K := (F100_k6 R)) (X := F100_5 R s0 n3 ds w) (setAll_cons e0 (setAll_cons e3 setAll_nil)) (by kernel_rfl) (by kernel_rfl)
    (fun E' ds' w' hD => by
      obtain ⟨s0, e0, hD⟩ := dStr_elim hD; obtain ⟨n3, e3, hD⟩ := dInt_elim hD; obtain ⟨b4, e4, hD⟩ := dBl_elim hD; obtain ⟨n5, e5, hD⟩ := dInt_elim hD; exact F100_4_ok R s0 n3 b4 n5 ds' w' E' e0 e3 e4 e5 hD) h
theorem F100_6_ok (R : Rt) (J1 : (Int) -> World -> Prop) (s0 : ByteArray) (n3 : Int) (ds : Ds) (w : World) (E : Env) (e0 : E 0 = .string s0) (e3 : E 3 = .int .i64 n3) (h : F100_6 R J1 s0 n3 ds w) :
    TrL prog f100.ntmps [c100_2_0_0, c100_2_0_1, c100_2_0_2] (F100_q10 R J1) E ds w :=
  TrL_leaf (X := F100_6 R J1 s0 n3 ds w) (setAll_cons e0 (setAll_cons e3 setAll_nil)) (by kernel_rfl) (by kernel_rfl) h
theorem F100_7_ok (R : Rt) (s0 : ByteArray) (n3 : Int) (ds : Ds) (w : World) (E : Env) (e0 : E 0 = .string s0) (e3 : E 3 = .int .i64 n3) (h : F100_7 R s0 n3 ds w) :
    TrL prog f100.ntmps [c100_2_0] (F100_q9 R) E ds w :=
  TrL_one (Tr_loop' (c := innerC c100_2_0) (σ := Int) (enc := (fun (s : Int) (E : Env) => E 3 = .int .i64 s)) (D := (fun E K => dInt .i64 (E 3) fun n3 => K n3)) (F := (fun (J1 : (Int) -> World -> Prop) (s : Int) (w : World) => F100_6 R J1 s0 s ds w)) (s0 := n3) (by kernel_rfl) c100_2_0_l e3 (by kernel_rfl) (fun E K hD => by obtain ⟨n3, e3, hD⟩ := dInt_elim hD; exact ⟨n3, e3, hD⟩)
      (fun J1 s E' w' he ha hF => by
      have e3' := he
      exact F100_6_ok R J1 s0 s ds w' E' ((ha 0 (by kernel_rfl)).trans e0) e3' hF) h)
theorem F100_8_ok (R : Rt) (s0 : ByteArray) (n3 : Int) (ds : Ds) (w : World) (E : Env) (e0 : E 0 = .string s0) (e3 : E 3 = .int .i64 n3) (h : F100_8 R s0 n3 ds w) :
    TrL prog f100.ntmps [c100_2, c100_3, c100_4, c100_5, c100_6, c100_7, c100_8, c100_9, c100_10, c100_11] (F100_q1 R) E ds w :=
  TrL_head (K := (F100_k7 R)) (Tr_block' (c := innerC c100_2) (by kernel_rfl) c100_2_l (F100_7_ok R s0 n3 ds w E e0 e3 h))
    (fun E' ds' w' hD => by
      obtain ⟨s0, e0, hD⟩ := dStr_elim hD; obtain ⟨n3, e3, hD⟩ := dInt_elim hD; exact F100_5_ok R s0 n3 ds' w' E' e0 e3 hD)
theorem F100_9_ok (R : Rt) (s0 : ByteArray) (ds : Ds) (w : World) (E : Env) (e0 : E 0 = .string s0) (h : F100_9 R s0 ds w) :
    TrL prog f100.ntmps [c100_0, c100_1, c100_2, c100_3, c100_4, c100_5, c100_6, c100_7, c100_8, c100_9, c100_10, c100_11] (F100_q1 R) E ds w :=
  TrL_piece (pre := [c100_0, c100_1]) (K := (F100_k11 R)) (X := F100_9 R s0 ds w) (setAll_cons e0 setAll_nil) (by kernel_rfl) (by kernel_rfl)
    (fun E' ds' w' hD => by
      obtain ⟨s0, e0, hD⟩ := dStr_elim hD; obtain ⟨n3, e3, hD⟩ := dInt_elim hD; exact F100_8_ok R s0 n3 ds' w' E' e0 e3 hD) h
theorem F100_calls (s0 : ByteArray) (w : World) (R : Rt) (h : F100_9 R s0 [] w) : Calls prog 100 #[.string s0] w R :=
  calls_of_L (l := [c100_0, c100_1, c100_2, c100_3, c100_4, c100_5, c100_6, c100_7, c100_8, c100_9, c100_10, c100_11]) func100 (by kernel_rfl) (by rw [ntmps100]; exact Nat.le_of_ble_eq_true (by kernel_rfl)) c100_l
    (F100_9_ok R s0 [] w _ rfl h)
noncomputable def c86_0 := cI5 f86 0
noncomputable def c86_1 := cI5 f86 1
noncomputable def c86_2 := cI5 f86 2
noncomputable def c86_3 := cI5 f86 3
noncomputable def c86_4 := cI5 f86 4
noncomputable def c86_5 := cI5 f86 5
noncomputable def c86_6 := cI5 f86 6
noncomputable def c86_7 := cI5 f86 7
noncomputable def c86_8 := cI5 f86 8
noncomputable def c86_9 := cI5 f86 9
noncomputable def c86_6_0 := cJ5 c86_6 0
noncomputable def c86_6_0_0 := cJ5 c86_6_0 0
noncomputable def c86_6_0_1 := cJ5 c86_6_0 1
noncomputable def c86_6_0_2 := cJ5 c86_6_0 2
noncomputable def c86_6_0_3 := cJ5 c86_6_0 3
def F86_q1 (R : Rt) : EQ := endQ prog f86.results.toList R
def F86_1 (R : Rt) (s0 : ByteArray) (ds : Ds) (w : World) : Prop :=
 dwE w fun w1 =>
 0 ≤ (4 : Int) /\ (4 : Int).toNat ≤ s0.size /\ 0 ≤ (4 : Int).toNat /\
 0 ≤ (6 : Int) /\ (6 : Int).toNat ≤ s0.size /\ 0 ≤ (4 : Int) /\ (4 : Int).toNat ≤ (6 : Int).toNat /\
 s0.size ≤ s0.size /\ 0 ≤ (6 : Int) /\ (6 : Int).toNat ≤ s0.size /\
 Calls prog 100 #[.string (s0.extract 0 ((4 : Int).toNat))] w1 fun e w2 =>
 ∃ n24 : Int, e = .returned (.int .i64 n24) /\
 Calls prog 100 #[.string (s0.extract ((4 : Int).toNat) ((6 : Int).toNat))] w2 fun e w3 =>
 ∃ n27 : Int, e = .returned (.int .i64 n27) /\
 Calls prog 100 #[.string (s0.extract ((6 : Int).toNat) s0.size)] w3 fun e w4 =>
 ∃ n30 : Int, e = .returned (.int .i64 n30) /\
 Calls prog 99 #[.int .i64 n24, .int .i64 n27, .int .i64 n30] w4 fun e w5 =>
 ∃ n31_0 : Int, ∃ n31_1 : Int, e = .returned (.tuple #[.int .i64 n31_0, .int .i64 n31_1]) /\
 runD prog ds w5 fun w6 =>
 R (.returned (.tuple #[.int .i64 n31_0, .bool (n31_1 == 0)])) w6
def F86_k2 (R : Rt) : EP := (fun E ds w => dStr (E 0) fun s0 => F86_1 R s0 ds w)
def F86_q3 (R : Rt) : EQ := (thenQ (F86_k2 R) (F86_q1 R))
def F86_q4 (R : Rt) : EQ := (blockQ 0 (F86_q3 R))
def F86_q5 (R : Rt) (J1 : (Int) -> World -> Prop) : EQ := (thenQ (fun E _ w => dInt .i64 (E 4) fun n4 => J1 n4 w) (F86_q4 R))
def F86_2 (R : Rt) (J1 : (Int) -> World -> Prop) (s0 : ByteArray) (n4 : Int) (ds : Ds) (w : World) : Prop :=
 Br (decide (n4 < 8)) (
 ∃ b18 : UInt8, 0 ≤ n4 /\ s0[n4.toNat]? = some b18 /\
 Calls prog 69 #[.int .u8 (b18.toNat : Int)] w fun e w7 =>
 ∃ b19 : Bool, e = .returned (.bool b19) /\
 Br (!b19) (
 runD prog ds w7 fun w8 =>
 R (.returned (.tuple #[.int .i64 0, .bool false])) w8) (
 J1 (IntKind.i64.wrap (n4 + 1)) w7)) (
 F86_1 R s0 ds w)
def F86_3 (R : Rt) (s0 : ByteArray) (n4 : Int) (ds : Ds) (w : World) : Prop :=
 loopT (fun (J1 : (Int) -> World -> Prop) (s : Int) (w : World) => F86_2 R J1 s0 s ds w) n4 w
abbrev F86_4 (R : Rt) (s0 : ByteArray) (n4 : Int) (ds : Ds) (w : World) : Prop := F86_3 R s0 n4 ds w
def F86_k6 (R : Rt) : EP := (fun E ds w => dStr (E 0) fun s0 => dInt .i64 (E 4) fun n4 => F86_4 R s0 n4 ds w)
def F86_5 (R : Rt) (s0 : ByteArray) (ds : Ds) (w : World) : Prop :=
 Br (s0.toList == (⟨#[32, 32, 32, 32, 32, 32, 32, 32]⟩ : ByteArray).toList) (
 runD prog ds w fun w9 =>
 R (.returned (.tuple #[.int .i64 0, .bool true])) w9) (
 Br ((s0.size : Int) != 8) (
 runD prog ds w fun w10 =>
 R (.returned (.tuple #[.int .i64 0, .bool false])) w10) (
 F86_4 R s0 0 ds w))
theorem c86_l : flat (bodyOf f86) = [c86_0, c86_1, c86_2, c86_3, c86_4, c86_5, c86_6, c86_7, c86_8, c86_9] := by kernel_rfl
theorem c86_6_l : flat (innerC c86_6) = [c86_6_0] := by kernel_rfl
theorem c86_6_0_l : flat (innerC c86_6_0) = [c86_6_0_0, c86_6_0_1, c86_6_0_2, c86_6_0_3] := by kernel_rfl
theorem F86_1_ok (R : Rt) (s0 : ByteArray) (ds : Ds) (w : World) (E : Env) (e0 : E 0 = .string s0) (h : F86_1 R s0 ds w) :
    TrL prog f86.ntmps [c86_7, c86_8, c86_9] (F86_q1 R) E ds w :=
  TrL_leaf (X := F86_1 R s0 ds w) (setAll_cons e0 setAll_nil) (by kernel_rfl) (by kernel_rfl) h
theorem F86_2_ok (R : Rt) (J1 : (Int) -> World -> Prop) (s0 : ByteArray) (n4 : Int) (ds : Ds) (w : World) (E : Env) (e0 : E 0 = .string s0) (e4 : E 4 = .int .i64 n4) (h : F86_2 R J1 s0 n4 ds w) :
    TrL prog f86.ntmps [c86_6_0_0, c86_6_0_1, c86_6_0_2, c86_6_0_3] (F86_q5 R J1) E ds w :=
  TrL_leaf (X := F86_2 R J1 s0 n4 ds w) (setAll_cons e0 (setAll_cons e4 setAll_nil)) (by kernel_rfl) (by kernel_rfl) h
theorem F86_3_ok (R : Rt) (s0 : ByteArray) (n4 : Int) (ds : Ds) (w : World) (E : Env) (e0 : E 0 = .string s0) (e4 : E 4 = .int .i64 n4) (h : F86_3 R s0 n4 ds w) :
    TrL prog f86.ntmps [c86_6_0] (F86_q4 R) E ds w :=
  TrL_one (Tr_loop' (c := innerC c86_6_0) (σ := Int) (enc := (fun (s : Int) (E : Env) => E 4 = .int .i64 s)) (D := (fun E K => dInt .i64 (E 4) fun n4 => K n4)) (F := (fun (J1 : (Int) -> World -> Prop) (s : Int) (w : World) => F86_2 R J1 s0 s ds w)) (s0 := n4) (by kernel_rfl) c86_6_0_l e4 (by kernel_rfl) (fun E K hD => by obtain ⟨n4, e4, hD⟩ := dInt_elim hD; exact ⟨n4, e4, hD⟩)
      (fun J1 s E' w' he ha hF => by
      have e4' := he
      exact F86_2_ok R J1 s0 s ds w' E' ((ha 0 (by kernel_rfl)).trans e0) e4' hF) h)
theorem F86_4_ok (R : Rt) (s0 : ByteArray) (n4 : Int) (ds : Ds) (w : World) (E : Env) (e0 : E 0 = .string s0) (e4 : E 4 = .int .i64 n4) (h : F86_4 R s0 n4 ds w) :
    TrL prog f86.ntmps [c86_6, c86_7, c86_8, c86_9] (F86_q1 R) E ds w :=
  TrL_head (K := (F86_k2 R)) (Tr_block' (c := innerC c86_6) (by kernel_rfl) c86_6_l (F86_3_ok R s0 n4 ds w E e0 e4 h))
    (fun E' ds' w' hD => by
      obtain ⟨s0, e0, hD⟩ := dStr_elim hD; exact F86_1_ok R s0 ds' w' E' e0 hD)
theorem F86_5_ok (R : Rt) (s0 : ByteArray) (ds : Ds) (w : World) (E : Env) (e0 : E 0 = .string s0) (h : F86_5 R s0 ds w) :
    TrL prog f86.ntmps [c86_0, c86_1, c86_2, c86_3, c86_4, c86_5, c86_6, c86_7, c86_8, c86_9] (F86_q1 R) E ds w :=
  TrL_piece (pre := [c86_0, c86_1, c86_2, c86_3, c86_4, c86_5]) (K := (F86_k6 R)) (X := F86_5 R s0 ds w) (setAll_cons e0 setAll_nil) (by kernel_rfl) (by kernel_rfl)
    (fun E' ds' w' hD => by
      obtain ⟨s0, e0, hD⟩ := dStr_elim hD; obtain ⟨n4, e4, hD⟩ := dInt_elim hD; exact F86_4_ok R s0 n4 ds' w' E' e0 e4 hD) h
theorem F86_calls (s0 : ByteArray) (w : World) (R : Rt) (h : F86_5 R s0 [] w) : Calls prog 86 #[.string s0] w R :=
  calls_of_L (l := [c86_0, c86_1, c86_2, c86_3, c86_4, c86_5, c86_6, c86_7, c86_8, c86_9]) func86 (by kernel_rfl) (by rw [ntmps86]; exact Nat.le_of_ble_eq_true (by kernel_rfl)) c86_l
    (F86_5_ok R s0 [] w _ rfl h)
end Go.Proofs.YtlogipcgejfnnaaGreatDoor

/- Shallow texts of functions, printed by program, each checked by the kernel against the loaded code. No condition. -/
set_option maxRecDepth 100000
set_option linter.unusedVariables false
namespace Go.Proofs.YtlogipcgejfnnaaGreatDoor
open Go.Sh
open Tryz
@[reducible] noncomputable def cI6 (f : Func) (i : Nat) : Code := itemAt (flat (bodyOf f)) i
@[reducible] noncomputable def cJ6 (c : Code) (i : Nat) : Code := itemAt (flat (innerC c)) i
noncomputable def c39_0 := cI6 f39 0
noncomputable def c39_1 := cI6 f39 1
noncomputable def c39_2 := cI6 f39 2
def F39_q1 (R : Rt) : EQ := endQ prog f39.results.toList R
def F39_1 (R : Rt) (n0 : Int) (ds : Ds) (w : World) : Prop :=
 Br (n0 == 9) (
 runD prog ds w fun w1 =>
 R (.returned (.bool true)) w1) (
 runD prog ds w fun w2 =>
 R (.returned (.bool (n0 == 32))) w2)
theorem c39_l : flat (bodyOf f39) = [c39_0, c39_1, c39_2] := by kernel_rfl
theorem F39_1_ok (R : Rt) (n0 : Int) (ds : Ds) (w : World) (E : Env) (e0 : E 0 = .int .u8 n0) (h : F39_1 R n0 ds w) :
    TrL prog f39.ntmps [c39_0, c39_1, c39_2] (F39_q1 R) E ds w :=
  TrL_leaf (X := F39_1 R n0 ds w) (setAll_cons e0 setAll_nil) (by kernel_rfl) (by kernel_rfl) h
theorem F39_calls (n0 : Int) (w : World) (R : Rt) (h : F39_1 R n0 [] w) : Calls prog 39 #[.int .u8 n0] w R :=
  calls_of_L (l := [c39_0, c39_1, c39_2]) func39 (by kernel_rfl) (by rw [ntmps39]; exact Nat.le_of_ble_eq_true (by kernel_rfl)) c39_l
    (F39_1_ok R n0 [] w _ rfl h)
noncomputable def c63_0 := cI6 f63 0
noncomputable def c63_1 := cI6 f63 1
noncomputable def c63_2 := cI6 f63 2
def F63_q1 (R : Rt) : EQ := endQ prog f63.results.toList R
def F63_1 (R : Rt) (n0 : Int) (ds : Ds) (w : World) : Prop :=
 Br (n0 == 9) (
 runD prog ds w fun w1 =>
 R (.returned (.bool true)) w1) (
 Br (n0 == 10) (
 runD prog ds w fun w2 =>
 R (.returned (.bool true)) w2) (
 Br (decide (n0 ≥ 32)) (
 runD prog ds w fun w3 =>
 R (.returned (.bool (decide (n0 ≤ 126)))) w3) (
 runD prog ds w fun w4 =>
 R (.returned (.bool false)) w4)))
theorem c63_l : flat (bodyOf f63) = [c63_0, c63_1, c63_2] := by kernel_rfl
theorem F63_1_ok (R : Rt) (n0 : Int) (ds : Ds) (w : World) (E : Env) (e0 : E 0 = .int .u8 n0) (h : F63_1 R n0 ds w) :
    TrL prog f63.ntmps [c63_0, c63_1, c63_2] (F63_q1 R) E ds w :=
  TrL_leaf (X := F63_1 R n0 ds w) (setAll_cons e0 setAll_nil) (by kernel_rfl) (by kernel_rfl) h
theorem F63_calls (n0 : Int) (w : World) (R : Rt) (h : F63_1 R n0 [] w) : Calls prog 63 #[.int .u8 n0] w R :=
  calls_of_L (l := [c63_0, c63_1, c63_2]) func63 (by kernel_rfl) (by rw [ntmps63]; exact Nat.le_of_ble_eq_true (by kernel_rfl)) c63_l
    (F63_1_ok R n0 [] w _ rfl h)
noncomputable def c65_0 := cI6 f65 0
noncomputable def c65_1 := cI6 f65 1
noncomputable def c65_2 := cI6 f65 2
def F65_q1 (R : Rt) : EQ := endQ prog f65.results.toList R
def F65_1 (R : Rt) (n0 : Int) (ds : Ds) (w : World) : Prop :=
 Br (n0 == 95) (
 runD prog ds w fun w1 =>
 R (.returned (.bool true)) w1) (
 Br (decide (n0 ≥ 97)) (
 Br (decide (n0 ≤ 122)) (
 runD prog ds w fun w2 =>
 R (.returned (.bool true)) w2) (
 Br (decide (n0 ≥ 65)) (
 runD prog ds w fun w3 =>
 R (.returned (.bool (decide (n0 ≤ 90)))) w3) (
 runD prog ds w fun w4 =>
 R (.returned (.bool false)) w4))) (
 Br (decide (n0 ≥ 65)) (
 runD prog ds w fun w5 =>
 R (.returned (.bool (decide (n0 ≤ 90)))) w5) (
 runD prog ds w fun w6 =>
 R (.returned (.bool false)) w6)))
theorem c65_l : flat (bodyOf f65) = [c65_0, c65_1, c65_2] := by kernel_rfl
theorem F65_1_ok (R : Rt) (n0 : Int) (ds : Ds) (w : World) (E : Env) (e0 : E 0 = .int .u8 n0) (h : F65_1 R n0 ds w) :
    TrL prog f65.ntmps [c65_0, c65_1, c65_2] (F65_q1 R) E ds w :=
  TrL_leaf (X := F65_1 R n0 ds w) (setAll_cons e0 setAll_nil) (by kernel_rfl) (by kernel_rfl) h
theorem F65_calls (n0 : Int) (w : World) (R : Rt) (h : F65_1 R n0 [] w) : Calls prog 65 #[.int .u8 n0] w R :=
  calls_of_L (l := [c65_0, c65_1, c65_2]) func65 (by kernel_rfl) (by rw [ntmps65]; exact Nat.le_of_ble_eq_true (by kernel_rfl)) c65_l
    (F65_1_ok R n0 [] w _ rfl h)
noncomputable def c69_0 := cI6 f69 0
noncomputable def c69_1 := cI6 f69 1
noncomputable def c69_2 := cI6 f69 2
def F69_q1 (R : Rt) : EQ := endQ prog f69.results.toList R
def F69_1 (R : Rt) (n0 : Int) (ds : Ds) (w : World) : Prop :=
 Br (decide (n0 ≥ 48)) (
 runD prog ds w fun w1 =>
 R (.returned (.bool (decide (n0 ≤ 57)))) w1) (
 runD prog ds w fun w2 =>
 R (.returned (.bool false)) w2)
theorem c69_l : flat (bodyOf f69) = [c69_0, c69_1, c69_2] := by kernel_rfl
theorem F69_1_ok (R : Rt) (n0 : Int) (ds : Ds) (w : World) (E : Env) (e0 : E 0 = .int .u8 n0) (h : F69_1 R n0 ds w) :
    TrL prog f69.ntmps [c69_0, c69_1, c69_2] (F69_q1 R) E ds w :=
  TrL_leaf (X := F69_1 R n0 ds w) (setAll_cons e0 setAll_nil) (by kernel_rfl) (by kernel_rfl) h
theorem F69_calls (n0 : Int) (w : World) (R : Rt) (h : F69_1 R n0 [] w) : Calls prog 69 #[.int .u8 n0] w R :=
  calls_of_L (l := [c69_0, c69_1, c69_2]) func69 (by kernel_rfl) (by rw [ntmps69]; exact Nat.le_of_ble_eq_true (by kernel_rfl)) c69_l
    (F69_1_ok R n0 [] w _ rfl h)
noncomputable def c85_0 := cI6 f85 0
noncomputable def c85_1 := cI6 f85 1
noncomputable def c85_2 := cI6 f85 2
noncomputable def c85_3 := cI6 f85 3
noncomputable def c85_4 := cI6 f85 4
def F85_q1 (R : Rt) : EQ := endQ prog f85.results.toList R
def F85_1 (R : Rt) (n0 : Int) (ds : Ds) (w : World) : Prop :=
 Br (decide (n0 ≥ 97)) (
 Br (decide (n0 ≤ 122)) (
 runD prog ds w fun w1 =>
 R (.returned (.int .u8 (IntKind.u8.wrap (n0 - 32)))) w1) (
 runD prog ds w fun w2 =>
 R (.returned (.int .u8 n0)) w2)) (
 runD prog ds w fun w3 =>
 R (.returned (.int .u8 n0)) w3)
theorem c85_l : flat (bodyOf f85) = [c85_0, c85_1, c85_2, c85_3, c85_4] := by kernel_rfl
theorem F85_1_ok (R : Rt) (n0 : Int) (ds : Ds) (w : World) (E : Env) (e0 : E 0 = .int .u8 n0) (h : F85_1 R n0 ds w) :
    TrL prog f85.ntmps [c85_0, c85_1, c85_2, c85_3, c85_4] (F85_q1 R) E ds w :=
  TrL_leaf (X := F85_1 R n0 ds w) (setAll_cons e0 setAll_nil) (by kernel_rfl) (by kernel_rfl) h
theorem F85_calls (n0 : Int) (w : World) (R : Rt) (h : F85_1 R n0 [] w) : Calls prog 85 #[.int .u8 n0] w R :=
  calls_of_L (l := [c85_0, c85_1, c85_2, c85_3, c85_4]) func85 (by kernel_rfl) (by rw [ntmps85]; exact Nat.le_of_ble_eq_true (by kernel_rfl)) c85_l
    (F85_1_ok R n0 [] w _ rfl h)
noncomputable def c68_0 := cI6 f68 0
noncomputable def c68_1 := cI6 f68 1
noncomputable def c68_2 := cI6 f68 2
noncomputable def c68_3 := cI6 f68 3
noncomputable def c68_4 := cI6 f68 4
noncomputable def c68_5 := cI6 f68 5
noncomputable def c68_3_0 := cJ6 c68_3 0
noncomputable def c68_3_0_0 := cJ6 c68_3_0 0
noncomputable def c68_3_0_1 := cJ6 c68_3_0 1
noncomputable def c68_3_0_2 := cJ6 c68_3_0 2
noncomputable def c68_3_0_3 := cJ6 c68_3_0 3
def F68_q1 (R : Rt) : EQ := endQ prog f68.results.toList R
def F68_1 (R : Rt) (l3 : SV) (ds : Ds) (w : World) : Prop :=
 ∃ s22 : ByteArray, ∃ w1 : World, (convert 70 9 (.slice l3.a l3.len l3.cap)).run prog w = .ok (.string s22) w1 /\
 runD prog ds w1 fun w2 =>
 R (.returned (.string s22)) w2
def F68_k2 (R : Rt) : EP := (fun E ds w => dSl (E 3) fun l3 => F68_1 R l3 ds w)
def F68_q3 (R : Rt) : EQ := (thenQ (F68_k2 R) (F68_q1 R))
def F68_q4 (R : Rt) : EQ := (blockQ 0 (F68_q3 R))
def F68_q5 (R : Rt) (J1 : (Int) -> World -> Prop) : EQ := (thenQ (fun E _ w => dInt .i64 (E 4) fun n4 => J1 n4 w) (F68_q4 R))
def F68_2 (R : Rt) (J1 : (Int) -> World -> Prop) (l3 : SV) (n4 : Int) (ds : Ds) (w : World) : Prop :=
 Br (decide (n4 < (l3.len : Int))) (
 ∃ a3 : Addr, l3.a = some a3 /\ 0 ≤ n4 /\ n4 < (l3.len : Int) /\
 ∃ n18 : Int, w.cell? (a3.add (n4.toNat * 1)) = some (.int .u8 n18) /\
 Calls prog 85 #[.int .u8 n18] w fun e w4 =>
 ∃ n19 : Int, e = .returned (.int .u8 n19) /\
 ∃ a5 : Addr, l3.a = some a5 /\ 0 ≤ n4 /\ n4 < (l3.len : Int) /\
 st1 (a5.add (n4.toNat * 1)) (.int .u8 n19) w4 fun w6 =>
 J1 (IntKind.i64.wrap (n4 + 1)) w6) (
 F68_1 R l3 ds w)
def F68_3 (R : Rt) (l3 : SV) (n4 : Int) (ds : Ds) (w : World) : Prop :=
 loopT (fun (J1 : (Int) -> World -> Prop) (s : Int) (w : World) => F68_2 R J1 l3 s ds w) n4 w
abbrev F68_4 (R : Rt) (l3 : SV) (n4 : Int) (ds : Ds) (w : World) : Prop := F68_3 R l3 n4 ds w
def F68_k6 (R : Rt) : EP := (fun E ds w => dSl (E 3) fun l3 => dInt .i64 (E 4) fun n4 => F68_4 R l3 n4 ds w)
def F68_5 (R : Rt) (s0 : ByteArray) (ds : Ds) (w : World) : Prop :=
 ∃ l6 : SV, ∃ w7 : World, (convert 9 70 (.string s0)).run prog w = .ok (.slice l6.a l6.len l6.cap) w7 /\
 F68_4 R l6 0 ds w7
theorem c68_l : flat (bodyOf f68) = [c68_0, c68_1, c68_2, c68_3, c68_4, c68_5] := by kernel_rfl
theorem c68_3_l : flat (innerC c68_3) = [c68_3_0] := by kernel_rfl
theorem c68_3_0_l : flat (innerC c68_3_0) = [c68_3_0_0, c68_3_0_1, c68_3_0_2, c68_3_0_3] := by kernel_rfl
theorem F68_1_ok (R : Rt) (l3 : SV) (ds : Ds) (w : World) (E : Env) (e3 : E 3 = .slice l3.a l3.len l3.cap) (h : F68_1 R l3 ds w) :
    TrL prog f68.ntmps [c68_4, c68_5] (F68_q1 R) E ds w :=
  TrL_leaf (X := F68_1 R l3 ds w) (setAll_cons e3 setAll_nil) (by kernel_rfl) (by kernel_rfl) h
theorem F68_2_ok (R : Rt) (J1 : (Int) -> World -> Prop) (l3 : SV) (n4 : Int) (ds : Ds) (w : World) (E : Env) (e3 : E 3 = .slice l3.a l3.len l3.cap) (e4 : E 4 = .int .i64 n4) (h : F68_2 R J1 l3 n4 ds w) :
    TrL prog f68.ntmps [c68_3_0_0, c68_3_0_1, c68_3_0_2, c68_3_0_3] (F68_q5 R J1) E ds w :=
  TrL_leaf (X := F68_2 R J1 l3 n4 ds w) (setAll_cons e3 (setAll_cons e4 setAll_nil)) (by kernel_rfl) (by kernel_rfl) h
theorem F68_3_ok (R : Rt) (l3 : SV) (n4 : Int) (ds : Ds) (w : World) (E : Env) (e3 : E 3 = .slice l3.a l3.len l3.cap) (e4 : E 4 = .int .i64 n4) (h : F68_3 R l3 n4 ds w) :
    TrL prog f68.ntmps [c68_3_0] (F68_q4 R) E ds w :=
  TrL_one (Tr_loop' (c := innerC c68_3_0) (σ := Int) (enc := (fun (s : Int) (E : Env) => E 4 = .int .i64 s)) (D := (fun E K => dInt .i64 (E 4) fun n4 => K n4)) (F := (fun (J1 : (Int) -> World -> Prop) (s : Int) (w : World) => F68_2 R J1 l3 s ds w)) (s0 := n4) (by kernel_rfl) c68_3_0_l e4 (by kernel_rfl) (fun E K hD => by obtain ⟨n4, e4, hD⟩ := dInt_elim hD; exact ⟨n4, e4, hD⟩)
      (fun J1 s E' w' he ha hF => by
      have e4' := he
      exact F68_2_ok R J1 l3 s ds w' E' ((ha 3 (by kernel_rfl)).trans e3) e4' hF) h)
theorem F68_4_ok (R : Rt) (l3 : SV) (n4 : Int) (ds : Ds) (w : World) (E : Env) (e3 : E 3 = .slice l3.a l3.len l3.cap) (e4 : E 4 = .int .i64 n4) (h : F68_4 R l3 n4 ds w) :
    TrL prog f68.ntmps [c68_3, c68_4, c68_5] (F68_q1 R) E ds w :=
  TrL_head (K := (F68_k2 R)) (Tr_block' (c := innerC c68_3) (by kernel_rfl) c68_3_l (F68_3_ok R l3 n4 ds w E e3 e4 h))
    (fun E' ds' w' hD => by
      obtain ⟨l3, e3, hD⟩ := dSl_elim hD; exact F68_1_ok R l3 ds' w' E' e3 hD)
theorem F68_5_ok (R : Rt) (s0 : ByteArray) (ds : Ds) (w : World) (E : Env) (e0 : E 0 = .string s0) (h : F68_5 R s0 ds w) :
    TrL prog f68.ntmps [c68_0, c68_1, c68_2, c68_3, c68_4, c68_5] (F68_q1 R) E ds w :=
  TrL_piece (pre := [c68_0, c68_1, c68_2]) (K := (F68_k6 R)) (X := F68_5 R s0 ds w) (setAll_cons e0 setAll_nil) (by kernel_rfl) (by kernel_rfl)
    (fun E' ds' w' hD => by
      obtain ⟨l3, e3, hD⟩ := dSl_elim hD; obtain ⟨n4, e4, hD⟩ := dInt_elim hD; exact F68_4_ok R l3 n4 ds' w' E' e3 e4 hD) h
theorem F68_calls (s0 : ByteArray) (w : World) (R : Rt) (h : F68_5 R s0 [] w) : Calls prog 68 #[.string s0] w R :=
  calls_of_L (l := [c68_0, c68_1, c68_2, c68_3, c68_4, c68_5]) func68 (by kernel_rfl) (by rw [ntmps68]; exact Nat.le_of_ble_eq_true (by kernel_rfl)) c68_l
    (F68_5_ok R s0 [] w _ rfl h)
noncomputable def c75_0 := cI6 f75 0
noncomputable def c75_1 := cI6 f75 1
noncomputable def c75_2 := cI6 f75 2
noncomputable def c75_3 := cI6 f75 3
noncomputable def c75_4 := cI6 f75 4
noncomputable def c75_2_0 := cJ6 c75_2 0
noncomputable def c75_2_0_0 := cJ6 c75_2_0 0
noncomputable def c75_2_0_1 := cJ6 c75_2_0 1
noncomputable def c75_2_0_2 := cJ6 c75_2_0 2
noncomputable def c75_2_0_3 := cJ6 c75_2_0 3
def F75_q1 (R : Rt) : EQ := endQ prog f75.results.toList R
def F75_1 (R : Rt) (ds : Ds) (w : World) : Prop :=
 runD prog ds w fun w1 =>
 R (.returned (.bool false)) w1
def F75_k2 (R : Rt) : EP := (fun E ds w => F75_1 R ds w)
def F75_q3 (R : Rt) : EQ := (thenQ (F75_k2 R) (F75_q1 R))
def F75_q4 (R : Rt) : EQ := (blockQ 0 (F75_q3 R))
def F75_q5 (R : Rt) (J1 : (Int) -> World -> Prop) : EQ := (thenQ (fun E _ w => dInt .i64 (E 5) fun n5 => J1 n5 w) (F75_q4 R))
def F75_2 (R : Rt) (J1 : (Int) -> World -> Prop) (s0 : ByteArray) (n1 n5 : Int) (ds : Ds) (w : World) : Prop :=
 Br (decide (n5 < (s0.size : Int))) (
 ∃ b14 : UInt8, 0 ≤ n5 /\ s0[n5.toNat]? = some b14 /\
 Br ((b14.toNat : Int) == n1) (
 runD prog ds w fun w2 =>
 R (.returned (.bool true)) w2) (
 J1 (IntKind.i64.wrap (n5 + 1)) w)) (
 F75_1 R ds w)
def F75_3 (R : Rt) (s0 : ByteArray) (n1 n5 : Int) (ds : Ds) (w : World) : Prop :=
 loopT (fun (J1 : (Int) -> World -> Prop) (s : Int) (w : World) => F75_2 R J1 s0 n1 s ds w) n5 w
abbrev F75_4 (R : Rt) (s0 : ByteArray) (n1 n5 : Int) (ds : Ds) (w : World) : Prop := F75_3 R s0 n1 n5 ds w
def F75_k6 (R : Rt) : EP := (fun E ds w => dStr (E 0) fun s0 => dInt .u8 (E 1) fun n1 => dInt .i64 (E 5) fun n5 => F75_4 R s0 n1 n5 ds w)
def F75_5 (R : Rt) (s0 : ByteArray) (n1 : Int) (ds : Ds) (w : World) : Prop :=
 F75_4 R s0 n1 0 ds w
theorem c75_l : flat (bodyOf f75) = [c75_0, c75_1, c75_2, c75_3, c75_4] := by kernel_rfl
theorem c75_2_l : flat (innerC c75_2) = [c75_2_0] := by kernel_rfl
theorem c75_2_0_l : flat (innerC c75_2_0) = [c75_2_0_0, c75_2_0_1, c75_2_0_2, c75_2_0_3] := by kernel_rfl
theorem F75_1_ok (R : Rt) (ds : Ds) (w : World) (E : Env) (h : F75_1 R ds w) :
    TrL prog f75.ntmps [c75_3, c75_4] (F75_q1 R) E ds w :=
  TrL_leaf (X := F75_1 R ds w) setAll_nil (by kernel_rfl) (by kernel_rfl) h
theorem F75_2_ok (R : Rt) (J1 : (Int) -> World -> Prop) (s0 : ByteArray) (n1 n5 : Int) (ds : Ds) (w : World) (E : Env) (e0 : E 0 = .string s0) (e1 : E 1 = .int .u8 n1) (e5 : E 5 = .int .i64 n5) (h : F75_2 R J1 s0 n1 n5 ds w) :
    TrL prog f75.ntmps [c75_2_0_0, c75_2_0_1, c75_2_0_2, c75_2_0_3] (F75_q5 R J1) E ds w :=
  TrL_leaf (X := F75_2 R J1 s0 n1 n5 ds w) (setAll_cons e0 (setAll_cons e1 (setAll_cons e5 setAll_nil))) (by kernel_rfl) (by kernel_rfl) h
theorem F75_3_ok (R : Rt) (s0 : ByteArray) (n1 n5 : Int) (ds : Ds) (w : World) (E : Env) (e0 : E 0 = .string s0) (e1 : E 1 = .int .u8 n1) (e5 : E 5 = .int .i64 n5) (h : F75_3 R s0 n1 n5 ds w) :
    TrL prog f75.ntmps [c75_2_0] (F75_q4 R) E ds w :=
  TrL_one (Tr_loop' (c := innerC c75_2_0) (σ := Int) (enc := (fun (s : Int) (E : Env) => E 5 = .int .i64 s)) (D := (fun E K => dInt .i64 (E 5) fun n5 => K n5)) (F := (fun (J1 : (Int) -> World -> Prop) (s : Int) (w : World) => F75_2 R J1 s0 n1 s ds w)) (s0 := n5) (by kernel_rfl) c75_2_0_l e5 (by kernel_rfl) (fun E K hD => by obtain ⟨n5, e5, hD⟩ := dInt_elim hD; exact ⟨n5, e5, hD⟩)
      (fun J1 s E' w' he ha hF => by
      have e5' := he
      exact F75_2_ok R J1 s0 n1 s ds w' E' ((ha 0 (by kernel_rfl)).trans e0) ((ha 1 (by kernel_rfl)).trans e1) e5' hF) h)
theorem F75_4_ok (R : Rt) (s0 : ByteArray) (n1 n5 : Int) (ds : Ds) (w : World) (E : Env) (e0 : E 0 = .string s0) (e1 : E 1 = .int .u8 n1) (e5 : E 5 = .int .i64 n5) (h : F75_4 R s0 n1 n5 ds w) :
    TrL prog f75.ntmps [c75_2, c75_3, c75_4] (F75_q1 R) E ds w :=
  TrL_head (K := (F75_k2 R)) (Tr_block' (c := innerC c75_2) (by kernel_rfl) c75_2_l (F75_3_ok R s0 n1 n5 ds w E e0 e1 e5 h))
    (fun E' ds' w' hD => by
      exact F75_1_ok R ds' w' E'  hD)
theorem F75_5_ok (R : Rt) (s0 : ByteArray) (n1 : Int) (ds : Ds) (w : World) (E : Env) (e0 : E 0 = .string s0) (e1 : E 1 = .int .u8 n1) (h : F75_5 R s0 n1 ds w) :
    TrL prog f75.ntmps [c75_0, c75_1, c75_2, c75_3, c75_4] (F75_q1 R) E ds w :=
  TrL_piece (pre := [c75_0, c75_1]) (K := (F75_k6 R)) (X := F75_5 R s0 n1 ds w) (setAll_cons e0 (setAll_cons e1 setAll_nil)) (by kernel_rfl) (by kernel_rfl)
    (fun E' ds' w' hD => by
      obtain ⟨s0, e0, hD⟩ := dStr_elim hD; obtain ⟨n1, e1, hD⟩ := dInt_elim hD; obtain ⟨n5, e5, hD⟩ := dInt_elim hD; exact F75_4_ok R s0 n1 n5 ds' w' E' e0 e1 e5 hD) h
theorem F75_calls (s0 : ByteArray) (n1 : Int) (w : World) (R : Rt) (h : F75_5 R s0 n1 [] w) : Calls prog 75 #[.string s0, .int .u8 n1] w R :=
  calls_of_L (l := [c75_0, c75_1, c75_2, c75_3, c75_4]) func75 (by kernel_rfl) (by rw [ntmps75]; exact Nat.le_of_ble_eq_true (by kernel_rfl)) c75_l
    (F75_5_ok R s0 n1 [] w _ rfl rfl h)
end Go.Proofs.YtlogipcgejfnnaaGreatDoor
