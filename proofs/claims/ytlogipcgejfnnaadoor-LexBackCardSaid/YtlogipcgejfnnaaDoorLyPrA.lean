import Derived.Test.YtlogipcgejfnnaaDoorProg
import Derived.Test.YtlogipcgejfnnaaDoorShEight
/- Shallow texts of functions, printed by program, each checked by the kernel against the loaded code. No condition. -/
set_option maxRecDepth 100000
set_option linter.unusedVariables false
namespace Go.Proofs.YtlogipcgejfnnaaDoor
open Go.Sh
open Tryd
@[reducible] noncomputable def cI0 (f : Func) (i : Nat) : Code := itemAt (flat (bodyOf f)) i
noncomputable def c40_0 := cI0 f40 0
noncomputable def c40_1 := cI0 f40 1
noncomputable def c40_2 := cI0 f40 2
def F40_q1 (R : Rt) : EQ := endQ prog f40.results.toList R
def F40_1 (R : Rt) (s0 s1 : ByteArray) (ds : Ds) (w : World) : Prop :=
 Br (decide ((s0.size : Int) ≥ (s1.size : Int))) (
 0 ≤ (s1.size : Int) /\ (s1.size : Int).toNat ≤ s0.size /\ 0 ≤ (s1.size : Int).toNat /\
 runD prog ds w fun w1 =>
 R (.returned (.bool ((s0.extract 0 ((s1.size : Int).toNat)).toList == s1.toList))) w1) (
 runD prog ds w fun w2 =>
 R (.returned (.bool false)) w2)
theorem c40_l : flat (bodyOf f40) = [c40_0, c40_1, c40_2] := by kernel_rfl
theorem F40_1_ok (R : Rt) (s0 s1 : ByteArray) (ds : Ds) (w : World) (E : Env) (e0 : E 0 = .string s0) (e1 : E 1 = .string s1) (h : F40_1 R s0 s1 ds w) :
    TrL prog f40.ntmps [c40_0, c40_1, c40_2] (F40_q1 R) E ds w :=
  TrL_leaf (X := F40_1 R s0 s1 ds w) (setAll_cons e0 (setAll_cons e1 setAll_nil)) (by kernel_rfl) (by kernel_rfl) h
theorem F40_calls (s0 s1 : ByteArray) (w : World) (R : Rt) (h : F40_1 R s0 s1 [] w) : Calls prog 40 #[.string s0, .string s1] w R :=
  calls_of_L (l := [c40_0, c40_1, c40_2]) func40 (by kernel_rfl) (by rw [ntmps40]; exact Nat.le_of_ble_eq_true (by kernel_rfl)) c40_l
    (F40_1_ok R s0 s1 [] w _ rfl rfl h)
noncomputable def c26_0 := cI0 f26 0
noncomputable def c26_1 := cI0 f26 1
noncomputable def c26_2 := cI0 f26 2
def F26_q1 (R : Rt) : EQ := endQ prog f26.results.toList R
def F26_1 (R : Rt) (s0 s1 : ByteArray) (ds : Ds) (w : World) : Prop :=
 Calls prog 40 #[.string s0, .string s1] w fun e w1 =>
 ∃ b7 : Bool, e = .returned (.bool b7) /\
 runD prog ds w1 fun w2 =>
 R (.returned (.bool b7)) w2
theorem c26_l : flat (bodyOf f26) = [c26_0, c26_1, c26_2] := by kernel_rfl
theorem F26_1_ok (R : Rt) (s0 s1 : ByteArray) (ds : Ds) (w : World) (E : Env) (e0 : E 0 = .string s0) (e1 : E 1 = .string s1) (h : F26_1 R s0 s1 ds w) :
    TrL prog f26.ntmps [c26_0, c26_1, c26_2] (F26_q1 R) E ds w :=
  TrL_leaf (X := F26_1 R s0 s1 ds w) (setAll_cons e0 (setAll_cons e1 setAll_nil)) (by kernel_rfl) (by kernel_rfl) h
theorem F26_calls (s0 s1 : ByteArray) (w : World) (R : Rt) (h : F26_1 R s0 s1 [] w) : Calls prog 26 #[.string s0, .string s1] w R :=
  calls_of_L (l := [c26_0, c26_1, c26_2]) func26 (by kernel_rfl) (by rw [ntmps26]; exact Nat.le_of_ble_eq_true (by kernel_rfl)) c26_l
    (F26_1_ok R s0 s1 [] w _ rfl rfl h)
noncomputable def c84_0 := cI0 f84 0
noncomputable def c84_1 := cI0 f84 1
noncomputable def c84_2 := cI0 f84 2
def F84_q1 (R : Rt) : EQ := endQ prog f84.results.toList R
def F84_1 (R : Rt) (s0 : ByteArray) (n1 : Int) (ds : Ds) (w : World) : Prop :=
 ∃ n7 : Int, ∃ w1 : World, (callFunc 93 #[.string s0, .int .u8 n1]).run prog w = .ok (.value (.int .i64 n7)) w1 /\
 runD prog ds w1 fun w2 =>
 R (.returned (.int .i64 n7)) w2
theorem c84_l : flat (bodyOf f84) = [c84_0, c84_1, c84_2] := by kernel_rfl
theorem F84_1_ok (R : Rt) (s0 : ByteArray) (n1 : Int) (ds : Ds) (w : World) (E : Env) (e0 : E 0 = .string s0) (e1 : E 1 = .int .u8 n1) (h : F84_1 R s0 n1 ds w) :
    TrL prog f84.ntmps [c84_0, c84_1, c84_2] (F84_q1 R) E ds w :=
  TrL_leaf (X := F84_1 R s0 n1 ds w) (setAll_cons e0 (setAll_cons e1 setAll_nil)) (by kernel_rfl) (by kernel_rfl) h
theorem F84_calls (s0 : ByteArray) (n1 : Int) (w : World) (R : Rt) (h : F84_1 R s0 n1 [] w) : Calls prog 84 #[.string s0, .int .u8 n1] w R :=
  calls_of_L (l := [c84_0, c84_1, c84_2]) func84 (by kernel_rfl) (by rw [ntmps84]; exact Nat.le_of_ble_eq_true (by kernel_rfl)) c84_l
    (F84_1_ok R s0 n1 [] w _ rfl rfl h)
noncomputable def c74_0 := cI0 f74 0
noncomputable def c74_1 := cI0 f74 1
noncomputable def c74_2 := cI0 f74 2
def F74_q1 (R : Rt) : EQ := endQ prog f74.results.toList R
def F74_1 (R : Rt) (s0 : ByteArray) (n1 : Int) (ds : Ds) (w : World) : Prop :=
 Calls prog 84 #[.string s0, .int .u8 n1] w fun e w1 =>
 ∃ n7 : Int, e = .returned (.int .i64 n7) /\
 runD prog ds w1 fun w2 =>
 R (.returned (.int .i64 n7)) w2
theorem c74_l : flat (bodyOf f74) = [c74_0, c74_1, c74_2] := by kernel_rfl
theorem F74_1_ok (R : Rt) (s0 : ByteArray) (n1 : Int) (ds : Ds) (w : World) (E : Env) (e0 : E 0 = .string s0) (e1 : E 1 = .int .u8 n1) (h : F74_1 R s0 n1 ds w) :
    TrL prog f74.ntmps [c74_0, c74_1, c74_2] (F74_q1 R) E ds w :=
  TrL_leaf (X := F74_1 R s0 n1 ds w) (setAll_cons e0 (setAll_cons e1 setAll_nil)) (by kernel_rfl) (by kernel_rfl) h
theorem F74_calls (s0 : ByteArray) (n1 : Int) (w : World) (R : Rt) (h : F74_1 R s0 n1 [] w) : Calls prog 74 #[.string s0, .int .u8 n1] w R :=
  calls_of_L (l := [c74_0, c74_1, c74_2]) func74 (by kernel_rfl) (by rw [ntmps74]; exact Nat.le_of_ble_eq_true (by kernel_rfl)) c74_l
    (F74_1_ok R s0 n1 [] w _ rfl rfl h)
end Go.Proofs.YtlogipcgejfnnaaDoor

/- Shallow texts of functions, printed by program, each checked by the kernel against the loaded code. No condition. -/
set_option maxRecDepth 100000
set_option linter.unusedVariables false
namespace Go.Proofs.YtlogipcgejfnnaaDoor
open Go.Sh
open Tryd
@[reducible] noncomputable def cI1 (f : Func) (i : Nat) : Code := itemAt (flat (bodyOf f)) i
@[reducible] noncomputable def cJ1 (c : Code) (i : Nat) : Code := itemAt (flat (innerC c)) i
noncomputable def c16_0 := cI1 f16 0
noncomputable def c16_1 := cI1 f16 1
noncomputable def c16_2 := cI1 f16 2
noncomputable def c16_3 := cI1 f16 3
noncomputable def c16_4 := cI1 f16 4
noncomputable def c16_5 := cI1 f16 5
noncomputable def c16_3_0 := cJ1 c16_3 0
noncomputable def c16_3_0_0 := cJ1 c16_3_0 0
noncomputable def c16_3_0_1 := cJ1 c16_3_0 1
noncomputable def c16_3_0_2 := cJ1 c16_3_0 2
noncomputable def c16_3_0_3 := cJ1 c16_3_0 3
noncomputable def c16_3_0_2_0 := cJ1 c16_3_0_2 0
noncomputable def c16_3_0_2_1 := cJ1 c16_3_0_2 1
noncomputable def c16_3_0_2_2 := cJ1 c16_3_0_2 2
noncomputable def c16_3_0_2_2_0 := cJ1 c16_3_0_2_2 0
noncomputable def c16_3_0_2_2_1 := cJ1 c16_3_0_2_2 1
noncomputable def c16_3_0_2_2_1t_0 := itemAt (flat (thnC c16_3_0_2_2_1)) 0
noncomputable def c16_3_0_2_2_1e_0 := itemAt (flat (elsC c16_3_0_2_2_1)) 0
noncomputable def c16_3_0_2_2_1e_1 := itemAt (flat (elsC c16_3_0_2_2_1)) 1
def F16_q1 (R : Rt) : EQ := endQ prog f16.results.toList R
def F16_1 (R : Rt) (p0 p1 : Option Addr) (ds : Ds) (w : World) : Prop :=
 ptrE p1 fun a1 =>
 ∃ c62 : Array Value, c62.size = 256 /\ (∀ i, i < 256 -> w.cell? (a1.add i) = c62[i]?) /\
 ptrE p0 fun a2 =>
 stA prog 37 a2 c62 w fun w3 =>
 runD prog ds w3 fun w4 =>
 ptrE p0 fun a5 =>
 ∃ cR0 : Array Value, cR0.size = 256 /\ (∀ i, i < 256 -> w4.cell? (a5.add i) = cR0[i]?) /\
 R (.returned (.agg cR0)) w4
def F16_k2 (R : Rt) : EP := (fun E ds w => dPtr (E 0) fun p0 => dPtr (E 1) fun p1 => F16_1 R p0 p1 ds w)
def F16_q3 (R : Rt) : EQ := (thenQ (F16_k2 R) (F16_q1 R))
def F16_q4 (R : Rt) : EQ := (blockQ 0 (F16_q3 R))
def F16_q5 (R : Rt) (J1 : (Int) -> World -> Prop) : EQ := (thenQ (fun E _ w => dInt .i64 (E 4) fun n4 => J1 n4 w) (F16_q4 R))
def F16_2 (R : Rt) (J1 : (Int) -> World -> Prop) (p0 p1 : Option Addr) (n4 : Int) (ds : Ds) (w : World) : Prop :=
 J1 (IntKind.i64.wrap (n4 + 1)) w
def F16_k6 (R : Rt) (J1 : (Int) -> World -> Prop) : EP := (fun E ds w => dPtr (E 0) fun p0 => dPtr (E 1) fun p1 => dInt .i64 (E 4) fun n4 => F16_2 R J1 p0 p1 n4 ds w)
def F16_q7 (R : Rt) (J1 : (Int) -> World -> Prop) : EQ := (thenQ (F16_k6 R J1) (F16_q5 R J1))
def F16_q8 (R : Rt) (J1 : (Int) -> World -> Prop) : EQ := (blockQ 1 (F16_q7 R J1))
def F16_q9 (R : Rt) (J1 : (Int) -> World -> Prop) : EQ := (blockQ 2 (F16_q8 R J1))
def F16_3 (R : Rt) (J1 : (Int) -> World -> Prop) (p0 p1 : Option Addr) (n2 n4 : Int) (ds : Ds) (w : World) : Prop :=
 ptrE p1 fun a6 =>
 0 ≤ n2 /\ n2 < (256 : Int) /\
 st1 (a6.add (n2.toNat * 1)) (.int .u8 3) w fun w7 =>
 F16_2 R J1 p0 p1 n4 ds w7
def F16_4 (R : Rt) (J1 : (Int) -> World -> Prop) (p0 p1 : Option Addr) (n2 n3 n4 : Int) (b18 : Bool) (ds : Ds) (w : World) : Prop :=
 Br b18 (
 ptrE p1 fun a8 =>
 0 ≤ n2 /\ n2 < (256 : Int) /\
 st1 (a8.add (n2.toNat * 1)) (.int .u8 1) w fun w9 =>
 F16_2 R J1 p0 p1 n4 ds w9) (
 Br (decide (n3 ≥ 48)) (
 Br (decide (n3 ≤ 57)) (
 ptrE p1 fun a10 =>
 0 ≤ n2 /\ n2 < (256 : Int) /\
 st1 (a10.add (n2.toNat * 1)) (.int .u8 2) w fun w11 =>
 F16_2 R J1 p0 p1 n4 ds w11) (
 Br (n3 != 10) (
 Br (decide (n3 < 32)) (
 ptrE p1 fun a12 =>
 0 ≤ n2 /\ n2 < (256 : Int) /\
 st1 (a12.add (n2.toNat * 1)) (.int .u8 4) w fun w13 =>
 F16_2 R J1 p0 p1 n4 ds w13) (
 Br (decide (n3 > 126)) (
 ptrE p1 fun a14 =>
 0 ≤ n2 /\ n2 < (256 : Int) /\
 st1 (a14.add (n2.toNat * 1)) (.int .u8 4) w fun w15 =>
 F16_2 R J1 p0 p1 n4 ds w15) (
 F16_2 R J1 p0 p1 n4 ds w))) (
 F16_2 R J1 p0 p1 n4 ds w))) (
 Br (n3 != 10) (
 Br (decide (n3 < 32)) (
 ptrE p1 fun a16 =>
 0 ≤ n2 /\ n2 < (256 : Int) /\
 st1 (a16.add (n2.toNat * 1)) (.int .u8 4) w fun w17 =>
 F16_2 R J1 p0 p1 n4 ds w17) (
 Br (decide (n3 > 126)) (
 ptrE p1 fun a18 =>
 0 ≤ n2 /\ n2 < (256 : Int) /\
 st1 (a18.add (n2.toNat * 1)) (.int .u8 4) w fun w19 =>
 F16_2 R J1 p0 p1 n4 ds w19) (
 F16_2 R J1 p0 p1 n4 ds w))) (
 F16_2 R J1 p0 p1 n4 ds w)))
def F16_k10 (R : Rt) (J1 : (Int) -> World -> Prop) : EP := (fun E ds w => dPtr (E 0) fun p0 => dPtr (E 1) fun p1 => dInt .i64 (E 2) fun n2 => dInt .u8 (E 3) fun n3 => dInt .i64 (E 4) fun n4 => dBl (E 18) fun b18 => F16_4 R J1 p0 p1 n2 n3 n4 b18 ds w)
def F16_5 (R : Rt) (J1 : (Int) -> World -> Prop) (p0 p1 : Option Addr) (n2 n3 n4 : Int) (ds : Ds) (w : World) : Prop :=
 Br (n3 == 95) (
 F16_4 R J1 p0 p1 n2 n3 n4 true ds w) (
 Br (decide (n3 ≥ 97)) (
 Br (decide (n3 ≤ 122)) (
 F16_4 R J1 p0 p1 n2 n3 n4 true ds w) (
 Br (decide (n3 ≥ 65)) (
 F16_4 R J1 p0 p1 n2 n3 n4 (decide (n3 ≤ 90)) ds w) (
 F16_4 R J1 p0 p1 n2 n3 n4 false ds w))) (
 Br (decide (n3 ≥ 65)) (
 F16_4 R J1 p0 p1 n2 n3 n4 (decide (n3 ≤ 90)) ds w) (
 F16_4 R J1 p0 p1 n2 n3 n4 false ds w)))
def F16_6 (R : Rt) (J1 : (Int) -> World -> Prop) (p0 p1 : Option Addr) (n2 n3 n4 : Int) (b9 : Bool) (ds : Ds) (w : World) : Prop :=
 Br b9 (
 F16_3 R J1 p0 p1 n2 n4 ds w) (
 F16_5 R J1 p0 p1 n2 n3 n4 ds w)
def F16_k11 (R : Rt) (J1 : (Int) -> World -> Prop) : EP := (fun E ds w => dPtr (E 0) fun p0 => dPtr (E 1) fun p1 => dInt .i64 (E 2) fun n2 => dInt .u8 (E 3) fun n3 => dInt .i64 (E 4) fun n4 => dBl (E 9) fun b9 => F16_6 R J1 p0 p1 n2 n3 n4 b9 ds w)
def F16_7 (R : Rt) (J1 : (Int) -> World -> Prop) (p0 p1 : Option Addr) (n2 n3 n4 : Int) (ds : Ds) (w : World) : Prop :=
 Br (n3 == 9) (
 F16_6 R J1 p0 p1 n2 n3 n4 true ds w) (
 F16_6 R J1 p0 p1 n2 n3 n4 (n3 == 32) ds w)
abbrev F16_8 (R : Rt) (J1 : (Int) -> World -> Prop) (p0 p1 : Option Addr) (n2 n3 n4 : Int) (ds : Ds) (w : World) : Prop := F16_7 R J1 p0 p1 n2 n3 n4 ds w
def F16_k12 (R : Rt) (J1 : (Int) -> World -> Prop) : EP := (fun E ds w => dPtr (E 0) fun p0 => dPtr (E 1) fun p1 => dInt .i64 (E 2) fun n2 => dInt .u8 (E 3) fun n3 => dInt .i64 (E 4) fun n4 => F16_8 R J1 p0 p1 n2 n3 n4 ds w)
def F16_9 (R : Rt) (J1 : (Int) -> World -> Prop) (p0 p1 : Option Addr) (n4 : Int) (ds : Ds) (w : World) : Prop :=
 F16_8 R J1 p0 p1 n4 (IntKind.u8.wrap n4) n4 ds w
abbrev F16_10 (R : Rt) (J1 : (Int) -> World -> Prop) (p0 p1 : Option Addr) (n4 : Int) (ds : Ds) (w : World) : Prop := F16_9 R J1 p0 p1 n4 ds w
def F16_k13 (R : Rt) (J1 : (Int) -> World -> Prop) : EP := (fun E ds w => dPtr (E 0) fun p0 => dPtr (E 1) fun p1 => dInt .i64 (E 4) fun n4 => F16_10 R J1 p0 p1 n4 ds w)
def F16_11 (R : Rt) (J1 : (Int) -> World -> Prop) (p0 p1 : Option Addr) (n4 : Int) (ds : Ds) (w : World) : Prop :=
 Br (decide (n4 < 256)) (
 F16_10 R J1 p0 p1 n4 ds w) (
 F16_1 R p0 p1 ds w)
def F16_12 (R : Rt) (p0 p1 : Option Addr) (n4 : Int) (ds : Ds) (w : World) : Prop :=
 loopT (fun (J1 : (Int) -> World -> Prop) (s : Int) (w : World) => F16_11 R J1 p0 p1 s ds w) n4 w
abbrev F16_13 (R : Rt) (p0 p1 : Option Addr) (n4 : Int) (ds : Ds) (w : World) : Prop := F16_12 R p0 p1 n4 ds w
def F16_k14 (R : Rt) : EP := (fun E ds w => dPtr (E 0) fun p0 => dPtr (E 1) fun p1 => dInt .i64 (E 4) fun n4 => F16_13 R p0 p1 n4 ds w)
def F16_14 (R : Rt) (ds : Ds) (w : World) : Prop :=
 alE (.cells (zc prog 37) 37) w fun r0 w20 =>
 alE (.cells (zc prog 37) 37) w20 fun r1 w21 =>
 F16_13 R (some (⟨r0, 0, none⟩ : Addr)) (some (⟨r1, 0, none⟩ : Addr)) 0 ds w21
theorem c16_l : flat (bodyOf f16) = [c16_0, c16_1, c16_2, c16_3, c16_4, c16_5] := by kernel_rfl
theorem c16_3_l : flat (innerC c16_3) = [c16_3_0] := by kernel_rfl
theorem c16_3_0_l : flat (innerC c16_3_0) = [c16_3_0_0, c16_3_0_1, c16_3_0_2, c16_3_0_3] := by kernel_rfl
theorem c16_3_0_2_l : flat (innerC c16_3_0_2) = [c16_3_0_2_0, c16_3_0_2_1, c16_3_0_2_2] := by kernel_rfl
theorem c16_3_0_2_2_l : flat (innerC c16_3_0_2_2) = [c16_3_0_2_2_0, c16_3_0_2_2_1] := by kernel_rfl
theorem c16_3_0_2_2_1t_l : flat (thnC c16_3_0_2_2_1) = [c16_3_0_2_2_1t_0] := by kernel_rfl
theorem c16_3_0_2_2_1e_l : flat (elsC c16_3_0_2_2_1) = [c16_3_0_2_2_1e_0, c16_3_0_2_2_1e_1] := by kernel_rfl
theorem F16_1_ok (R : Rt) (p0 p1 : Option Addr) (ds : Ds) (w : World) (E : Env) (e0 : E 0 = .pointer p0) (e1 : E 1 = .pointer p1) (h : F16_1 R p0 p1 ds w) :
    TrL prog f16.ntmps [c16_4, c16_5] (F16_q1 R) E ds w :=
  TrL_leaf (X := F16_1 R p0 p1 ds w) (setAll_cons e0 (setAll_cons e1 setAll_nil)) (by kernel_rfl) (by kernel_rfl) h
theorem F16_2_ok (R : Rt) (J1 : (Int) -> World -> Prop) (p0 p1 : Option Addr) (n4 : Int) (ds : Ds) (w : World) (E : Env) (e0 : E 0 = .pointer p0) (e1 : E 1 = .pointer p1) (e4 : E 4 = .int .i64 n4) (h : F16_2 R J1 p0 p1 n4 ds w) :
    TrL prog f16.ntmps [c16_3_0_3] (F16_q5 R J1) E ds w :=
  TrL_leaf (X := F16_2 R J1 p0 p1 n4 ds w) (setAll_cons e0 (setAll_cons e1 (setAll_cons e4 setAll_nil))) (by kernel_rfl) (by kernel_rfl) h
theorem F16_3_ok (R : Rt) (J1 : (Int) -> World -> Prop) (p0 p1 : Option Addr) (n2 n4 : Int) (ds : Ds) (w : World) (E : Env) (e0 : E 0 = .pointer p0) (e1 : E 1 = .pointer p1) (e2 : E 2 = .int .i64 n2) (e4 : E 4 = .int .i64 n4) (h : F16_3 R J1 p0 p1 n2 n4 ds w) :
    TrL prog f16.ntmps [c16_3_0_2_2_1t_0] (F16_q9 R J1) E ds w :=
  TrL_leaf (X := F16_3 R J1 p0 p1 n2 n4 ds w) (setAll_cons e0 (setAll_cons e1 (setAll_cons e2 (setAll_cons e4 setAll_nil)))) (by kernel_rfl) (by kernel_rfl) h
theorem F16_4_ok (R : Rt) (J1 : (Int) -> World -> Prop) (p0 p1 : Option Addr) (n2 n3 n4 : Int) (b18 : Bool) (ds : Ds) (w : World) (E : Env) (e0 : E 0 = .pointer p0) (e1 : E 1 = .pointer p1) (e2 : E 2 = .int .i64 n2) (e3 : E 3 = .int .u8 n3) (e4 : E 4 = .int .i64 n4) (e18 : E 18 = .bool b18) (h : F16_4 R J1 p0 p1 n2 n3 n4 b18 ds w) :
    TrL prog f16.ntmps [c16_3_0_2_2_1e_1] (F16_q9 R J1) E ds w :=
  TrL_leaf (X := F16_4 R J1 p0 p1 n2 n3 n4 b18 ds w) (setAll_cons e0 (setAll_cons e1 (setAll_cons e2 (setAll_cons e3 (setAll_cons e4 (setAll_cons e18 setAll_nil)))))) (by kernel_rfl) (by kernel_rfl) h
theorem F16_5_ok (R : Rt) (J1 : (Int) -> World -> Prop) (p0 p1 : Option Addr) (n2 n3 n4 : Int) (ds : Ds) (w : World) (E : Env) (e0 : E 0 = .pointer p0) (e1 : E 1 = .pointer p1) (e2 : E 2 = .int .i64 n2) (e3 : E 3 = .int .u8 n3) (e4 : E 4 = .int .i64 n4) (h : F16_5 R J1 p0 p1 n2 n3 n4 ds w) :
    TrL prog f16.ntmps [c16_3_0_2_2_1e_0, c16_3_0_2_2_1e_1] (F16_q9 R J1) E ds w :=
  TrL_piece (pre := [c16_3_0_2_2_1e_0]) (K := (F16_k10 R J1)) (X := F16_5 R J1 p0 p1 n2 n3 n4 ds w) (setAll_cons e0 (setAll_cons e1 (setAll_cons e2 (setAll_cons e3 (setAll_cons e4 setAll_nil))))) (by kernel_rfl) (by kernel_rfl)
    (fun E' ds' w' hD => by
      obtain ⟨p0, e0, hD⟩ := dPtr_elim hD; obtain ⟨p1, e1, hD⟩ := dPtr_elim hD; obtain ⟨n2, e2, hD⟩ := dInt_elim hD; obtain ⟨n3, e3, hD⟩ := dInt_elim hD; obtain ⟨n4, e4, hD⟩ := dInt_elim hD; obtain ⟨b18, e18, hD⟩ := dBl_elim hD; exact F16_4_ok R J1 p0 p1 n2 n3 n4 b18 ds' w' E' e0 e1 e2 e3 e4 e18 hD) h
theorem F16_6_ok (R : Rt) (J1 : (Int) -> World -> Prop) (p0 p1 : Option Addr) (n2 n3 n4 : Int) (b9 : Bool) (ds : Ds) (w : World) (E : Env) (e0 : E 0 = .pointer p0) (e1 : E 1 = .pointer p1) (e2 : E 2 = .int .i64 n2) (e3 : E 3 = .int .u8 n3) (e4 : E 4 = .int .i64 n4) (e9 : E 9 = .bool b9) (h : F16_6 R J1 p0 p1 n2 n3 n4 b9 ds w) :
    TrL prog f16.ntmps [c16_3_0_2_2_1] (F16_q9 R J1) E ds w :=
  TrL_one (Tr_cond' (c := .tmp 9) (x := thnC c16_3_0_2_2_1) (y := elsC c16_3_0_2_2_1) (by kernel_rfl) c16_3_0_2_2_1t_l c16_3_0_2_2_1e_l e9 (fun h => F16_3_ok R J1 p0 p1 n2 n4 ds w E e0 e1 e2 e4 h) (fun h => F16_5_ok R J1 p0 p1 n2 n3 n4 ds w E e0 e1 e2 e3 e4 h) h)
theorem F16_7_ok (R : Rt) (J1 : (Int) -> World -> Prop) (p0 p1 : Option Addr) (n2 n3 n4 : Int) (ds : Ds) (w : World) (E : Env) (e0 : E 0 = .pointer p0) (e1 : E 1 = .pointer p1) (e2 : E 2 = .int .i64 n2) (e3 : E 3 = .int .u8 n3) (e4 : E 4 = .int .i64 n4) (h : F16_7 R J1 p0 p1 n2 n3 n4 ds w) :
    TrL prog f16.ntmps [c16_3_0_2_2_0, c16_3_0_2_2_1] (F16_q9 R J1) E ds w :=
  TrL_piece (pre := [c16_3_0_2_2_0]) (K := (F16_k11 R J1)) (X := F16_7 R J1 p0 p1 n2 n3 n4 ds w) (setAll_cons e0 (setAll_cons e1 (setAll_cons e2 (setAll_cons e3 (setAll_cons e4 setAll_nil))))) (by kernel_rfl) (by kernel_rfl)
    (fun E' ds' w' hD => by
      obtain ⟨p0, e0, hD⟩ := dPtr_elim hD; obtain ⟨p1, e1, hD⟩ := dPtr_elim hD; obtain ⟨n2, e2, hD⟩ := dInt_elim hD; obtain ⟨n3, e3, hD⟩ := dInt_elim hD; obtain ⟨n4, e4, hD⟩ := dInt_elim hD; obtain ⟨b9, e9, hD⟩ := dBl_elim hD; exact F16_6_ok R J1 p0 p1 n2 n3 n4 b9 ds' w' E' e0 e1 e2 e3 e4 e9 hD) h
theorem F16_8_ok (R : Rt) (J1 : (Int) -> World -> Prop) (p0 p1 : Option Addr) (n2 n3 n4 : Int) (ds : Ds) (w : World) (E : Env) (e0 : E 0 = .pointer p0) (e1 : E 1 = .pointer p1) (e2 : E 2 = .int .i64 n2) (e3 : E 3 = .int .u8 n3) (e4 : E 4 = .int .i64 n4) (h : F16_8 R J1 p0 p1 n2 n3 n4 ds w) :
    TrL prog f16.ntmps [c16_3_0_2_2] (F16_q8 R J1) E ds w :=
  TrL_one (Tr_block' (c := innerC c16_3_0_2_2) (by kernel_rfl) c16_3_0_2_2_l (F16_7_ok R J1 p0 p1 n2 n3 n4 ds w E e0 e1 e2 e3 e4 h))
theorem F16_9_ok (R : Rt) (J1 : (Int) -> World -> Prop) (p0 p1 : Option Addr) (n4 : Int) (ds : Ds) (w : World) (E : Env) (e0 : E 0 = .pointer p0) (e1 : E 1 = .pointer p1) (e4 : E 4 = .int .i64 n4) (h : F16_9 R J1 p0 p1 n4 ds w) :
    TrL prog f16.ntmps [c16_3_0_2_0, c16_3_0_2_1, c16_3_0_2_2] (F16_q8 R J1) E ds w :=
  TrL_piece (pre := [c16_3_0_2_0, c16_3_0_2_1]) (K := (F16_k12 R J1)) (X := F16_9 R J1 p0 p1 n4 ds w) (setAll_cons e0 (setAll_cons e1 (setAll_cons e4 setAll_nil))) (by kernel_rfl) (by kernel_rfl)
    (fun E' ds' w' hD => by
      obtain ⟨p0, e0, hD⟩ := dPtr_elim hD; obtain ⟨p1, e1, hD⟩ := dPtr_elim hD; obtain ⟨n2, e2, hD⟩ := dInt_elim hD; obtain ⟨n3, e3, hD⟩ := dInt_elim hD; obtain ⟨n4, e4, hD⟩ := dInt_elim hD; exact F16_8_ok R J1 p0 p1 n2 n3 n4 ds' w' E' e0 e1 e2 e3 e4 hD) h
theorem F16_10_ok (R : Rt) (J1 : (Int) -> World -> Prop) (p0 p1 : Option Addr) (n4 : Int) (ds : Ds) (w : World) (E : Env) (e0 : E 0 = .pointer p0) (e1 : E 1 = .pointer p1) (e4 : E 4 = .int .i64 n4) (h : F16_10 R J1 p0 p1 n4 ds w) :
    TrL prog f16.ntmps [c16_3_0_2, c16_3_0_3] (F16_q5 R J1) E ds w :=
  TrL_head (K := (F16_k6 R J1)) (Tr_block' (c := innerC c16_3_0_2) (by kernel_rfl) c16_3_0_2_l (F16_9_ok R J1 p0 p1 n4 ds w E e0 e1 e4 h))
    (fun E' ds' w' hD => by
      obtain ⟨p0, e0, hD⟩ := dPtr_elim hD; obtain ⟨p1, e1, hD⟩ := dPtr_elim hD; obtain ⟨n4, e4, hD⟩ := dInt_elim hD; exact F16_2_ok R J1 p0 p1 n4 ds' w' E' e0 e1 e4 hD)
theorem F16_11_ok (R : Rt) (J1 : (Int) -> World -> Prop) (p0 p1 : Option Addr) (n4 : Int) (ds : Ds) (w : World) (E : Env) (e0 : E 0 = .pointer p0) (e1 : E 1 = .pointer p1) (e4 : E 4 = .int .i64 n4) (h : F16_11 R J1 p0 p1 n4 ds w) :
    TrL prog f16.ntmps [c16_3_0_0, c16_3_0_1, c16_3_0_2, c16_3_0_3] (F16_q5 R J1) E ds w :=
  TrL_piece (pre := [c16_3_0_0, c16_3_0_1]) (K := (F16_k13 R J1)) (X := F16_11 R J1 p0 p1 n4 ds w) (setAll_cons e0 (setAll_cons e1 (setAll_cons e4 setAll_nil))) (by kernel_rfl) (by kernel_rfl)
    (fun E' ds' w' hD => by
      obtain ⟨p0, e0, hD⟩ := dPtr_elim hD; obtain ⟨p1, e1, hD⟩ := dPtr_elim hD; obtain ⟨n4, e4, hD⟩ := dInt_elim hD; exact F16_10_ok R J1 p0 p1 n4 ds' w' E' e0 e1 e4 hD) h
theorem F16_12_ok (R : Rt) (p0 p1 : Option Addr) (n4 : Int) (ds : Ds) (w : World) (E : Env) (e0 : E 0 = .pointer p0) (e1 : E 1 = .pointer p1) (e4 : E 4 = .int .i64 n4) (h : F16_12 R p0 p1 n4 ds w) :
    TrL prog f16.ntmps [c16_3_0] (F16_q4 R) E ds w :=
  TrL_one (Tr_loop' (c := innerC c16_3_0) (σ := Int) (enc := (fun (s : Int) (E : Env) => E 4 = .int .i64 s)) (D := (fun E K => dInt .i64 (E 4) fun n4 => K n4)) (F := (fun (J1 : (Int) -> World -> Prop) (s : Int) (w : World) => F16_11 R J1 p0 p1 s ds w)) (s0 := n4) (by kernel_rfl) c16_3_0_l e4 (by kernel_rfl) (fun E K hD => by obtain ⟨n4, e4, hD⟩ := dInt_elim hD; exact ⟨n4, e4, hD⟩)
      (fun J1 s E' w' he ha hF => by
      have e4' := he
      exact F16_11_ok R J1 p0 p1 s ds w' E' ((ha 0 (by kernel_rfl)).trans e0) ((ha 1 (by kernel_rfl)).trans e1) e4' hF) h)
theorem F16_13_ok (R : Rt) (p0 p1 : Option Addr) (n4 : Int) (ds : Ds) (w : World) (E : Env) (e0 : E 0 = .pointer p0) (e1 : E 1 = .pointer p1) (e4 : E 4 = .int .i64 n4) (h : F16_13 R p0 p1 n4 ds w) :
    TrL prog f16.ntmps [c16_3, c16_4, c16_5] (F16_q1 R) E ds w :=
  TrL_head (K := (F16_k2 R)) (Tr_block' (c := innerC c16_3) (by kernel_rfl) c16_3_l (F16_12_ok R p0 p1 n4 ds w E e0 e1 e4 h))
    (fun E' ds' w' hD => by
      obtain ⟨p0, e0, hD⟩ := dPtr_elim hD; obtain ⟨p1, e1, hD⟩ := dPtr_elim hD; exact F16_1_ok R p0 p1 ds' w' E' e0 e1 hD)
theorem F16_14_ok (R : Rt) (ds : Ds) (w : World) (E : Env) (h : F16_14 R ds w) :
    TrL prog f16.ntmps [c16_0, c16_1, c16_2, c16_3, c16_4, c16_5] (F16_q1 R) E ds w :=
  TrL_piece (pre := [c16_0, c16_1, c16_2]) (K := (F16_k14 R)) (X := F16_14 R ds w) setAll_nil (by kernel_rfl) (by kernel_rfl)
    (fun E' ds' w' hD => by
      obtain ⟨p0, e0, hD⟩ := dPtr_elim hD; obtain ⟨p1, e1, hD⟩ := dPtr_elim hD; obtain ⟨n4, e4, hD⟩ := dInt_elim hD; exact F16_13_ok R p0 p1 n4 ds' w' E' e0 e1 e4 hD) h
theorem F16_calls  (w : World) (R : Rt) (h : F16_14 R [] w) : Calls prog 16 #[] w R :=
  calls_of_L (l := [c16_0, c16_1, c16_2, c16_3, c16_4, c16_5]) func16 (by kernel_rfl) (by rw [ntmps16]; exact Nat.le_of_ble_eq_true (by kernel_rfl)) c16_l
    (F16_14_ok R [] w _  h)
noncomputable def c62_0 := cI1 f62 0
noncomputable def c62_1 := cI1 f62 1
noncomputable def c62_2 := cI1 f62 2
def F62_q1 (R : Rt) : EQ := endQ prog f62.results.toList R
def F62_1 (R : Rt) (p0 : Option Addr) (n1 n2 : Int) (ds : Ds) (w : World) : Prop :=
 dwE w fun w1 =>
 ptrE p0 fun a2 =>
 ∃ s11 : ByteArray, w1.cell? a2 = some (.string s11) /\
 Br (decide (n1 < (s11.size : Int))) (
 ptrE p0 fun a3 =>
 ∃ s19 : ByteArray, w1.cell? a3 = some (.string s19) /\
 ∃ b21 : UInt8, 0 ≤ n1 /\ s19[n1.toNat]? = some b21 /\
 ptrE p0 fun a4 =>
 0 ≤ (b21.toNat : Int) /\ (b21.toNat : Int) < (256 : Int) /\
 ∃ n25 : Int, w1.cell? ((a4.add 2).add ((b21.toNat : Int).toNat * 1)) = some (.int .u8 n25) /\
 runD prog ds w1 fun w5 =>
 R (.returned (.bool (n25 == n2))) w5) (
 runD prog ds w1 fun w6 =>
 R (.returned (.bool false)) w6)
theorem c62_l : flat (bodyOf f62) = [c62_0, c62_1, c62_2] := by kernel_rfl
theorem F62_1_ok (R : Rt) (p0 : Option Addr) (n1 n2 : Int) (ds : Ds) (w : World) (E : Env) (e0 : E 0 = .pointer p0) (e1 : E 1 = .int .i64 n1) (e2 : E 2 = .int .u8 n2) (h : F62_1 R p0 n1 n2 ds w) :
    TrL prog f62.ntmps [c62_0, c62_1, c62_2] (F62_q1 R) E ds w :=
  TrL_leaf (X := F62_1 R p0 n1 n2 ds w) (setAll_cons e0 (setAll_cons e1 (setAll_cons e2 setAll_nil))) (by kernel_rfl) (by kernel_rfl) h
theorem F62_calls (p0 : Option Addr) (n1 n2 : Int) (w : World) (R : Rt) (h : F62_1 R p0 n1 n2 [] w) : Calls prog 62 #[.pointer p0, .int .i64 n1, .int .u8 n2] w R :=
  calls_of_L (l := [c62_0, c62_1, c62_2]) func62 (by kernel_rfl) (by rw [ntmps62]; exact Nat.le_of_ble_eq_true (by kernel_rfl)) c62_l
    (F62_1_ok R p0 n1 n2 [] w _ rfl rfl rfl h)
end Go.Proofs.YtlogipcgejfnnaaDoor

/- Shallow texts of functions, printed by program, each checked by the kernel against the loaded code. No condition. -/
set_option maxRecDepth 100000
set_option linter.unusedVariables false
namespace Go.Proofs.YtlogipcgejfnnaaDoor
open Go.Sh
open Tryd
@[reducible] noncomputable def cI2 (f : Func) (i : Nat) : Code := itemAt (flat (bodyOf f)) i
@[reducible] noncomputable def cJ2 (c : Code) (i : Nat) : Code := itemAt (flat (innerC c)) i
noncomputable def c51_0 := cI2 f51 0
noncomputable def c51_0_0 := cJ2 c51_0 0
noncomputable def c51_0_0_0 := cJ2 c51_0_0 0
noncomputable def c51_0_0_1 := cJ2 c51_0_0 1
noncomputable def c51_0_0_2 := cJ2 c51_0_0 2
def F51_q1 (R : Rt) : EQ := endQ prog f51.results.toList R
def F51_q2 (R : Rt) : EQ := (blockQ 0 (F51_q1 R))
def F51_q3 (R : Rt) (J1 : (Unit) -> World -> Prop) : EQ := (thenQ (fun E _ w => J1 () w) (F51_q2 R))
def F51_1 (R : Rt) (J1 : (Unit) -> World -> Prop) (p0 : Option Addr) (ds : Ds) (w : World) : Prop :=
 ptrE p0 fun a1 =>
 ∃ n6 : Int, w.cell? (a1.add 1) = some (.int .i64 n6) /\
 Calls prog 62 #[.pointer p0, .int .i64 n6, .int .u8 3] w fun e w2 =>
 ∃ b7 : Bool, e = .returned (.bool b7) /\
 Br b7 (
 ptrE p0 fun a3 =>
 ∃ n11 : Int, w2.cell? (a3.add 1) = some (.int .i64 n11) /\
 ptrE p0 fun a4 =>
 st1 (a4.add 1) (.int .i64 (IntKind.i64.wrap (n11 + 1))) w2 fun w5 =>
 J1 () w5) (
 runD prog ds w2 fun w6 =>
 R (.returned (.tuple #[])) w6)
def F51_2 (R : Rt) (p0 : Option Addr) (ds : Ds) (w : World) : Prop :=
 loopT (fun (J1 : (Unit) -> World -> Prop) (_ : Unit) (w : World) => F51_1 R J1 p0 ds w) () w
abbrev F51_3 (R : Rt) (p0 : Option Addr) (ds : Ds) (w : World) : Prop := F51_2 R p0 ds w
theorem c51_l : flat (bodyOf f51) = [c51_0] := by kernel_rfl
theorem c51_0_l : flat (innerC c51_0) = [c51_0_0] := by kernel_rfl
theorem c51_0_0_l : flat (innerC c51_0_0) = [c51_0_0_0, c51_0_0_1, c51_0_0_2] := by kernel_rfl
theorem F51_1_ok (R : Rt) (J1 : (Unit) -> World -> Prop) (p0 : Option Addr) (ds : Ds) (w : World) (E : Env) (e0 : E 0 = .pointer p0) (h : F51_1 R J1 p0 ds w) :
    TrL prog f51.ntmps [c51_0_0_0, c51_0_0_1, c51_0_0_2] (F51_q3 R J1) E ds w :=
  TrL_leaf (X := F51_1 R J1 p0 ds w) (setAll_cons e0 setAll_nil) (by kernel_rfl) (by kernel_rfl) h
theorem F51_2_ok (R : Rt) (p0 : Option Addr) (ds : Ds) (w : World) (E : Env) (e0 : E 0 = .pointer p0) (h : F51_2 R p0 ds w) :
    TrL prog f51.ntmps [c51_0_0] (F51_q2 R) E ds w :=
  TrL_one (Tr_loop' (c := innerC c51_0_0) (σ := Unit) (enc := (fun (_ : Unit) (_ : Env) => True)) (D := (fun E K => K ())) (F := (fun (J1 : (Unit) -> World -> Prop) (_ : Unit) (w : World) => F51_1 R J1 p0 ds w)) (s0 := ()) (by kernel_rfl) c51_0_0_l trivial (by kernel_rfl) (fun E K hD => by exact ⟨(), trivial, hD⟩)
      (fun J1 _ E' w' he ha hF => by
      skip
      exact F51_1_ok R J1 p0 ds w' E' ((ha 0 (by kernel_rfl)).trans e0) hF) h)
theorem F51_3_ok (R : Rt) (p0 : Option Addr) (ds : Ds) (w : World) (E : Env) (e0 : E 0 = .pointer p0) (h : F51_3 R p0 ds w) :
    TrL prog f51.ntmps [c51_0] (F51_q1 R) E ds w :=
  TrL_one (Tr_block' (c := innerC c51_0) (by kernel_rfl) c51_0_l (F51_2_ok R p0 ds w E e0 h))
theorem F51_calls (p0 : Option Addr) (w : World) (R : Rt) (h : F51_3 R p0 [] w) : Calls prog 51 #[.pointer p0] w R :=
  calls_of_L (l := [c51_0]) func51 (by kernel_rfl) (by rw [ntmps51]; exact Nat.le_of_ble_eq_true (by kernel_rfl)) c51_l
    (F51_3_ok R p0 [] w _ rfl h)
noncomputable def c63_0 := cI2 f63 0
noncomputable def c63_1 := cI2 f63 1
noncomputable def c63_2 := cI2 f63 2
noncomputable def c63_3 := cI2 f63 3
noncomputable def c63_4 := cI2 f63 4
noncomputable def c63_5 := cI2 f63 5
def F63_q1 (R : Rt) : EQ := endQ prog f63.results.toList R
def F63_1 (R : Rt) (p0 : Option Addr) (n1 : Int) (ds : Ds) (w : World) : Prop :=
 ptrE p0 fun a1 =>
 ∃ s9 : ByteArray, w.cell? a1 = some (.string s9) /\
 s9.size ≤ s9.size /\ 0 ≤ n1 /\ n1.toNat ≤ s9.size /\
 Calls prog 74 #[.string (s9.extract n1.toNat s9.size), .int .u8 10] w fun e w2 =>
 ∃ n12 : Int, e = .returned (.int .i64 n12) /\
 Br (decide (n12 ≥ 0)) (
 runD prog ds w2 fun w3 =>
 R (.returned (.int .i64 (IntKind.i64.wrap (n1 + n12)))) w3) (
 ptrE p0 fun a4 =>
 ∃ s21 : ByteArray, w2.cell? a4 = some (.string s21) /\
 runD prog ds w2 fun w5 =>
 R (.returned (.int .i64 (s21.size : Int))) w5)
theorem c63_l : flat (bodyOf f63) = [c63_0, c63_1, c63_2, c63_3, c63_4, c63_5] := by kernel_rfl
theorem F63_1_ok (R : Rt) (p0 : Option Addr) (n1 : Int) (ds : Ds) (w : World) (E : Env) (e0 : E 0 = .pointer p0) (e1 : E 1 = .int .i64 n1) (h : F63_1 R p0 n1 ds w) :
    TrL prog f63.ntmps [c63_0, c63_1, c63_2, c63_3, c63_4, c63_5] (F63_q1 R) E ds w :=
  TrL_leaf (X := F63_1 R p0 n1 ds w) (setAll_cons e0 (setAll_cons e1 setAll_nil)) (by kernel_rfl) (by kernel_rfl) h
theorem F63_calls (p0 : Option Addr) (n1 : Int) (w : World) (R : Rt) (h : F63_1 R p0 n1 [] w) : Calls prog 63 #[.pointer p0, .int .i64 n1] w R :=
  calls_of_L (l := [c63_0, c63_1, c63_2, c63_3, c63_4, c63_5]) func63 (by kernel_rfl) (by rw [ntmps63]; exact Nat.le_of_ble_eq_true (by kernel_rfl)) c63_l
    (F63_1_ok R p0 n1 [] w _ rfl rfl h)
noncomputable def c53_0 := cI2 f53 0
noncomputable def c53_1 := cI2 f53 1
noncomputable def c53_2 := cI2 f53 2
noncomputable def c53_3 := cI2 f53 3
noncomputable def c53_4 := cI2 f53 4
noncomputable def c53_2_0 := cJ2 c53_2 0
noncomputable def c53_2_0_0 := cJ2 c53_2_0 0
noncomputable def c53_2_0_1 := cJ2 c53_2_0 1
noncomputable def c53_2_0_2 := cJ2 c53_2_0 2
noncomputable def c53_2_0_3 := cJ2 c53_2_0 3
def F53_q1 (R : Rt) : EQ := endQ prog f53.results.toList R
def F53_1 (R : Rt) (ds : Ds) (w : World) : Prop :=
 runD prog ds w fun w1 =>
 R (.returned (.bool true)) w1
def F53_k2 (R : Rt) : EP := (fun E ds w => F53_1 R ds w)
def F53_q3 (R : Rt) : EQ := (thenQ (F53_k2 R) (F53_q1 R))
def F53_q4 (R : Rt) : EQ := (blockQ 0 (F53_q3 R))
def F53_q5 (R : Rt) (J1 : (Unit) -> World -> Prop) : EQ := (thenQ (fun E _ w => J1 () w) (F53_q4 R))
def F53_2 (R : Rt) (J1 : (Unit) -> World -> Prop) (p0 : Option Addr) (n3 : Int) (ds : Ds) (w : World) : Prop :=
 ptrE p0 fun a2 =>
 ∃ n13 : Int, w.cell? (a2.add 1) = some (.int .i64 n13) /\
 Br (decide (n13 < n3)) (
 ptrE p0 fun a3 =>
 ∃ n27 : Int, w.cell? (a3.add 1) = some (.int .i64 n27) /\
 Calls prog 62 #[.pointer p0, .int .i64 n27, .int .u8 4] w fun e w4 =>
 ∃ b28 : Bool, e = .returned (.bool b28) /\
 Br b28 (
 ptrE p0 fun a5 =>
 ∃ n33 : Int, w4.cell? (a5.add 1) = some (.int .i64 n33) /\
 ptrE p0 fun a6 =>
 st1 (a6.add 260) (.int .i64 n33) w4 fun w7 =>
 runD prog ds w7 fun w8 =>
 R (.returned (.bool false)) w8) (
 ptrE p0 fun a9 =>
 ∃ n19 : Int, w4.cell? (a9.add 1) = some (.int .i64 n19) /\
 ptrE p0 fun a10 =>
 st1 (a10.add 1) (.int .i64 (IntKind.i64.wrap (n19 + 1))) w4 fun w11 =>
 J1 () w11)) (
 F53_1 R ds w)
def F53_3 (R : Rt) (p0 : Option Addr) (n3 : Int) (ds : Ds) (w : World) : Prop :=
 loopT (fun (J1 : (Unit) -> World -> Prop) (_ : Unit) (w : World) => F53_2 R J1 p0 n3 ds w) () w
abbrev F53_4 (R : Rt) (p0 : Option Addr) (n3 : Int) (ds : Ds) (w : World) : Prop := F53_3 R p0 n3 ds w
def F53_k6 (R : Rt) : EP := (fun E ds w => dPtr (E 0) fun p0 => dInt .i64 (E 3) fun n3 => F53_4 R p0 n3 ds w)
def F53_5 (R : Rt) (p0 : Option Addr) (ds : Ds) (w : World) : Prop :=
 ptrE p0 fun a12 =>
 ∃ n8 : Int, w.cell? (a12.add 1) = some (.int .i64 n8) /\
 Calls prog 63 #[.pointer p0, .int .i64 n8] w fun e w13 =>
 ∃ n9 : Int, e = .returned (.int .i64 n9) /\
 F53_4 R p0 n9 ds w13
theorem c53_l : flat (bodyOf f53) = [c53_0, c53_1, c53_2, c53_3, c53_4] := by kernel_rfl
theorem c53_2_l : flat (innerC c53_2) = [c53_2_0] := by kernel_rfl
theorem c53_2_0_l : flat (innerC c53_2_0) = [c53_2_0_0, c53_2_0_1, c53_2_0_2, c53_2_0_3] := by kernel_rfl
theorem F53_1_ok (R : Rt) (ds : Ds) (w : World) (E : Env) (h : F53_1 R ds w) :
    TrL prog f53.ntmps [c53_3, c53_4] (F53_q1 R) E ds w :=
  TrL_leaf (X := F53_1 R ds w) setAll_nil (by kernel_rfl) (by kernel_rfl) h
theorem F53_2_ok (R : Rt) (J1 : (Unit) -> World -> Prop) (p0 : Option Addr) (n3 : Int) (ds : Ds) (w : World) (E : Env) (e0 : E 0 = .pointer p0) (e3 : E 3 = .int .i64 n3) (h : F53_2 R J1 p0 n3 ds w) :
    TrL prog f53.ntmps [c53_2_0_0, c53_2_0_1, c53_2_0_2, c53_2_0_3] (F53_q5 R J1) E ds w :=
  TrL_leaf (X := F53_2 R J1 p0 n3 ds w) (setAll_cons e0 (setAll_cons e3 setAll_nil)) (by kernel_rfl) (by kernel_rfl) h
theorem F53_3_ok (R : Rt) (p0 : Option Addr) (n3 : Int) (ds : Ds) (w : World) (E : Env) (e0 : E 0 = .pointer p0) (e3 : E 3 = .int .i64 n3) (h : F53_3 R p0 n3 ds w) :
    TrL prog f53.ntmps [c53_2_0] (F53_q4 R) E ds w :=
  TrL_one (Tr_loop' (c := innerC c53_2_0) (σ := Unit) (enc := (fun (_ : Unit) (_ : Env) => True)) (D := (fun E K => K ())) (F := (fun (J1 : (Unit) -> World -> Prop) (_ : Unit) (w : World) => F53_2 R J1 p0 n3 ds w)) (s0 := ()) (by kernel_rfl) c53_2_0_l trivial (by kernel_rfl) (fun E K hD => by exact ⟨(), trivial, hD⟩)
      (fun J1 _ E' w' he ha hF => by
      skip
      exact F53_2_ok R J1 p0 n3 ds w' E' ((ha 0 (by kernel_rfl)).trans e0) ((ha 3 (by kernel_rfl)).trans e3) hF) h)
theorem F53_4_ok (R : Rt) (p0 : Option Addr) (n3 : Int) (ds : Ds) (w : World) (E : Env) (e0 : E 0 = .pointer p0) (e3 : E 3 = .int .i64 n3) (h : F53_4 R p0 n3 ds w) :
    TrL prog f53.ntmps [c53_2, c53_3, c53_4] (F53_q1 R) E ds w :=
  TrL_head (K := (F53_k2 R)) (Tr_block' (c := innerC c53_2) (by kernel_rfl) c53_2_l (F53_3_ok R p0 n3 ds w E e0 e3 h))
    (fun E' ds' w' hD => by
      exact F53_1_ok R ds' w' E'  hD)
theorem F53_5_ok (R : Rt) (p0 : Option Addr) (ds : Ds) (w : World) (E : Env) (e0 : E 0 = .pointer p0) (h : F53_5 R p0 ds w) :
    TrL prog f53.ntmps [c53_0, c53_1, c53_2, c53_3, c53_4] (F53_q1 R) E ds w :=
  TrL_piece (pre := [c53_0, c53_1]) (K := (F53_k6 R)) (X := F53_5 R p0 ds w) (setAll_cons e0 setAll_nil) (by kernel_rfl) (by kernel_rfl)
    (fun E' ds' w' hD => by
      obtain ⟨p0, e0, hD⟩ := dPtr_elim hD; obtain ⟨n3, e3, hD⟩ := dInt_elim hD; exact F53_4_ok R p0 n3 ds' w' E' e0 e3 hD) h
theorem F53_calls (p0 : Option Addr) (w : World) (R : Rt) (h : F53_5 R p0 [] w) : Calls prog 53 #[.pointer p0] w R :=
  calls_of_L (l := [c53_0, c53_1, c53_2, c53_3, c53_4]) func53 (by kernel_rfl) (by rw [ntmps53]; exact Nat.le_of_ble_eq_true (by kernel_rfl)) c53_l
    (F53_5_ok R p0 [] w _ rfl h)
noncomputable def c54_0 := cI2 f54 0
noncomputable def c54_1 := cI2 f54 1
noncomputable def c54_2 := cI2 f54 2
noncomputable def c54_3 := cI2 f54 3
noncomputable def c54_4 := cI2 f54 4
noncomputable def c54_5 := cI2 f54 5
noncomputable def c54_6 := cI2 f54 6
noncomputable def c54_7 := cI2 f54 7
noncomputable def c54_8 := cI2 f54 8
noncomputable def c54_9 := cI2 f54 9
noncomputable def c54_10 := cI2 f54 10
noncomputable def c54_11 := cI2 f54 11
noncomputable def c54_12 := cI2 f54 12
noncomputable def c54_2_0 := cJ2 c54_2 0
noncomputable def c54_2_0_0 := cJ2 c54_2_0 0
noncomputable def c54_2_0_1 := cJ2 c54_2_0 1
noncomputable def c54_2_0_2 := cJ2 c54_2_0 2
def F54_q1 (R : Rt) : EQ := endQ prog f54.results.toList R
def F54_1 (R : Rt) (p0 : Option Addr) (ds : Ds) (w : World) : Prop :=
 dwE w fun w1 =>
 ptrE p0 fun a2 =>
 ∃ n54 : Int, w1.cell? (a2.add 1) = some (.int .i64 n54) /\
 ptrE p0 fun a3 =>
 ∃ s58 : ByteArray, w1.cell? a3 = some (.string s58) /\
 Br (decide (n54 < (s58.size : Int))) (
 ptrE p0 fun a4 =>
 ∃ n64 : Int, w1.cell? (a4.add 1) = some (.int .i64 n64) /\
 ptrE p0 fun a5 =>
 st1 (a5.add 1) (.int .i64 (IntKind.i64.wrap (n64 + 1))) w1 fun w6 =>
 runD prog ds w6 fun w7 =>
 R (.returned (.tuple #[.bool true, .bool true])) w7) (
 runD prog ds w1 fun w8 =>
 R (.returned (.tuple #[.bool true, .bool true])) w8)
def F54_k2 (R : Rt) : EP := (fun E ds w => dPtr (E 0) fun p0 => F54_1 R p0 ds w)
def F54_2 (R : Rt) (p0 : Option Addr) (n4 : Int) (ds : Ds) (w : World) : Prop :=
 ptrE p0 fun a9 =>
 ∃ s20 : ByteArray, w.cell? a9 = some (.string s20) /\
 Br (n4 == (s20.size : Int)) (
 ptrE p0 fun a10 =>
 st1 (a10.add 1) (.int .i64 n4) w fun w11 =>
 Calls prog 53 #[.pointer p0] w11 fun e w12 =>
 ∃ b49 : Bool, e = .returned (.bool b49) /\
 Br (!b49) (
 runD prog ds w12 fun w13 =>
 R (.returned (.tuple #[.bool true, .bool false])) w13) (
 F54_1 R p0 ds w12)) (
 ptrE p0 fun a14 =>
 ∃ s27 : ByteArray, w.cell? a14 = some (.string s27) /\
 ∃ b29 : UInt8, 0 ≤ n4 /\ s27[n4.toNat]? = some b29 /\
 Br (!((b29.toNat : Int) == 10)) (
 ptrE p0 fun a15 =>
 ∃ s38 : ByteArray, w.cell? a15 = some (.string s38) /\
 s38.size ≤ s38.size /\ 0 ≤ n4 /\ n4.toNat ≤ s38.size /\
 Calls prog 26 #[.string (s38.extract n4.toNat s38.size), .string (⟨#[38, 38]⟩ : ByteArray)] w fun e w16 =>
 ∃ b41 : Bool, e = .returned (.bool b41) /\
 Br (!b41) (
 runD prog ds w16 fun w17 =>
 R (.returned (.tuple #[.bool false, .bool true])) w17) (
 ptrE p0 fun a18 =>
 st1 (a18.add 1) (.int .i64 n4) w16 fun w19 =>
 Calls prog 53 #[.pointer p0] w19 fun e w20 =>
 ∃ b49 : Bool, e = .returned (.bool b49) /\
 Br (!b49) (
 runD prog ds w20 fun w21 =>
 R (.returned (.tuple #[.bool true, .bool false])) w21) (
 F54_1 R p0 ds w20))) (
 ptrE p0 fun a22 =>
 st1 (a22.add 1) (.int .i64 n4) w fun w23 =>
 Calls prog 53 #[.pointer p0] w23 fun e w24 =>
 ∃ b49 : Bool, e = .returned (.bool b49) /\
 Br (!b49) (
 runD prog ds w24 fun w25 =>
 R (.returned (.tuple #[.bool true, .bool false])) w25) (
 F54_1 R p0 ds w24)))
def F54_k3 (R : Rt) : EP := (fun E ds w => dPtr (E 0) fun p0 => dInt .i64 (E 4) fun n4 => F54_2 R p0 n4 ds w)
def F54_q4 (R : Rt) : EQ := (thenQ (F54_k3 R) (F54_q1 R))
def F54_q5 (R : Rt) : EQ := (blockQ 0 (F54_q4 R))
def F54_q6 (R : Rt) (J1 : (Int) -> World -> Prop) : EQ := (thenQ (fun E _ w => dInt .i64 (E 4) fun n4 => J1 n4 w) (F54_q5 R))
def F54_3 (R : Rt) (J1 : (Int) -> World -> Prop) (p0 : Option Addr) (n4 : Int) (ds : Ds) (w : World) : Prop :=
 Calls prog 62 #[.pointer p0, .int .i64 n4, .int .u8 3] w fun e w26 =>
 ∃ b13 : Bool, e = .returned (.bool b13) /\
 Br b13 (
 J1 (IntKind.i64.wrap (n4 + 1)) w26) (
 F54_2 R p0 n4 ds w26)
def F54_4 (R : Rt) (p0 : Option Addr) (n4 : Int) (ds : Ds) (w : World) : Prop :=
 loopT (fun (J1 : (Int) -> World -> Prop) (s : Int) (w : World) => F54_3 R J1 p0 s ds w) n4 w
abbrev F54_5 (R : Rt) (p0 : Option Addr) (n4 : Int) (ds : Ds) (w : World) : Prop := F54_4 R p0 n4 ds w
def F54_k7 (R : Rt) : EP := (fun E ds w => dPtr (E 0) fun p0 => dInt .i64 (E 4) fun n4 => F54_5 R p0 n4 ds w)
def F54_6 (R : Rt) (p0 : Option Addr) (ds : Ds) (w : World) : Prop :=
 ptrE p0 fun a27 =>
 ∃ n9 : Int, w.cell? (a27.add 1) = some (.int .i64 n9) /\
 F54_5 R p0 (IntKind.i64.wrap (n9 + 1)) ds w
theorem c54_l : flat (bodyOf f54) = [c54_0, c54_1, c54_2, c54_3, c54_4, c54_5, c54_6, c54_7, c54_8, c54_9, c54_10, c54_11, c54_12] := by kernel_rfl
theorem c54_2_l : flat (innerC c54_2) = [c54_2_0] := by kernel_rfl
theorem c54_2_0_l : flat (innerC c54_2_0) = [c54_2_0_0, c54_2_0_1, c54_2_0_2] := by kernel_rfl
theorem F54_1_ok (R : Rt) (p0 : Option Addr) (ds : Ds) (w : World) (E : Env) (e0 : E 0 = .pointer p0) (h : F54_1 R p0 ds w) :
    TrL prog f54.ntmps [c54_9, c54_10, c54_11, c54_12] (F54_q1 R) E ds w :=
  TrL_leaf (X := F54_1 R p0 ds w) (setAll_cons e0 setAll_nil) (by kernel_rfl) (by kernel_rfl) h
theorem F54_2_ok (R : Rt) (p0 : Option Addr) (n4 : Int) (ds : Ds) (w : World) (E : Env) (e0 : E 0 = .pointer p0) (e4 : E 4 = .int .i64 n4) (h : F54_2 R p0 n4 ds w) :
    TrL prog f54.ntmps [c54_3, c54_4, c54_5, c54_6, c54_7, c54_8, c54_9, c54_10, c54_11, c54_12] (F54_q1 R) E ds w :=
  TrL_piece (pre := [c54_3, c54_4, c54_5, c54_6, c54_7, c54_8]) (K := (F54_k2 R)) (X := F54_2 R p0 n4 ds w) (setAll_cons e0 (setAll_cons e4 setAll_nil)) (by kernel_rfl) (by kernel_rfl)
    (fun E' ds' w' hD => by
      obtain ⟨p0, e0, hD⟩ := dPtr_elim hD; exact F54_1_ok R p0 ds' w' E' e0 hD) h
theorem F54_3_ok (R : Rt) (J1 : (Int) -> World -> Prop) (p0 : Option Addr) (n4 : Int) (ds : Ds) (w : World) (E : Env) (e0 : E 0 = .pointer p0) (e4 : E 4 = .int .i64 n4) (h : F54_3 R J1 p0 n4 ds w) :
    TrL prog f54.ntmps [c54_2_0_0, c54_2_0_1, c54_2_0_2] (F54_q6 R J1) E ds w :=
  TrL_leaf (X := F54_3 R J1 p0 n4 ds w) (setAll_cons e0 (setAll_cons e4 setAll_nil)) (by kernel_rfl) (by kernel_rfl) h
theorem F54_4_ok (R : Rt) (p0 : Option Addr) (n4 : Int) (ds : Ds) (w : World) (E : Env) (e0 : E 0 = .pointer p0) (e4 : E 4 = .int .i64 n4) (h : F54_4 R p0 n4 ds w) :
    TrL prog f54.ntmps [c54_2_0] (F54_q5 R) E ds w :=
  TrL_one (Tr_loop' (c := innerC c54_2_0) (σ := Int) (enc := (fun (s : Int) (E : Env) => E 4 = .int .i64 s)) (D := (fun E K => dInt .i64 (E 4) fun n4 => K n4)) (F := (fun (J1 : (Int) -> World -> Prop) (s : Int) (w : World) => F54_3 R J1 p0 s ds w)) (s0 := n4) (by kernel_rfl) c54_2_0_l e4 (by kernel_rfl) (fun E K hD => by obtain ⟨n4, e4, hD⟩ := dInt_elim hD; exact ⟨n4, e4, hD⟩)
      (fun J1 s E' w' he ha hF => by
      have e4' := he
      exact F54_3_ok R J1 p0 s ds w' E' ((ha 0 (by kernel_rfl)).trans e0) e4' hF) h)
theorem F54_5_ok (R : Rt) (p0 : Option Addr) (n4 : Int) (ds : Ds) (w : World) (E : Env) (e0 : E 0 = .pointer p0) (e4 : E 4 = .int .i64 n4) (h : F54_5 R p0 n4 ds w) :
    TrL prog f54.ntmps [c54_2, c54_3, c54_4, c54_5, c54_6, c54_7, c54_8, c54_9, c54_10, c54_11, c54_12] (F54_q1 R) E ds w :=
  TrL_head (K := (F54_k3 R)) (Tr_block' (c := innerC c54_2) (by kernel_rfl) c54_2_l (F54_4_ok R p0 n4 ds w E e0 e4 h))
    (fun E' ds' w' hD => by
      obtain ⟨p0, e0, hD⟩ := dPtr_elim hD; obtain ⟨n4, e4, hD⟩ := dInt_elim hD; exact F54_2_ok R p0 n4 ds' w' E' e0 e4 hD)
theorem F54_6_ok (R : Rt) (p0 : Option Addr) (ds : Ds) (w : World) (E : Env) (e0 : E 0 = .pointer p0) (h : F54_6 R p0 ds w) :
    TrL prog f54.ntmps [c54_0, c54_1, c54_2, c54_3, c54_4, c54_5, c54_6, c54_7, c54_8, c54_9, c54_10, c54_11, c54_12] (F54_q1 R) E ds w :=
  TrL_piece (pre := [c54_0, c54_1]) (K := (F54_k7 R)) (X := F54_6 R p0 ds w) (setAll_cons e0 setAll_nil) (by kernel_rfl) (by kernel_rfl)
    (fun E' ds' w' hD => by
      obtain ⟨p0, e0, hD⟩ := dPtr_elim hD; obtain ⟨n4, e4, hD⟩ := dInt_elim hD; exact F54_5_ok R p0 n4 ds' w' E' e0 e4 hD) h
theorem F54_calls (p0 : Option Addr) (w : World) (R : Rt) (h : F54_6 R p0 [] w) : Calls prog 54 #[.pointer p0] w R :=
  calls_of_L (l := [c54_0, c54_1, c54_2, c54_3, c54_4, c54_5, c54_6, c54_7, c54_8, c54_9, c54_10, c54_11, c54_12]) func54 (by kernel_rfl) (by rw [ntmps54]; exact Nat.le_of_ble_eq_true (by kernel_rfl)) c54_l
    (F54_6_ok R p0 [] w _ rfl h)
noncomputable def c52_0 := cI2 f52 0
noncomputable def c52_1 := cI2 f52 1
noncomputable def c52_2 := cI2 f52 2
noncomputable def c52_3 := cI2 f52 3
noncomputable def c52_4 := cI2 f52 4
noncomputable def c52_5 := cI2 f52 5
noncomputable def c52_6 := cI2 f52 6
noncomputable def c52_7 := cI2 f52 7
noncomputable def c52_8 := cI2 f52 8
noncomputable def c52_9 := cI2 f52 9
def F52_q1 (R : Rt) : EQ := endQ prog f52.results.toList R
def F52_1 (R : Rt) (p0 : Option Addr) (ds : Ds) (w : World) : Prop :=
 alE (.cells #[.int .i64 0, .int .i64 0, .string (⟨#[]⟩ : ByteArray)] 43) w fun r2 w1 =>
 ptrE p0 fun a2 =>
 ∃ n10 : Int, w1.cell? (a2.add 1) = some (.int .i64 n10) /\
 alE (.cells #[.int .i64 0, .int .i64 0, .string (⟨#[]⟩ : ByteArray)] 43) w1 fun r4 w3 =>
 stA prog 43 (⟨r4, 0, none⟩ : Addr) #[.int .i64 5, .int .i64 n10, .string (⟨#[]⟩ : ByteArray)] w3 fun w4 =>
 dwE w4 fun w5 =>
 ptrE p0 fun a6 =>
 ∃ b15 : Bool, w5.cell? (a6.add 258) = some (.bool b15) /\
 ptrE p0 fun a7 =>
 ∃ n19 : Int, w5.cell? (a7.add 1) = some (.int .i64 n19) /\
 ptrE p0 fun a8 =>
 ∃ s23 : ByteArray, w5.cell? a8 = some (.string s23) /\
 ptrE p0 fun a9 =>
 st1 (a9.add 258) (.bool false) w5 fun w10 =>
 ptrE p0 fun a11 =>
 st1 (a11.add 259) (.bool false) w10 fun w12 =>
 Br (!(n19 == (s23.size : Int))) (
 ptrE p0 fun a13 =>
 ∃ n37 : Int, w12.cell? (a13.add 1) = some (.int .i64 n37) /\
 ptrE p0 fun a14 =>
 st1 (a14.add 1) (.int .i64 (IntKind.i64.wrap (n37 + 1))) w12 fun w15 =>
 Br b15 (
 ∃ n42_0 : Int, w15.cell? ((⟨r4, 0, none⟩ : Addr).add 0) = some (.int .i64 n42_0) /\
 ∃ n42_1 : Int, w15.cell? ((⟨r4, 0, none⟩ : Addr).add 1) = some (.int .i64 n42_1) /\
 ∃ s42_2 : ByteArray, w15.cell? ((⟨r4, 0, none⟩ : Addr).add 2) = some (.string s42_2) /\
 stA prog 43 (⟨r2, 0, none⟩ : Addr) #[.int .i64 n42_0, .int .i64 n42_1, .string s42_2] w15 fun w16 =>
 runD prog ds w16 fun w17 =>
 ∃ nR0_0 : Int, w17.cell? ((⟨r2, 0, none⟩ : Addr).add 0) = some (.int .i64 nR0_0) /\
 ∃ nR0_1 : Int, w17.cell? ((⟨r2, 0, none⟩ : Addr).add 1) = some (.int .i64 nR0_1) /\
 ∃ sR0_2 : ByteArray, w17.cell? ((⟨r2, 0, none⟩ : Addr).add 2) = some (.string sR0_2) /\
 R (.returned (.tuple #[.agg #[.int .i64 nR0_0, .int .i64 nR0_1, .string sR0_2], .bool true])) w17) (
 stA prog 43 (⟨r2, 0, none⟩ : Addr) #[.int .i64 0, .int .i64 0, .string (⟨#[]⟩ : ByteArray)] w15 fun w18 =>
 runD prog ds w18 fun w19 =>
 ∃ nR0_0 : Int, w19.cell? ((⟨r2, 0, none⟩ : Addr).add 0) = some (.int .i64 nR0_0) /\
 ∃ nR0_1 : Int, w19.cell? ((⟨r2, 0, none⟩ : Addr).add 1) = some (.int .i64 nR0_1) /\
 ∃ sR0_2 : ByteArray, w19.cell? ((⟨r2, 0, none⟩ : Addr).add 2) = some (.string sR0_2) /\
 R (.returned (.tuple #[.agg #[.int .i64 nR0_0, .int .i64 nR0_1, .string sR0_2], .bool (n19 == (s23.size : Int))])) w19)) (
 Br b15 (
 ∃ n42_0 : Int, w12.cell? ((⟨r4, 0, none⟩ : Addr).add 0) = some (.int .i64 n42_0) /\
 ∃ n42_1 : Int, w12.cell? ((⟨r4, 0, none⟩ : Addr).add 1) = some (.int .i64 n42_1) /\
 ∃ s42_2 : ByteArray, w12.cell? ((⟨r4, 0, none⟩ : Addr).add 2) = some (.string s42_2) /\
 stA prog 43 (⟨r2, 0, none⟩ : Addr) #[.int .i64 n42_0, .int .i64 n42_1, .string s42_2] w12 fun w20 =>
 runD prog ds w20 fun w21 =>
 ∃ nR0_0 : Int, w21.cell? ((⟨r2, 0, none⟩ : Addr).add 0) = some (.int .i64 nR0_0) /\
 ∃ nR0_1 : Int, w21.cell? ((⟨r2, 0, none⟩ : Addr).add 1) = some (.int .i64 nR0_1) /\
 ∃ sR0_2 : ByteArray, w21.cell? ((⟨r2, 0, none⟩ : Addr).add 2) = some (.string sR0_2) /\
 R (.returned (.tuple #[.agg #[.int .i64 nR0_0, .int .i64 nR0_1, .string sR0_2], .bool true])) w21) (
 stA prog 43 (⟨r2, 0, none⟩ : Addr) #[.int .i64 0, .int .i64 0, .string (⟨#[]⟩ : ByteArray)] w12 fun w22 =>
 runD prog ds w22 fun w23 =>
 ∃ nR0_0 : Int, w23.cell? ((⟨r2, 0, none⟩ : Addr).add 0) = some (.int .i64 nR0_0) /\
 ∃ nR0_1 : Int, w23.cell? ((⟨r2, 0, none⟩ : Addr).add 1) = some (.int .i64 nR0_1) /\
 ∃ sR0_2 : ByteArray, w23.cell? ((⟨r2, 0, none⟩ : Addr).add 2) = some (.string sR0_2) /\
 R (.returned (.tuple #[.agg #[.int .i64 nR0_0, .int .i64 nR0_1, .string sR0_2], .bool (n19 == (s23.size : Int))])) w23))
theorem c52_l : flat (bodyOf f52) = [c52_0, c52_1, c52_2, c52_3, c52_4, c52_5, c52_6, c52_7, c52_8, c52_9] := by kernel_rfl
theorem F52_1_ok (R : Rt) (p0 : Option Addr) (ds : Ds) (w : World) (E : Env) (e0 : E 0 = .pointer p0) (h : F52_1 R p0 ds w) :
    TrL prog f52.ntmps [c52_0, c52_1, c52_2, c52_3, c52_4, c52_5, c52_6, c52_7, c52_8, c52_9] (F52_q1 R) E ds w :=
  TrL_leaf (X := F52_1 R p0 ds w) (setAll_cons e0 setAll_nil) (by kernel_rfl) (by kernel_rfl) h
theorem F52_calls (p0 : Option Addr) (w : World) (R : Rt) (h : F52_1 R p0 [] w) : Calls prog 52 #[.pointer p0] w R :=
  calls_of_L (l := [c52_0, c52_1, c52_2, c52_3, c52_4, c52_5, c52_6, c52_7, c52_8, c52_9]) func52 (by kernel_rfl) (by rw [ntmps52]; exact Nat.le_of_ble_eq_true (by kernel_rfl)) c52_l
    (F52_1_ok R p0 [] w _ rfl h)
noncomputable def c34_0 := cI2 f34 0
noncomputable def c34_1 := cI2 f34 1
noncomputable def c34_1_0 := cJ2 c34_1 0
noncomputable def c34_1_0_0 := cJ2 c34_1_0 0
noncomputable def c34_1_0_0_0 := cJ2 c34_1_0_0 0
noncomputable def c34_1_0_0_1 := cJ2 c34_1_0_0 1
noncomputable def c34_1_0_0_1_0 := cJ2 c34_1_0_0_1 0
noncomputable def c34_1_0_0_1_1 := cJ2 c34_1_0_0_1 1
def F34_q1 (R : Rt) : EQ := endQ prog f34.results.toList R
def F34_q2 (R : Rt) : EQ := (blockQ 0 (F34_q1 R))
def F34_q3 (R : Rt) (J1 : (Unit) -> World -> Prop) : EQ := (thenQ (fun E _ w => J1 () w) (F34_q2 R))
def F34_q4 (R : Rt) (J1 : (Unit) -> World -> Prop) : EQ := (blockQ 1 (F34_q3 R J1))
def F34_q5 (R : Rt) (J1 : (Unit) -> World -> Prop) : EQ := (blockQ 2 (F34_q4 R J1))
def F34_1 (R : Rt) (J1 : (Unit) -> World -> Prop) (p0 p2 : Option Addr) (b20 : Bool) (ds : Ds) (w : World) : Prop :=
 Br b20 (
 Calls prog 52 #[.pointer p0] w fun e w1 =>
 ∃ n45_0_0 : Int, ∃ n45_0_1 : Int, ∃ s45_0_2 : ByteArray, ∃ b45_1 : Bool, e = .returned (.tuple #[.agg #[.int .i64 n45_0_0, .int .i64 n45_0_1, .string s45_0_2], .bool b45_1]) /\
 alE (.cells #[.int .i64 0, .int .i64 0, .string (⟨#[]⟩ : ByteArray)] 43) w1 fun r4 w2 =>
 stA prog 43 (⟨r4, 0, none⟩ : Addr) #[.int .i64 n45_0_0, .int .i64 n45_0_1, .string s45_0_2] w2 fun w3 =>
 Br b45_1 (
 dwE w3 fun w4 =>
 ∃ S1 : World -> Prop, S1 w4 /\
 ∃ n49_0 : Int, (∀ w', S1 w' -> w'.cell? ((⟨r4, 0, none⟩ : Addr).add 0) = some (.int .i64 n49_0)) /\
 ∃ n49_1 : Int, (∀ w', S1 w' -> w'.cell? ((⟨r4, 0, none⟩ : Addr).add 1) = some (.int .i64 n49_1)) /\
 ∃ s49_2 : ByteArray, (∀ w', S1 w' -> w'.cell? ((⟨r4, 0, none⟩ : Addr).add 2) = some (.string s49_2)) /\
 ∃ n51 : Int, (∀ w', S1 w' -> w'.cell? (⟨r4, 0, none⟩ : Addr) = some (.int .i64 n51)) /\
 ptrE p2 fun a5 =>
 stA prog 43 a5 #[.int .i64 n49_0, .int .i64 n49_1, .string s49_2] w4 fun w6 =>
 S1 w6 /\
 runD prog ds w6 fun w7 =>
 ptrE p2 fun a8 =>
 ∃ nR0_0 : Int, w7.cell? (a8.add 0) = some (.int .i64 nR0_0) /\
 ∃ nR0_1 : Int, w7.cell? (a8.add 1) = some (.int .i64 nR0_1) /\
 ∃ sR0_2 : ByteArray, w7.cell? (a8.add 2) = some (.string sR0_2) /\
 R (.returned (.tuple #[.agg #[.int .i64 nR0_0, .int .i64 nR0_1, .string sR0_2], .bool (n51 == 5)])) w7) (
 J1 () w3)) (
 dwE w fun w9 =>
 ptrE p0 fun a10 =>
 ∃ s57 : ByteArray, w9.cell? a10 = some (.string s57) /\
 ptrE p0 fun a11 =>
 ∃ n61 : Int, w9.cell? (a11.add 1) = some (.int .i64 n61) /\
 ∃ b62 : UInt8, 0 ≤ n61 /\ s57[n61.toNat]? = some b62 /\
 Br ((b62.toNat : Int) == 42) (
 ptrE p0 fun a12 =>
 ∃ b68 : Bool, w9.cell? (a12.add 259) = some (.bool b68) /\
 Br (!b68) (
 Br (!b68) (
 Calls prog 53 #[.pointer p0] w9 fun e w13 =>
 ∃ b82 : Bool, e = .returned (.bool b82) /\
 Br (!b82) (
 ptrE p2 fun a14 =>
 stA prog 43 a14 #[.int .i64 0, .int .i64 0, .string (⟨#[]⟩ : ByteArray)] w13 fun w15 =>
 runD prog ds w15 fun w16 =>
 ptrE p2 fun a17 =>
 ∃ nR0_0 : Int, w16.cell? (a17.add 0) = some (.int .i64 nR0_0) /\
 ∃ nR0_1 : Int, w16.cell? (a17.add 1) = some (.int .i64 nR0_1) /\
 ∃ sR0_2 : ByteArray, w16.cell? (a17.add 2) = some (.string sR0_2) /\
 R (.returned (.tuple #[.agg #[.int .i64 nR0_0, .int .i64 nR0_1, .string sR0_2], .bool false])) w16) (
 J1 () w13)) (
 dwE w9 fun w18 =>
 ptrE p0 fun a19 =>
 ∃ s89 : ByteArray, w18.cell? a19 = some (.string s89) /\
 ptrE p0 fun a20 =>
 ∃ n93 : Int, w18.cell? (a20.add 1) = some (.int .i64 n93) /\
 ∃ b94 : UInt8, 0 ≤ n93 /\ s89[n93.toNat]? = some b94 /\
 Br ((b94.toNat : Int) == 59) (
 Calls prog 54 #[.pointer p0] w18 fun e w21 =>
 ∃ b98_0 : Bool, ∃ b98_1 : Bool, e = .returned (.tuple #[.bool b98_0, .bool b98_1]) /\
 Br (!b98_0) (
 ptrE p0 fun a22 =>
 ∃ n107 : Int, w21.cell? (a22.add 1) = some (.int .i64 n107) /\
 ptrE p0 fun a23 =>
 st1 (a23.add 260) (.int .i64 n107) w21 fun w24 =>
 Br (!b98_0) (
 ptrE p2 fun a25 =>
 stA prog 43 a25 #[.int .i64 0, .int .i64 0, .string (⟨#[]⟩ : ByteArray)] w24 fun w26 =>
 runD prog ds w26 fun w27 =>
 ptrE p2 fun a28 =>
 ∃ nR0_0 : Int, w27.cell? (a28.add 0) = some (.int .i64 nR0_0) /\
 ∃ nR0_1 : Int, w27.cell? (a28.add 1) = some (.int .i64 nR0_1) /\
 ∃ sR0_2 : ByteArray, w27.cell? (a28.add 2) = some (.string sR0_2) /\
 R (.returned (.tuple #[.agg #[.int .i64 nR0_0, .int .i64 nR0_1, .string sR0_2], .bool false])) w27) (
 Br (!b98_1) (
 ptrE p2 fun a29 =>
 stA prog 43 a29 #[.int .i64 0, .int .i64 0, .string (⟨#[]⟩ : ByteArray)] w24 fun w30 =>
 runD prog ds w30 fun w31 =>
 ptrE p2 fun a32 =>
 ∃ nR0_0 : Int, w31.cell? (a32.add 0) = some (.int .i64 nR0_0) /\
 ∃ nR0_1 : Int, w31.cell? (a32.add 1) = some (.int .i64 nR0_1) /\
 ∃ sR0_2 : ByteArray, w31.cell? (a32.add 2) = some (.string sR0_2) /\
 R (.returned (.tuple #[.agg #[.int .i64 nR0_0, .int .i64 nR0_1, .string sR0_2], .bool false])) w31) (
 J1 () w24))) (
 Br (!b98_0) (
 ptrE p2 fun a33 =>
 stA prog 43 a33 #[.int .i64 0, .int .i64 0, .string (⟨#[]⟩ : ByteArray)] w21 fun w34 =>
 runD prog ds w34 fun w35 =>
 ptrE p2 fun a36 =>
 ∃ nR0_0 : Int, w35.cell? (a36.add 0) = some (.int .i64 nR0_0) /\
 ∃ nR0_1 : Int, w35.cell? (a36.add 1) = some (.int .i64 nR0_1) /\
 ∃ sR0_2 : ByteArray, w35.cell? (a36.add 2) = some (.string sR0_2) /\
 R (.returned (.tuple #[.agg #[.int .i64 nR0_0, .int .i64 nR0_1, .string sR0_2], .bool false])) w35) (
 Br (!b98_1) (
 ptrE p2 fun a37 =>
 stA prog 43 a37 #[.int .i64 0, .int .i64 0, .string (⟨#[]⟩ : ByteArray)] w21 fun w38 =>
 runD prog ds w38 fun w39 =>
 ptrE p2 fun a40 =>
 ∃ nR0_0 : Int, w39.cell? (a40.add 0) = some (.int .i64 nR0_0) /\
 ∃ nR0_1 : Int, w39.cell? (a40.add 1) = some (.int .i64 nR0_1) /\
 ∃ sR0_2 : ByteArray, w39.cell? (a40.add 2) = some (.string sR0_2) /\
 R (.returned (.tuple #[.agg #[.int .i64 nR0_0, .int .i64 nR0_1, .string sR0_2], .bool false])) w39) (
 J1 () w21)))) (
 ptrE p0 fun a41 =>
 st1 (a41.add 258) (.bool true) w18 fun w42 =>
 ptrE p0 fun a43 =>
 st1 (a43.add 259) (.bool true) w42 fun w44 =>
 Calls prog 55 #[.pointer p0] w44 fun e w45 =>
 ∃ n17_0_0 : Int, ∃ n17_0_1 : Int, ∃ s17_0_2 : ByteArray, ∃ b17_1 : Bool, e = .returned (.tuple #[.agg #[.int .i64 n17_0_0, .int .i64 n17_0_1, .string s17_0_2], .bool b17_1]) /\
 ptrE p2 fun a46 =>
 stA prog 43 a46 #[.int .i64 n17_0_0, .int .i64 n17_0_1, .string s17_0_2] w45 fun w47 =>
 runD prog ds w47 fun w48 =>
 ptrE p2 fun a49 =>
 ∃ nR0_0 : Int, w48.cell? (a49.add 0) = some (.int .i64 nR0_0) /\
 ∃ nR0_1 : Int, w48.cell? (a49.add 1) = some (.int .i64 nR0_1) /\
 ∃ sR0_2 : ByteArray, w48.cell? (a49.add 2) = some (.string sR0_2) /\
 R (.returned (.tuple #[.agg #[.int .i64 nR0_0, .int .i64 nR0_1, .string sR0_2], .bool b17_1])) w48))) (
 dwE w9 fun w50 =>
 ptrE p0 fun a51 =>
 ∃ s74 : ByteArray, w50.cell? a51 = some (.string s74) /\
 ptrE p0 fun a52 =>
 ∃ n78 : Int, w50.cell? (a52.add 1) = some (.int .i64 n78) /\
 s74.size ≤ s74.size /\ 0 ≤ n78 /\ n78.toNat ≤ s74.size /\
 Calls prog 26 #[.string (s74.extract n78.toNat s74.size), .string (⟨#[38, 38]⟩ : ByteArray)] w50 fun e w53 =>
 ∃ b80 : Bool, e = .returned (.bool b80) /\
 Br b80 (
 Calls prog 53 #[.pointer p0] w53 fun e w54 =>
 ∃ b82 : Bool, e = .returned (.bool b82) /\
 Br (!b82) (
 ptrE p2 fun a55 =>
 stA prog 43 a55 #[.int .i64 0, .int .i64 0, .string (⟨#[]⟩ : ByteArray)] w54 fun w56 =>
 runD prog ds w56 fun w57 =>
 ptrE p2 fun a58 =>
 ∃ nR0_0 : Int, w57.cell? (a58.add 0) = some (.int .i64 nR0_0) /\
 ∃ nR0_1 : Int, w57.cell? (a58.add 1) = some (.int .i64 nR0_1) /\
 ∃ sR0_2 : ByteArray, w57.cell? (a58.add 2) = some (.string sR0_2) /\
 R (.returned (.tuple #[.agg #[.int .i64 nR0_0, .int .i64 nR0_1, .string sR0_2], .bool false])) w57) (
 J1 () w54)) (
 dwE w53 fun w59 =>
 ptrE p0 fun a60 =>
 ∃ s89 : ByteArray, w59.cell? a60 = some (.string s89) /\
 ptrE p0 fun a61 =>
 ∃ n93 : Int, w59.cell? (a61.add 1) = some (.int .i64 n93) /\
 ∃ b94 : UInt8, 0 ≤ n93 /\ s89[n93.toNat]? = some b94 /\
 Br ((b94.toNat : Int) == 59) (
 Calls prog 54 #[.pointer p0] w59 fun e w62 =>
 ∃ b98_0 : Bool, ∃ b98_1 : Bool, e = .returned (.tuple #[.bool b98_0, .bool b98_1]) /\
 Br (!b98_0) (
 ptrE p0 fun a63 =>
 ∃ n107 : Int, w62.cell? (a63.add 1) = some (.int .i64 n107) /\
 ptrE p0 fun a64 =>
 st1 (a64.add 260) (.int .i64 n107) w62 fun w65 =>
 Br (!b98_0) (
 ptrE p2 fun a66 =>
 stA prog 43 a66 #[.int .i64 0, .int .i64 0, .string (⟨#[]⟩ : ByteArray)] w65 fun w67 =>
 runD prog ds w67 fun w68 =>
 ptrE p2 fun a69 =>
 ∃ nR0_0 : Int, w68.cell? (a69.add 0) = some (.int .i64 nR0_0) /\
 ∃ nR0_1 : Int, w68.cell? (a69.add 1) = some (.int .i64 nR0_1) /\
 ∃ sR0_2 : ByteArray, w68.cell? (a69.add 2) = some (.string sR0_2) /\
 R (.returned (.tuple #[.agg #[.int .i64 nR0_0, .int .i64 nR0_1, .string sR0_2], .bool false])) w68) (
 Br (!b98_1) (
 ptrE p2 fun a70 =>
 stA prog 43 a70 #[.int .i64 0, .int .i64 0, .string (⟨#[]⟩ : ByteArray)] w65 fun w71 =>
 runD prog ds w71 fun w72 =>
 ptrE p2 fun a73 =>
 ∃ nR0_0 : Int, w72.cell? (a73.add 0) = some (.int .i64 nR0_0) /\
 ∃ nR0_1 : Int, w72.cell? (a73.add 1) = some (.int .i64 nR0_1) /\
 ∃ sR0_2 : ByteArray, w72.cell? (a73.add 2) = some (.string sR0_2) /\
 R (.returned (.tuple #[.agg #[.int .i64 nR0_0, .int .i64 nR0_1, .string sR0_2], .bool false])) w72) (
 J1 () w65))) (
 Br (!b98_0) (
 ptrE p2 fun a74 =>
 stA prog 43 a74 #[.int .i64 0, .int .i64 0, .string (⟨#[]⟩ : ByteArray)] w62 fun w75 =>
 runD prog ds w75 fun w76 =>
 ptrE p2 fun a77 =>
 ∃ nR0_0 : Int, w76.cell? (a77.add 0) = some (.int .i64 nR0_0) /\
 ∃ nR0_1 : Int, w76.cell? (a77.add 1) = some (.int .i64 nR0_1) /\
 ∃ sR0_2 : ByteArray, w76.cell? (a77.add 2) = some (.string sR0_2) /\
 R (.returned (.tuple #[.agg #[.int .i64 nR0_0, .int .i64 nR0_1, .string sR0_2], .bool false])) w76) (
 Br (!b98_1) (
 ptrE p2 fun a78 =>
 stA prog 43 a78 #[.int .i64 0, .int .i64 0, .string (⟨#[]⟩ : ByteArray)] w62 fun w79 =>
 runD prog ds w79 fun w80 =>
 ptrE p2 fun a81 =>
 ∃ nR0_0 : Int, w80.cell? (a81.add 0) = some (.int .i64 nR0_0) /\
 ∃ nR0_1 : Int, w80.cell? (a81.add 1) = some (.int .i64 nR0_1) /\
 ∃ sR0_2 : ByteArray, w80.cell? (a81.add 2) = some (.string sR0_2) /\
 R (.returned (.tuple #[.agg #[.int .i64 nR0_0, .int .i64 nR0_1, .string sR0_2], .bool false])) w80) (
 J1 () w62)))) (
 ptrE p0 fun a82 =>
 st1 (a82.add 258) (.bool true) w59 fun w83 =>
 ptrE p0 fun a84 =>
 st1 (a84.add 259) (.bool true) w83 fun w85 =>
 Calls prog 55 #[.pointer p0] w85 fun e w86 =>
 ∃ n17_0_0 : Int, ∃ n17_0_1 : Int, ∃ s17_0_2 : ByteArray, ∃ b17_1 : Bool, e = .returned (.tuple #[.agg #[.int .i64 n17_0_0, .int .i64 n17_0_1, .string s17_0_2], .bool b17_1]) /\
 ptrE p2 fun a87 =>
 stA prog 43 a87 #[.int .i64 n17_0_0, .int .i64 n17_0_1, .string s17_0_2] w86 fun w88 =>
 runD prog ds w88 fun w89 =>
 ptrE p2 fun a90 =>
 ∃ nR0_0 : Int, w89.cell? (a90.add 0) = some (.int .i64 nR0_0) /\
 ∃ nR0_1 : Int, w89.cell? (a90.add 1) = some (.int .i64 nR0_1) /\
 ∃ sR0_2 : ByteArray, w89.cell? (a90.add 2) = some (.string sR0_2) /\
 R (.returned (.tuple #[.agg #[.int .i64 nR0_0, .int .i64 nR0_1, .string sR0_2], .bool b17_1])) w89)))) (
 dwE w9 fun w91 =>
 ptrE p0 fun a92 =>
 ∃ s74 : ByteArray, w91.cell? a92 = some (.string s74) /\
 ptrE p0 fun a93 =>
 ∃ n78 : Int, w91.cell? (a93.add 1) = some (.int .i64 n78) /\
 s74.size ≤ s74.size /\ 0 ≤ n78 /\ n78.toNat ≤ s74.size /\
 Calls prog 26 #[.string (s74.extract n78.toNat s74.size), .string (⟨#[38, 38]⟩ : ByteArray)] w91 fun e w94 =>
 ∃ b80 : Bool, e = .returned (.bool b80) /\
 Br b80 (
 Calls prog 53 #[.pointer p0] w94 fun e w95 =>
 ∃ b82 : Bool, e = .returned (.bool b82) /\
 Br (!b82) (
 ptrE p2 fun a96 =>
 stA prog 43 a96 #[.int .i64 0, .int .i64 0, .string (⟨#[]⟩ : ByteArray)] w95 fun w97 =>
 runD prog ds w97 fun w98 =>
 ptrE p2 fun a99 =>
 ∃ nR0_0 : Int, w98.cell? (a99.add 0) = some (.int .i64 nR0_0) /\
 ∃ nR0_1 : Int, w98.cell? (a99.add 1) = some (.int .i64 nR0_1) /\
 ∃ sR0_2 : ByteArray, w98.cell? (a99.add 2) = some (.string sR0_2) /\
 R (.returned (.tuple #[.agg #[.int .i64 nR0_0, .int .i64 nR0_1, .string sR0_2], .bool false])) w98) (
 J1 () w95)) (
 dwE w94 fun w100 =>
 ptrE p0 fun a101 =>
 ∃ s89 : ByteArray, w100.cell? a101 = some (.string s89) /\
 ptrE p0 fun a102 =>
 ∃ n93 : Int, w100.cell? (a102.add 1) = some (.int .i64 n93) /\
 ∃ b94 : UInt8, 0 ≤ n93 /\ s89[n93.toNat]? = some b94 /\
 Br ((b94.toNat : Int) == 59) (
 Calls prog 54 #[.pointer p0] w100 fun e w103 =>
 ∃ b98_0 : Bool, ∃ b98_1 : Bool, e = .returned (.tuple #[.bool b98_0, .bool b98_1]) /\
 Br (!b98_0) (
 ptrE p0 fun a104 =>
 ∃ n107 : Int, w103.cell? (a104.add 1) = some (.int .i64 n107) /\
 ptrE p0 fun a105 =>
 st1 (a105.add 260) (.int .i64 n107) w103 fun w106 =>
 Br (!b98_0) (
 ptrE p2 fun a107 =>
 stA prog 43 a107 #[.int .i64 0, .int .i64 0, .string (⟨#[]⟩ : ByteArray)] w106 fun w108 =>
 runD prog ds w108 fun w109 =>
 ptrE p2 fun a110 =>
 ∃ nR0_0 : Int, w109.cell? (a110.add 0) = some (.int .i64 nR0_0) /\
 ∃ nR0_1 : Int, w109.cell? (a110.add 1) = some (.int .i64 nR0_1) /\
 ∃ sR0_2 : ByteArray, w109.cell? (a110.add 2) = some (.string sR0_2) /\
 R (.returned (.tuple #[.agg #[.int .i64 nR0_0, .int .i64 nR0_1, .string sR0_2], .bool false])) w109) (
 Br (!b98_1) (
 ptrE p2 fun a111 =>
 stA prog 43 a111 #[.int .i64 0, .int .i64 0, .string (⟨#[]⟩ : ByteArray)] w106 fun w112 =>
 runD prog ds w112 fun w113 =>
 ptrE p2 fun a114 =>
 ∃ nR0_0 : Int, w113.cell? (a114.add 0) = some (.int .i64 nR0_0) /\
 ∃ nR0_1 : Int, w113.cell? (a114.add 1) = some (.int .i64 nR0_1) /\
 ∃ sR0_2 : ByteArray, w113.cell? (a114.add 2) = some (.string sR0_2) /\
 R (.returned (.tuple #[.agg #[.int .i64 nR0_0, .int .i64 nR0_1, .string sR0_2], .bool false])) w113) (
 J1 () w106))) (
 Br (!b98_0) (
 ptrE p2 fun a115 =>
 stA prog 43 a115 #[.int .i64 0, .int .i64 0, .string (⟨#[]⟩ : ByteArray)] w103 fun w116 =>
 runD prog ds w116 fun w117 =>
 ptrE p2 fun a118 =>
 ∃ nR0_0 : Int, w117.cell? (a118.add 0) = some (.int .i64 nR0_0) /\
 ∃ nR0_1 : Int, w117.cell? (a118.add 1) = some (.int .i64 nR0_1) /\
 ∃ sR0_2 : ByteArray, w117.cell? (a118.add 2) = some (.string sR0_2) /\
 R (.returned (.tuple #[.agg #[.int .i64 nR0_0, .int .i64 nR0_1, .string sR0_2], .bool false])) w117) (
 Br (!b98_1) (
 ptrE p2 fun a119 =>
 stA prog 43 a119 #[.int .i64 0, .int .i64 0, .string (⟨#[]⟩ : ByteArray)] w103 fun w120 =>
 runD prog ds w120 fun w121 =>
 ptrE p2 fun a122 =>
 ∃ nR0_0 : Int, w121.cell? (a122.add 0) = some (.int .i64 nR0_0) /\
 ∃ nR0_1 : Int, w121.cell? (a122.add 1) = some (.int .i64 nR0_1) /\
 ∃ sR0_2 : ByteArray, w121.cell? (a122.add 2) = some (.string sR0_2) /\
 R (.returned (.tuple #[.agg #[.int .i64 nR0_0, .int .i64 nR0_1, .string sR0_2], .bool false])) w121) (
 J1 () w103)))) (
 ptrE p0 fun a123 =>
 st1 (a123.add 258) (.bool true) w100 fun w124 =>
 ptrE p0 fun a125 =>
 st1 (a125.add 259) (.bool true) w124 fun w126 =>
 Calls prog 55 #[.pointer p0] w126 fun e w127 =>
 ∃ n17_0_0 : Int, ∃ n17_0_1 : Int, ∃ s17_0_2 : ByteArray, ∃ b17_1 : Bool, e = .returned (.tuple #[.agg #[.int .i64 n17_0_0, .int .i64 n17_0_1, .string s17_0_2], .bool b17_1]) /\
 ptrE p2 fun a128 =>
 stA prog 43 a128 #[.int .i64 n17_0_0, .int .i64 n17_0_1, .string s17_0_2] w127 fun w129 =>
 runD prog ds w129 fun w130 =>
 ptrE p2 fun a131 =>
 ∃ nR0_0 : Int, w130.cell? (a131.add 0) = some (.int .i64 nR0_0) /\
 ∃ nR0_1 : Int, w130.cell? (a131.add 1) = some (.int .i64 nR0_1) /\
 ∃ sR0_2 : ByteArray, w130.cell? (a131.add 2) = some (.string sR0_2) /\
 R (.returned (.tuple #[.agg #[.int .i64 nR0_0, .int .i64 nR0_1, .string sR0_2], .bool b17_1])) w130))))
def F34_k6 (R : Rt) (J1 : (Unit) -> World -> Prop) : EP := (fun E ds w => dPtr (E 0) fun p0 => dPtr (E 2) fun p2 => dBl (E 20) fun b20 => F34_1 R J1 p0 p2 b20 ds w)
def F34_2 (R : Rt) (J1 : (Unit) -> World -> Prop) (p0 p2 : Option Addr) (ds : Ds) (w : World) : Prop :=
 dwE w fun w132 =>
 ptrE p0 fun a133 =>
 ∃ n24 : Int, w132.cell? (a133.add 1) = some (.int .i64 n24) /\
 ptrE p0 fun a134 =>
 ∃ s28 : ByteArray, w132.cell? a134 = some (.string s28) /\
 Br (n24 == (s28.size : Int)) (
 F34_1 R J1 p0 p2 true ds w132) (
 ptrE p0 fun a135 =>
 ∃ s35 : ByteArray, w132.cell? a135 = some (.string s35) /\
 ptrE p0 fun a136 =>
 ∃ n39 : Int, w132.cell? (a136.add 1) = some (.int .i64 n39) /\
 ∃ b40 : UInt8, 0 ≤ n39 /\ s35[n39.toNat]? = some b40 /\
 F34_1 R J1 p0 p2 ((b40.toNat : Int) == 10) ds w132)
abbrev F34_3 (R : Rt) (J1 : (Unit) -> World -> Prop) (p0 p2 : Option Addr) (ds : Ds) (w : World) : Prop := F34_2 R J1 p0 p2 ds w
def F34_k7 (R : Rt) (J1 : (Unit) -> World -> Prop) : EP := (fun E ds w => dPtr (E 0) fun p0 => dPtr (E 2) fun p2 => F34_3 R J1 p0 p2 ds w)
def F34_4 (R : Rt) (J1 : (Unit) -> World -> Prop) (p0 p2 : Option Addr) (ds : Ds) (w : World) : Prop :=
 Calls prog 51 #[.pointer p0] w fun e w137 =>
 e = .returned (.tuple #[]) /\
 F34_3 R J1 p0 p2 ds w137
abbrev F34_5 (R : Rt) (J1 : (Unit) -> World -> Prop) (p0 p2 : Option Addr) (ds : Ds) (w : World) : Prop := F34_4 R J1 p0 p2 ds w
def F34_6 (R : Rt) (p0 p2 : Option Addr) (ds : Ds) (w : World) : Prop :=
 loopT (fun (J1 : (Unit) -> World -> Prop) (_ : Unit) (w : World) => F34_5 R J1 p0 p2 ds w) () w
abbrev F34_7 (R : Rt) (p0 p2 : Option Addr) (ds : Ds) (w : World) : Prop := F34_6 R p0 p2 ds w
def F34_k8 (R : Rt) : EP := (fun E ds w => dPtr (E 0) fun p0 => dPtr (E 2) fun p2 => F34_7 R p0 p2 ds w)
def F34_8 (R : Rt) (p0 : Option Addr) (ds : Ds) (w : World) : Prop :=
 alE (.cells #[.int .i64 0, .int .i64 0, .string (⟨#[]⟩ : ByteArray)] 43) w fun r2 w138 =>
 F34_7 R p0 (some (⟨r2, 0, none⟩ : Addr)) ds w138
theorem c34_l : flat (bodyOf f34) = [c34_0, c34_1] := by kernel_rfl
theorem c34_1_l : flat (innerC c34_1) = [c34_1_0] := by kernel_rfl
theorem c34_1_0_l : flat (innerC c34_1_0) = [c34_1_0_0] := by kernel_rfl
theorem c34_1_0_0_l : flat (innerC c34_1_0_0) = [c34_1_0_0_0, c34_1_0_0_1] := by kernel_rfl
theorem c34_1_0_0_1_l : flat (innerC c34_1_0_0_1) = [c34_1_0_0_1_0, c34_1_0_0_1_1] := by kernel_rfl
theorem F34_1_ok (R : Rt) (J1 : (Unit) -> World -> Prop) (p0 p2 : Option Addr) (b20 : Bool) (ds : Ds) (w : World) (E : Env) (e0 : E 0 = .pointer p0) (e2 : E 2 = .pointer p2) (e20 : E 20 = .bool b20) (h : F34_1 R J1 p0 p2 b20 ds w) :
    TrL prog f34.ntmps [c34_1_0_0_1_1] (F34_q5 R J1) E ds w :=
  TrL_leaf (X := F34_1 R J1 p0 p2 b20 ds w) (setAll_cons e0 (setAll_cons e2 (setAll_cons e20 setAll_nil))) (by kernel_rfl) (by kernel_rfl) h
theorem F34_2_ok (R : Rt) (J1 : (Unit) -> World -> Prop) (p0 p2 : Option Addr) (ds : Ds) (w : World) (E : Env) (e0 : E 0 = .pointer p0) (e2 : E 2 = .pointer p2) (h : F34_2 R J1 p0 p2 ds w) :
    TrL prog f34.ntmps [c34_1_0_0_1_0, c34_1_0_0_1_1] (F34_q5 R J1) E ds w :=
  TrL_piece (pre := [c34_1_0_0_1_0]) (K := (F34_k6 R J1)) (X := F34_2 R J1 p0 p2 ds w) (setAll_cons e0 (setAll_cons e2 setAll_nil)) (by kernel_rfl) (by kernel_rfl)
    (fun E' ds' w' hD => by
      obtain ⟨p0, e0, hD⟩ := dPtr_elim hD; obtain ⟨p2, e2, hD⟩ := dPtr_elim hD; obtain ⟨b20, e20, hD⟩ := dBl_elim hD; exact F34_1_ok R J1 p0 p2 b20 ds' w' E' e0 e2 e20 hD) h
theorem F34_3_ok (R : Rt) (J1 : (Unit) -> World -> Prop) (p0 p2 : Option Addr) (ds : Ds) (w : World) (E : Env) (e0 : E 0 = .pointer p0) (e2 : E 2 = .pointer p2) (h : F34_3 R J1 p0 p2 ds w) :
    TrL prog f34.ntmps [c34_1_0_0_1] (F34_q4 R J1) E ds w :=
  TrL_one (Tr_block' (c := innerC c34_1_0_0_1) (by kernel_rfl) c34_1_0_0_1_l (F34_2_ok R J1 p0 p2 ds w E e0 e2 h))
theorem F34_4_ok (R : Rt) (J1 : (Unit) -> World -> Prop) (p0 p2 : Option Addr) (ds : Ds) (w : World) (E : Env) (e0 : E 0 = .pointer p0) (e2 : E 2 = .pointer p2) (h : F34_4 R J1 p0 p2 ds w) :
    TrL prog f34.ntmps [c34_1_0_0_0, c34_1_0_0_1] (F34_q4 R J1) E ds w :=
  TrL_piece (pre := [c34_1_0_0_0]) (K := (F34_k7 R J1)) (X := F34_4 R J1 p0 p2 ds w) (setAll_cons e0 (setAll_cons e2 setAll_nil)) (by kernel_rfl) (by kernel_rfl)
    (fun E' ds' w' hD => by
      obtain ⟨p0, e0, hD⟩ := dPtr_elim hD; obtain ⟨p2, e2, hD⟩ := dPtr_elim hD; exact F34_3_ok R J1 p0 p2 ds' w' E' e0 e2 hD) h
theorem F34_5_ok (R : Rt) (J1 : (Unit) -> World -> Prop) (p0 p2 : Option Addr) (ds : Ds) (w : World) (E : Env) (e0 : E 0 = .pointer p0) (e2 : E 2 = .pointer p2) (h : F34_5 R J1 p0 p2 ds w) :
    TrL prog f34.ntmps [c34_1_0_0] (F34_q3 R J1) E ds w :=
  TrL_one (Tr_block' (c := innerC c34_1_0_0) (by kernel_rfl) c34_1_0_0_l (F34_4_ok R J1 p0 p2 ds w E e0 e2 h))
theorem F34_6_ok (R : Rt) (p0 p2 : Option Addr) (ds : Ds) (w : World) (E : Env) (e0 : E 0 = .pointer p0) (e2 : E 2 = .pointer p2) (h : F34_6 R p0 p2 ds w) :
    TrL prog f34.ntmps [c34_1_0] (F34_q2 R) E ds w :=
  TrL_one (Tr_loop' (c := innerC c34_1_0) (σ := Unit) (enc := (fun (_ : Unit) (_ : Env) => True)) (D := (fun E K => K ())) (F := (fun (J1 : (Unit) -> World -> Prop) (_ : Unit) (w : World) => F34_5 R J1 p0 p2 ds w)) (s0 := ()) (by kernel_rfl) c34_1_0_l trivial (by kernel_rfl) (fun E K hD => by exact ⟨(), trivial, hD⟩)
      (fun J1 _ E' w' he ha hF => by
      skip
      exact F34_5_ok R J1 p0 p2 ds w' E' ((ha 0 (by kernel_rfl)).trans e0) ((ha 2 (by kernel_rfl)).trans e2) hF) h)
theorem F34_7_ok (R : Rt) (p0 p2 : Option Addr) (ds : Ds) (w : World) (E : Env) (e0 : E 0 = .pointer p0) (e2 : E 2 = .pointer p2) (h : F34_7 R p0 p2 ds w) :
    TrL prog f34.ntmps [c34_1] (F34_q1 R) E ds w :=
  TrL_one (Tr_block' (c := innerC c34_1) (by kernel_rfl) c34_1_l (F34_6_ok R p0 p2 ds w E e0 e2 h))
theorem F34_8_ok (R : Rt) (p0 : Option Addr) (ds : Ds) (w : World) (E : Env) (e0 : E 0 = .pointer p0) (h : F34_8 R p0 ds w) :
    TrL prog f34.ntmps [c34_0, c34_1] (F34_q1 R) E ds w :=
  TrL_piece (pre := [c34_0]) (K := (F34_k8 R)) (X := F34_8 R p0 ds w) (setAll_cons e0 setAll_nil) (by kernel_rfl) (by kernel_rfl)
    (fun E' ds' w' hD => by
      obtain ⟨p0, e0, hD⟩ := dPtr_elim hD; obtain ⟨p2, e2, hD⟩ := dPtr_elim hD; exact F34_7_ok R p0 p2 ds' w' E' e0 e2 hD) h
theorem F34_calls (p0 : Option Addr) (w : World) (R : Rt) (h : F34_8 R p0 [] w) : Calls prog 34 #[.pointer p0] w R :=
  calls_of_L (l := [c34_0, c34_1]) func34 (by kernel_rfl) (by rw [ntmps34]; exact Nat.le_of_ble_eq_true (by kernel_rfl)) c34_l
    (F34_8_ok R p0 [] w _ rfl h)
end Go.Proofs.YtlogipcgejfnnaaDoor

/- Shallow texts of functions, printed by program, each checked by the kernel against the loaded code. No condition. -/
set_option maxRecDepth 100000
set_option linter.unusedVariables false
namespace Go.Proofs.YtlogipcgejfnnaaDoor
open Go.Sh
open Tryd
@[reducible] noncomputable def cI3 (f : Func) (i : Nat) : Code := itemAt (flat (bodyOf f)) i
@[reducible] noncomputable def cJ3 (c : Code) (i : Nat) : Code := itemAt (flat (innerC c)) i
noncomputable def c55_0 := cI3 f55 0
noncomputable def c55_1 := cI3 f55 1
noncomputable def c55_2 := cI3 f55 2
noncomputable def c55_3 := cI3 f55 3
noncomputable def c55_4 := cI3 f55 4
noncomputable def c55_5 := cI3 f55 5
noncomputable def c55_6 := cI3 f55 6
noncomputable def c55_7 := cI3 f55 7
noncomputable def c55_8 := cI3 f55 8
noncomputable def c55_3_0 := cJ3 c55_3 0
noncomputable def c55_3_1 := cJ3 c55_3 1
noncomputable def c55_3_1t_0 := itemAt (flat (thnC c55_3_1)) 0
noncomputable def c55_3_1t_1 := itemAt (flat (thnC c55_3_1)) 1
noncomputable def c55_3_1t_2 := itemAt (flat (thnC c55_3_1)) 2
noncomputable def c55_3_1t_3 := itemAt (flat (thnC c55_3_1)) 3
noncomputable def c55_3_1e_0 := itemAt (flat (elsC c55_3_1)) 0
noncomputable def c55_3_1e_1 := itemAt (flat (elsC c55_3_1)) 1
noncomputable def c55_3_1t_0_0 := cJ3 c55_3_1t_0 0
noncomputable def c55_3_1t_0_0_0 := cJ3 c55_3_1t_0_0 0
noncomputable def c55_3_1t_0_0_1 := cJ3 c55_3_1t_0_0 1
noncomputable def c55_3_1t_0_0_2 := cJ3 c55_3_1t_0_0 2
noncomputable def c55_3_1e_1t_0 := itemAt (flat (thnC c55_3_1e_1)) 0
noncomputable def c55_3_1e_1t_1 := itemAt (flat (thnC c55_3_1e_1)) 1
noncomputable def c55_3_1e_1t_2 := itemAt (flat (thnC c55_3_1e_1)) 2
noncomputable def c55_3_1e_1t_3 := itemAt (flat (thnC c55_3_1e_1)) 3
noncomputable def c55_3_1e_1e_0 := itemAt (flat (elsC c55_3_1e_1)) 0
noncomputable def c55_3_1e_1e_1 := itemAt (flat (elsC c55_3_1e_1)) 1
noncomputable def c55_3_1e_1t_0_0 := cJ3 c55_3_1e_1t_0 0
noncomputable def c55_3_1e_1t_0_0_0 := cJ3 c55_3_1e_1t_0_0 0
noncomputable def c55_3_1e_1t_0_0_1 := cJ3 c55_3_1e_1t_0_0 1
noncomputable def c55_3_1e_1t_0_0_2 := cJ3 c55_3_1e_1t_0_0 2
def F55_q1 (R : Rt) : EQ := endQ prog f55.results.toList R
def F55_1 (R : Rt) (p0 p2 : Option Addr) (n4 : Int) (p5 : Option Addr) (ds : Ds) (w : World) : Prop :=
 Calls prog 67 #[.pointer p0] w fun e w1 =>
 ∃ s114_0 : ByteArray, ∃ n114_1 : Int, ∃ b114_2 : Bool, e = .returned (.tuple #[.string s114_0, .int .i64 n114_1, .bool b114_2]) /\
 Br b114_2 (
 ptrE p0 fun a2 =>
 ∃ n122 : Int, w1.cell? (a2.add 1) = some (.int .i64 n122) /\
 ptrE p0 fun a3 =>
 st1 (a3.add 1) (.int .i64 (IntKind.i64.wrap (n122 + n114_1))) w1 fun w4 =>
 ptrE p2 fun a5 =>
 stA prog 43 a5 #[.int .i64 3, .int .i64 n4, .string s114_0] w4 fun w6 =>
 runD prog ds w6 fun w7 =>
 ptrE p2 fun a8 =>
 ∃ nR0_0 : Int, w7.cell? (a8.add 0) = some (.int .i64 nR0_0) /\
 ∃ nR0_1 : Int, w7.cell? (a8.add 1) = some (.int .i64 nR0_1) /\
 ∃ sR0_2 : ByteArray, w7.cell? (a8.add 2) = some (.string sR0_2) /\
 R (.returned (.tuple #[.agg #[.int .i64 nR0_0, .int .i64 nR0_1, .string sR0_2], .bool true])) w7) (
 ptrE p5 fun a9 =>
 ∃ n131_0 : Int, w1.cell? (a9.add 0) = some (.int .i64 n131_0) /\
 ∃ n131_1 : Int, w1.cell? (a9.add 1) = some (.int .i64 n131_1) /\
 ∃ s131_2 : ByteArray, w1.cell? (a9.add 2) = some (.string s131_2) /\
 Calls prog 68 #[.pointer p0, .agg #[.int .i64 n131_0, .int .i64 n131_1, .string s131_2]] w1 fun e w10 =>
 ∃ n132_0_0 : Int, ∃ n132_0_1 : Int, ∃ s132_0_2 : ByteArray, ∃ b132_1 : Bool, e = .returned (.tuple #[.agg #[.int .i64 n132_0_0, .int .i64 n132_0_1, .string s132_0_2], .bool b132_1]) /\
 ptrE p2 fun a11 =>
 stA prog 43 a11 #[.int .i64 n132_0_0, .int .i64 n132_0_1, .string s132_0_2] w10 fun w12 =>
 runD prog ds w12 fun w13 =>
 ptrE p2 fun a14 =>
 ∃ nR0_0 : Int, w13.cell? (a14.add 0) = some (.int .i64 nR0_0) /\
 ∃ nR0_1 : Int, w13.cell? (a14.add 1) = some (.int .i64 nR0_1) /\
 ∃ sR0_2 : ByteArray, w13.cell? (a14.add 2) = some (.string sR0_2) /\
 R (.returned (.tuple #[.agg #[.int .i64 nR0_0, .int .i64 nR0_1, .string sR0_2], .bool b132_1])) w13)
def F55_k2 (R : Rt) : EP := (fun E ds w => dPtr (E 0) fun p0 => dPtr (E 2) fun p2 => dInt .i64 (E 4) fun n4 => dPtr (E 5) fun p5 => F55_1 R p0 p2 n4 p5 ds w)
def F55_q3 (R : Rt) : EQ := (thenQ (F55_k2 R) (F55_q1 R))
def F55_q4 (R : Rt) : EQ := (blockQ 0 (F55_q3 R))
def F55_2 (R : Rt) (p0 p2 : Option Addr) (n4 : Int) (p5 : Option Addr) (ds : Ds) (w : World) : Prop :=
 dwE w fun w15 =>
 ptrE p0 fun a16 =>
 ∃ s43 : ByteArray, w15.cell? a16 = some (.string s43) /\
 ptrE p0 fun a17 =>
 ∃ n48 : Int, w15.cell? (a17.add 1) = some (.int .i64 n48) /\
 0 ≤ n48 /\ n48.toNat ≤ s43.size /\ 0 ≤ n4 /\ n4.toNat ≤ n48.toNat /\
 ptrE p5 fun a18 =>
 Calls prog 64 #[.string (s43.extract n4.toNat n48.toNat)] w15 fun e w19 =>
 ∃ s50 : ByteArray, e = .returned (.string s50) /\
 st1 a18 (.int .i64 0) w19 fun w20 =>
 ptrE p5 fun a21 =>
 st1 (a21.add 2) (.string s50) w20 fun w22 =>
 dwE w22 fun w23 =>
 ∃ S2 : World -> Prop, S2 w23 /\
 ptrE p5 fun a24 =>
 ∃ n53_0 : Int, (∀ w', S2 w' -> w'.cell? (a24.add 0) = some (.int .i64 n53_0)) /\
 ∃ n53_1 : Int, (∀ w', S2 w' -> w'.cell? (a24.add 1) = some (.int .i64 n53_1)) /\
 ∃ s53_2 : ByteArray, (∀ w', S2 w' -> w'.cell? (a24.add 2) = some (.string s53_2)) /\
 ptrE p5 fun a25 =>
 ∃ n55_0 : Int, (∀ w', S2 w' -> w'.cell? (a25.add 0) = some (.int .i64 n55_0)) /\
 ∃ n55_1 : Int, (∀ w', S2 w' -> w'.cell? (a25.add 1) = some (.int .i64 n55_1)) /\
 ∃ s55_2 : ByteArray, (∀ w', S2 w' -> w'.cell? (a25.add 2) = some (.string s55_2)) /\
 Calls prog 65 #[.pointer p0, .agg #[.int .i64 n55_0, .int .i64 n55_1, .string s55_2], .int .i64 24] w23 fun e w26 =>
 ∃ b56 : Bool, e = .returned (.bool b56) /\
 S2 w26 /\
 ptrE p2 fun a27 =>
 stA prog 43 a27 #[.int .i64 n53_0, .int .i64 n53_1, .string s53_2] w26 fun w28 =>
 runD prog ds w28 fun w29 =>
 ptrE p2 fun a30 =>
 ∃ nR0_0 : Int, w29.cell? (a30.add 0) = some (.int .i64 nR0_0) /\
 ∃ nR0_1 : Int, w29.cell? (a30.add 1) = some (.int .i64 nR0_1) /\
 ∃ sR0_2 : ByteArray, w29.cell? (a30.add 2) = some (.string sR0_2) /\
 R (.returned (.tuple #[.agg #[.int .i64 nR0_0, .int .i64 nR0_1, .string sR0_2], .bool b56])) w29
def F55_k5 (R : Rt) : EP := (fun E ds w => dPtr (E 0) fun p0 => dPtr (E 2) fun p2 => dInt .i64 (E 4) fun n4 => dPtr (E 5) fun p5 => F55_2 R p0 p2 n4 p5 ds w)
def F55_q6 (R : Rt) : EQ := (thenQ (F55_k5 R) (F55_q4 R))
def F55_q7 (R : Rt) : EQ := (blockQ 1 (F55_q6 R))
def F55_q8 (R : Rt) (J1 : (Unit) -> World -> Prop) : EQ := (thenQ (fun E _ w => J1 () w) (F55_q7 R))
def F55_3 (R : Rt) (J1 : (Unit) -> World -> Prop) (p0 p2 : Option Addr) (n4 : Int) (p5 : Option Addr) (ds : Ds) (w : World) : Prop :=
 ptrE p0 fun a31 =>
 ∃ n23 : Int, w.cell? (a31.add 1) = some (.int .i64 n23) /\
 Calls prog 62 #[.pointer p0, .int .i64 n23, .int .u8 1] w fun e w32 =>
 ∃ b24 : Bool, e = .returned (.bool b24) /\
 Br b24 (
 ptrE p0 fun a33 =>
 ∃ n36 : Int, w32.cell? (a33.add 1) = some (.int .i64 n36) /\
 ptrE p0 fun a34 =>
 st1 (a34.add 1) (.int .i64 (IntKind.i64.wrap (n36 + 1))) w32 fun w35 =>
 J1 () w35) (
 ptrE p0 fun a36 =>
 ∃ n30 : Int, w32.cell? (a36.add 1) = some (.int .i64 n30) /\
 Calls prog 62 #[.pointer p0, .int .i64 n30, .int .u8 2] w32 fun e w37 =>
 ∃ b31 : Bool, e = .returned (.bool b31) /\
 Br b31 (
 ptrE p0 fun a38 =>
 ∃ n36 : Int, w37.cell? (a38.add 1) = some (.int .i64 n36) /\
 ptrE p0 fun a39 =>
 st1 (a39.add 1) (.int .i64 (IntKind.i64.wrap (n36 + 1))) w37 fun w40 =>
 J1 () w40) (
 F55_2 R p0 p2 n4 p5 ds w37))
def F55_4 (R : Rt) (p0 p2 : Option Addr) (n4 : Int) (p5 : Option Addr) (ds : Ds) (w : World) : Prop :=
 loopT (fun (J1 : (Unit) -> World -> Prop) (_ : Unit) (w : World) => F55_3 R J1 p0 p2 n4 p5 ds w) () w
abbrev F55_5 (R : Rt) (p0 p2 : Option Addr) (n4 : Int) (p5 : Option Addr) (ds : Ds) (w : World) : Prop := F55_4 R p0 p2 n4 p5 ds w
def F55_6 (R : Rt) (p0 p2 : Option Addr) (n4 : Int) (p5 : Option Addr) (ds : Ds) (w : World) : Prop :=
 dwE w fun w41 =>
 ∃ S3 : World -> Prop, S3 w41 /\
 ptrE p0 fun a42 =>
 ∃ s77 : ByteArray, (∀ w', S3 w' -> w'.cell? a42 = some (.string s77)) /\
 ptrE p0 fun a43 =>
 ∃ n82 : Int, (∀ w', S3 w' -> w'.cell? (a43.add 1) = some (.int .i64 n82)) /\
 0 ≤ n82 /\ n82.toNat ≤ s77.size /\ 0 ≤ n4 /\ n4.toNat ≤ n82.toNat /\
 ptrE p5 fun a44 =>
 st1 a44 (.int .i64 1) w41 fun w45 =>
 S3 w45 /\
 ptrE p5 fun a46 =>
 st1 (a46.add 2) (.string (s77.extract n4.toNat n82.toNat)) w45 fun w47 =>
 dwE w47 fun w48 =>
 ∃ S4 : World -> Prop, S4 w48 /\
 ptrE p5 fun a49 =>
 ∃ n86_0 : Int, (∀ w', S4 w' -> w'.cell? (a49.add 0) = some (.int .i64 n86_0)) /\
 ∃ n86_1 : Int, (∀ w', S4 w' -> w'.cell? (a49.add 1) = some (.int .i64 n86_1)) /\
 ∃ s86_2 : ByteArray, (∀ w', S4 w' -> w'.cell? (a49.add 2) = some (.string s86_2)) /\
 ptrE p5 fun a50 =>
 ∃ n88_0 : Int, (∀ w', S4 w' -> w'.cell? (a50.add 0) = some (.int .i64 n88_0)) /\
 ∃ n88_1 : Int, (∀ w', S4 w' -> w'.cell? (a50.add 1) = some (.int .i64 n88_1)) /\
 ∃ s88_2 : ByteArray, (∀ w', S4 w' -> w'.cell? (a50.add 2) = some (.string s88_2)) /\
 Calls prog 65 #[.pointer p0, .agg #[.int .i64 n88_0, .int .i64 n88_1, .string s88_2], .int .i64 15] w48 fun e w51 =>
 ∃ b89 : Bool, e = .returned (.bool b89) /\
 S4 w51 /\
 ptrE p2 fun a52 =>
 stA prog 43 a52 #[.int .i64 n86_0, .int .i64 n86_1, .string s86_2] w51 fun w53 =>
 runD prog ds w53 fun w54 =>
 ptrE p2 fun a55 =>
 ∃ nR0_0 : Int, w54.cell? (a55.add 0) = some (.int .i64 nR0_0) /\
 ∃ nR0_1 : Int, w54.cell? (a55.add 1) = some (.int .i64 nR0_1) /\
 ∃ sR0_2 : ByteArray, w54.cell? (a55.add 2) = some (.string sR0_2) /\
 R (.returned (.tuple #[.agg #[.int .i64 nR0_0, .int .i64 nR0_1, .string sR0_2], .bool b89])) w54
def F55_k9 (R : Rt) : EP := (fun E ds w => dPtr (E 0) fun p0 => dPtr (E 2) fun p2 => dInt .i64 (E 4) fun n4 => dPtr (E 5) fun p5 => F55_6 R p0 p2 n4 p5 ds w)
def F55_q10 (R : Rt) : EQ := (thenQ (F55_k9 R) (F55_q4 R))
def F55_q11 (R : Rt) : EQ := (blockQ 3 (F55_q10 R))
def F55_q12 (R : Rt) (J1 : (Unit) -> World -> Prop) : EQ := (thenQ (fun E _ w => J1 () w) (F55_q11 R))
def F55_7 (R : Rt) (J1 : (Unit) -> World -> Prop) (p0 p2 : Option Addr) (n4 : Int) (p5 : Option Addr) (ds : Ds) (w : World) : Prop :=
 ptrE p0 fun a56 =>
 ∃ n65 : Int, w.cell? (a56.add 1) = some (.int .i64 n65) /\
 Calls prog 62 #[.pointer p0, .int .i64 n65, .int .u8 2] w fun e w57 =>
 ∃ b66 : Bool, e = .returned (.bool b66) /\
 Br b66 (
 ptrE p0 fun a58 =>
 ∃ n70 : Int, w57.cell? (a58.add 1) = some (.int .i64 n70) /\
 ptrE p0 fun a59 =>
 st1 (a59.add 1) (.int .i64 (IntKind.i64.wrap (n70 + 1))) w57 fun w60 =>
 J1 () w60) (
 F55_6 R p0 p2 n4 p5 ds w57)
def F55_8 (R : Rt) (p0 p2 : Option Addr) (n4 : Int) (p5 : Option Addr) (ds : Ds) (w : World) : Prop :=
 loopT (fun (J1 : (Unit) -> World -> Prop) (_ : Unit) (w : World) => F55_7 R J1 p0 p2 n4 p5 ds w) () w
abbrev F55_9 (R : Rt) (p0 p2 : Option Addr) (n4 : Int) (p5 : Option Addr) (ds : Ds) (w : World) : Prop := F55_8 R p0 p2 n4 p5 ds w
def F55_10 (R : Rt) (p0 p2 : Option Addr) (n4 : Int) (p5 : Option Addr) (ds : Ds) (w : World) : Prop :=
 ptrE p0 fun a61 =>
 ∃ s94 : ByteArray, w.cell? a61 = some (.string s94) /\
 ∃ b96 : UInt8, 0 ≤ n4 /\ s94[n4.toNat]? = some b96 /\
 Br ((b96.toNat : Int) == 34) (
 ptrE p5 fun a62 =>
 ∃ n108_0 : Int, w.cell? (a62.add 0) = some (.int .i64 n108_0) /\
 ∃ n108_1 : Int, w.cell? (a62.add 1) = some (.int .i64 n108_1) /\
 ∃ s108_2 : ByteArray, w.cell? (a62.add 2) = some (.string s108_2) /\
 Calls prog 66 #[.pointer p0, .agg #[.int .i64 n108_0, .int .i64 n108_1, .string s108_2]] w fun e w63 =>
 ∃ n109_0_0 : Int, ∃ n109_0_1 : Int, ∃ s109_0_2 : ByteArray, ∃ b109_1 : Bool, e = .returned (.tuple #[.agg #[.int .i64 n109_0_0, .int .i64 n109_0_1, .string s109_0_2], .bool b109_1]) /\
 ptrE p2 fun a64 =>
 stA prog 43 a64 #[.int .i64 n109_0_0, .int .i64 n109_0_1, .string s109_0_2] w63 fun w65 =>
 runD prog ds w65 fun w66 =>
 ptrE p2 fun a67 =>
 ∃ nR0_0 : Int, w66.cell? (a67.add 0) = some (.int .i64 nR0_0) /\
 ∃ nR0_1 : Int, w66.cell? (a67.add 1) = some (.int .i64 nR0_1) /\
 ∃ sR0_2 : ByteArray, w66.cell? (a67.add 2) = some (.string sR0_2) /\
 R (.returned (.tuple #[.agg #[.int .i64 nR0_0, .int .i64 nR0_1, .string sR0_2], .bool b109_1])) w66) (
 ptrE p0 fun a68 =>
 ∃ s102 : ByteArray, w.cell? a68 = some (.string s102) /\
 ∃ b104 : UInt8, 0 ≤ n4 /\ s102[n4.toNat]? = some b104 /\
 Br ((b104.toNat : Int) == 39) (
 ptrE p5 fun a69 =>
 ∃ n108_0 : Int, w.cell? (a69.add 0) = some (.int .i64 n108_0) /\
 ∃ n108_1 : Int, w.cell? (a69.add 1) = some (.int .i64 n108_1) /\
 ∃ s108_2 : ByteArray, w.cell? (a69.add 2) = some (.string s108_2) /\
 Calls prog 66 #[.pointer p0, .agg #[.int .i64 n108_0, .int .i64 n108_1, .string s108_2]] w fun e w70 =>
 ∃ n109_0_0 : Int, ∃ n109_0_1 : Int, ∃ s109_0_2 : ByteArray, ∃ b109_1 : Bool, e = .returned (.tuple #[.agg #[.int .i64 n109_0_0, .int .i64 n109_0_1, .string s109_0_2], .bool b109_1]) /\
 ptrE p2 fun a71 =>
 stA prog 43 a71 #[.int .i64 n109_0_0, .int .i64 n109_0_1, .string s109_0_2] w70 fun w72 =>
 runD prog ds w72 fun w73 =>
 ptrE p2 fun a74 =>
 ∃ nR0_0 : Int, w73.cell? (a74.add 0) = some (.int .i64 nR0_0) /\
 ∃ nR0_1 : Int, w73.cell? (a74.add 1) = some (.int .i64 nR0_1) /\
 ∃ sR0_2 : ByteArray, w73.cell? (a74.add 2) = some (.string sR0_2) /\
 R (.returned (.tuple #[.agg #[.int .i64 nR0_0, .int .i64 nR0_1, .string sR0_2], .bool b109_1])) w73) (
 F55_1 R p0 p2 n4 p5 ds w))
def F55_11 (R : Rt) (p0 p2 : Option Addr) (n4 : Int) (p5 : Option Addr) (b57 : Bool) (ds : Ds) (w : World) : Prop :=
 Br b57 (
 F55_9 R p0 p2 n4 p5 ds w) (
 F55_10 R p0 p2 n4 p5 ds w)
def F55_k13 (R : Rt) : EP := (fun E ds w => dPtr (E 0) fun p0 => dPtr (E 2) fun p2 => dInt .i64 (E 4) fun n4 => dPtr (E 5) fun p5 => dBl (E 57) fun b57 => F55_11 R p0 p2 n4 p5 b57 ds w)
def F55_12 (R : Rt) (p0 p2 : Option Addr) (n4 : Int) (p5 : Option Addr) (ds : Ds) (w : World) : Prop :=
 Calls prog 62 #[.pointer p0, .int .i64 n4, .int .u8 2] w fun e w75 =>
 ∃ b60 : Bool, e = .returned (.bool b60) /\
 F55_11 R p0 p2 n4 p5 b60 ds w75
def F55_13 (R : Rt) (p0 p2 : Option Addr) (n4 : Int) (p5 : Option Addr) (b15 : Bool) (ds : Ds) (w : World) : Prop :=
 Br b15 (
 F55_5 R p0 p2 n4 p5 ds w) (
 F55_12 R p0 p2 n4 p5 ds w)
def F55_k14 (R : Rt) : EP := (fun E ds w => dPtr (E 0) fun p0 => dPtr (E 2) fun p2 => dInt .i64 (E 4) fun n4 => dPtr (E 5) fun p5 => dBl (E 15) fun b15 => F55_13 R p0 p2 n4 p5 b15 ds w)
def F55_14 (R : Rt) (p0 p2 : Option Addr) (n4 : Int) (p5 : Option Addr) (ds : Ds) (w : World) : Prop :=
 Calls prog 62 #[.pointer p0, .int .i64 n4, .int .u8 1] w fun e w76 =>
 ∃ b18 : Bool, e = .returned (.bool b18) /\
 F55_13 R p0 p2 n4 p5 b18 ds w76
abbrev F55_15 (R : Rt) (p0 p2 : Option Addr) (n4 : Int) (p5 : Option Addr) (ds : Ds) (w : World) : Prop := F55_14 R p0 p2 n4 p5 ds w
def F55_k15 (R : Rt) : EP := (fun E ds w => dPtr (E 0) fun p0 => dPtr (E 2) fun p2 => dInt .i64 (E 4) fun n4 => dPtr (E 5) fun p5 => F55_15 R p0 p2 n4 p5 ds w)
def F55_16 (R : Rt) (p0 : Option Addr) (ds : Ds) (w : World) : Prop :=
 alE (.cells #[.int .i64 0, .int .i64 0, .string (⟨#[]⟩ : ByteArray)] 43) w fun r2 w77 =>
 ptrE p0 fun a78 =>
 ∃ n12 : Int, w77.cell? (a78.add 1) = some (.int .i64 n12) /\
 alE (.cells #[.int .i64 0, .int .i64 0, .string (⟨#[]⟩ : ByteArray)] 43) w77 fun r5 w79 =>
 stA prog 43 (⟨r5, 0, none⟩ : Addr) #[.int .i64 0, .int .i64 n12, .string (⟨#[]⟩ : ByteArray)] w79 fun w80 =>
 F55_15 R p0 (some (⟨r2, 0, none⟩ : Addr)) n12 (some (⟨r5, 0, none⟩ : Addr)) ds w80
theorem c55_l : flat (bodyOf f55) = [c55_0, c55_1, c55_2, c55_3, c55_4, c55_5, c55_6, c55_7, c55_8] := by kernel_rfl
theorem c55_3_l : flat (innerC c55_3) = [c55_3_0, c55_3_1] := by kernel_rfl
theorem c55_3_1t_l : flat (thnC c55_3_1) = [c55_3_1t_0, c55_3_1t_1, c55_3_1t_2, c55_3_1t_3] := by kernel_rfl
theorem c55_3_1e_l : flat (elsC c55_3_1) = [c55_3_1e_0, c55_3_1e_1] := by kernel_rfl
theorem c55_3_1t_0_l : flat (innerC c55_3_1t_0) = [c55_3_1t_0_0] := by kernel_rfl
theorem c55_3_1t_0_0_l : flat (innerC c55_3_1t_0_0) = [c55_3_1t_0_0_0, c55_3_1t_0_0_1, c55_3_1t_0_0_2] := by kernel_rfl
theorem c55_3_1e_1t_l : flat (thnC c55_3_1e_1) = [c55_3_1e_1t_0, c55_3_1e_1t_1, c55_3_1e_1t_2, c55_3_1e_1t_3] := by kernel_rfl
theorem c55_3_1e_1e_l : flat (elsC c55_3_1e_1) = [c55_3_1e_1e_0, c55_3_1e_1e_1] := by kernel_rfl
theorem c55_3_1e_1t_0_l : flat (innerC c55_3_1e_1t_0) = [c55_3_1e_1t_0_0] := by kernel_rfl
theorem c55_3_1e_1t_0_0_l : flat (innerC c55_3_1e_1t_0_0) = [c55_3_1e_1t_0_0_0, c55_3_1e_1t_0_0_1, c55_3_1e_1t_0_0_2] := by kernel_rfl
theorem F55_1_ok (R : Rt) (p0 p2 : Option Addr) (n4 : Int) (p5 : Option Addr) (ds : Ds) (w : World) (E : Env) (e0 : E 0 = .pointer p0) (e2 : E 2 = .pointer p2) (e4 : E 4 = .int .i64 n4) (e5 : E 5 = .pointer p5) (h : F55_1 R p0 p2 n4 p5 ds w) :
    TrL prog f55.ntmps [c55_4, c55_5, c55_6, c55_7, c55_8] (F55_q1 R) E ds w :=
  TrL_leaf (X := F55_1 R p0 p2 n4 p5 ds w) (setAll_cons e0 (setAll_cons e2 (setAll_cons e4 (setAll_cons e5 setAll_nil)))) (by kernel_rfl) (by kernel_rfl) h
theorem F55_2_ok (R : Rt) (p0 p2 : Option Addr) (n4 : Int) (p5 : Option Addr) (ds : Ds) (w : World) (E : Env) (e0 : E 0 = .pointer p0) (e2 : E 2 = .pointer p2) (e4 : E 4 = .int .i64 n4) (e5 : E 5 = .pointer p5) (h : F55_2 R p0 p2 n4 p5 ds w) :
    TrL prog f55.ntmps [c55_3_1t_1, c55_3_1t_2, c55_3_1t_3] (F55_q4 R) E ds w :=
  TrL_leaf (X := F55_2 R p0 p2 n4 p5 ds w) (setAll_cons e0 (setAll_cons e2 (setAll_cons e4 (setAll_cons e5 setAll_nil)))) (by kernel_rfl) (by kernel_rfl) h
theorem F55_3_ok (R : Rt) (J1 : (Unit) -> World -> Prop) (p0 p2 : Option Addr) (n4 : Int) (p5 : Option Addr) (ds : Ds) (w : World) (E : Env) (e0 : E 0 = .pointer p0) (e2 : E 2 = .pointer p2) (e4 : E 4 = .int .i64 n4) (e5 : E 5 = .pointer p5) (h : F55_3 R J1 p0 p2 n4 p5 ds w) :
    TrL prog f55.ntmps [c55_3_1t_0_0_0, c55_3_1t_0_0_1, c55_3_1t_0_0_2] (F55_q8 R J1) E ds w :=
  TrL_leaf (X := F55_3 R J1 p0 p2 n4 p5 ds w) (setAll_cons e0 (setAll_cons e2 (setAll_cons e4 (setAll_cons e5 setAll_nil)))) (by kernel_rfl) (by kernel_rfl) h
theorem F55_4_ok (R : Rt) (p0 p2 : Option Addr) (n4 : Int) (p5 : Option Addr) (ds : Ds) (w : World) (E : Env) (e0 : E 0 = .pointer p0) (e2 : E 2 = .pointer p2) (e4 : E 4 = .int .i64 n4) (e5 : E 5 = .pointer p5) (h : F55_4 R p0 p2 n4 p5 ds w) :
    TrL prog f55.ntmps [c55_3_1t_0_0] (F55_q7 R) E ds w :=
  TrL_one (Tr_loop' (c := innerC c55_3_1t_0_0) (σ := Unit) (enc := (fun (_ : Unit) (_ : Env) => True)) (D := (fun E K => K ())) (F := (fun (J1 : (Unit) -> World -> Prop) (_ : Unit) (w : World) => F55_3 R J1 p0 p2 n4 p5 ds w)) (s0 := ()) (by kernel_rfl) c55_3_1t_0_0_l trivial (by kernel_rfl) (fun E K hD => by exact ⟨(), trivial, hD⟩)
      (fun J1 _ E' w' he ha hF => by
      skip
      exact F55_3_ok R J1 p0 p2 n4 p5 ds w' E' ((ha 0 (by kernel_rfl)).trans e0) ((ha 2 (by kernel_rfl)).trans e2) ((ha 4 (by kernel_rfl)).trans e4) ((ha 5 (by kernel_rfl)).trans e5) hF) h)
theorem F55_5_ok (R : Rt) (p0 p2 : Option Addr) (n4 : Int) (p5 : Option Addr) (ds : Ds) (w : World) (E : Env) (e0 : E 0 = .pointer p0) (e2 : E 2 = .pointer p2) (e4 : E 4 = .int .i64 n4) (e5 : E 5 = .pointer p5) (h : F55_5 R p0 p2 n4 p5 ds w) :
    TrL prog f55.ntmps [c55_3_1t_0, c55_3_1t_1, c55_3_1t_2, c55_3_1t_3] (F55_q4 R) E ds w :=
  TrL_head (K := (F55_k5 R)) (Tr_block' (c := innerC c55_3_1t_0) (by kernel_rfl) c55_3_1t_0_l (F55_4_ok R p0 p2 n4 p5 ds w E e0 e2 e4 e5 h))
    (fun E' ds' w' hD => by
      obtain ⟨p0, e0, hD⟩ := dPtr_elim hD; obtain ⟨p2, e2, hD⟩ := dPtr_elim hD; obtain ⟨n4, e4, hD⟩ := dInt_elim hD; obtain ⟨p5, e5, hD⟩ := dPtr_elim hD; exact F55_2_ok R p0 p2 n4 p5 ds' w' E' e0 e2 e4 e5 hD)
theorem F55_6_ok (R : Rt) (p0 p2 : Option Addr) (n4 : Int) (p5 : Option Addr) (ds : Ds) (w : World) (E : Env) (e0 : E 0 = .pointer p0) (e2 : E 2 = .pointer p2) (e4 : E 4 = .int .i64 n4) (e5 : E 5 = .pointer p5) (h : F55_6 R p0 p2 n4 p5 ds w) :
    TrL prog f55.ntmps [c55_3_1e_1t_1, c55_3_1e_1t_2, c55_3_1e_1t_3] (F55_q4 R) E ds w :=
  TrL_leaf (X := F55_6 R p0 p2 n4 p5 ds w) (setAll_cons e0 (setAll_cons e2 (setAll_cons e4 (setAll_cons e5 setAll_nil)))) (by kernel_rfl) (by kernel_rfl) h
theorem F55_7_ok (R : Rt) (J1 : (Unit) -> World -> Prop) (p0 p2 : Option Addr) (n4 : Int) (p5 : Option Addr) (ds : Ds) (w : World) (E : Env) (e0 : E 0 = .pointer p0) (e2 : E 2 = .pointer p2) (e4 : E 4 = .int .i64 n4) (e5 : E 5 = .pointer p5) (h : F55_7 R J1 p0 p2 n4 p5 ds w) :
    TrL prog f55.ntmps [c55_3_1e_1t_0_0_0, c55_3_1e_1t_0_0_1, c55_3_1e_1t_0_0_2] (F55_q12 R J1) E ds w :=
  TrL_leaf (X := F55_7 R J1 p0 p2 n4 p5 ds w) (setAll_cons e0 (setAll_cons e2 (setAll_cons e4 (setAll_cons e5 setAll_nil)))) (by kernel_rfl) (by kernel_rfl) h
theorem F55_8_ok (R : Rt) (p0 p2 : Option Addr) (n4 : Int) (p5 : Option Addr) (ds : Ds) (w : World) (E : Env) (e0 : E 0 = .pointer p0) (e2 : E 2 = .pointer p2) (e4 : E 4 = .int .i64 n4) (e5 : E 5 = .pointer p5) (h : F55_8 R p0 p2 n4 p5 ds w) :
    TrL prog f55.ntmps [c55_3_1e_1t_0_0] (F55_q11 R) E ds w :=
  TrL_one (Tr_loop' (c := innerC c55_3_1e_1t_0_0) (σ := Unit) (enc := (fun (_ : Unit) (_ : Env) => True)) (D := (fun E K => K ())) (F := (fun (J1 : (Unit) -> World -> Prop) (_ : Unit) (w : World) => F55_7 R J1 p0 p2 n4 p5 ds w)) (s0 := ()) (by kernel_rfl) c55_3_1e_1t_0_0_l trivial (by kernel_rfl) (fun E K hD => by exact ⟨(), trivial, hD⟩)
      (fun J1 _ E' w' he ha hF => by
      skip
      exact F55_7_ok R J1 p0 p2 n4 p5 ds w' E' ((ha 0 (by kernel_rfl)).trans e0) ((ha 2 (by kernel_rfl)).trans e2) ((ha 4 (by kernel_rfl)).trans e4) ((ha 5 (by kernel_rfl)).trans e5) hF) h)
theorem F55_9_ok (R : Rt) (p0 p2 : Option Addr) (n4 : Int) (p5 : Option Addr) (ds : Ds) (w : World) (E : Env) (e0 : E 0 = .pointer p0) (e2 : E 2 = .pointer p2) (e4 : E 4 = .int .i64 n4) (e5 : E 5 = .pointer p5) (h : F55_9 R p0 p2 n4 p5 ds w) :
    TrL prog f55.ntmps [c55_3_1e_1t_0, c55_3_1e_1t_1, c55_3_1e_1t_2, c55_3_1e_1t_3] (F55_q4 R) E ds w :=
  TrL_head (K := (F55_k9 R)) (Tr_block' (c := innerC c55_3_1e_1t_0) (by kernel_rfl) c55_3_1e_1t_0_l (F55_8_ok R p0 p2 n4 p5 ds w E e0 e2 e4 e5 h))
    (fun E' ds' w' hD => by
      obtain ⟨p0, e0, hD⟩ := dPtr_elim hD; obtain ⟨p2, e2, hD⟩ := dPtr_elim hD; obtain ⟨n4, e4, hD⟩ := dInt_elim hD; obtain ⟨p5, e5, hD⟩ := dPtr_elim hD; exact F55_6_ok R p0 p2 n4 p5 ds' w' E' e0 e2 e4 e5 hD)
theorem F55_10_ok (R : Rt) (p0 p2 : Option Addr) (n4 : Int) (p5 : Option Addr) (ds : Ds) (w : World) (E : Env) (e0 : E 0 = .pointer p0) (e2 : E 2 = .pointer p2) (e4 : E 4 = .int .i64 n4) (e5 : E 5 = .pointer p5) (h : F55_10 R p0 p2 n4 p5 ds w) :
    TrL prog f55.ntmps [c55_3_1e_1e_0, c55_3_1e_1e_1] (F55_q4 R) E ds w :=
  TrL_leaf (X := F55_10 R p0 p2 n4 p5 ds w) (setAll_cons e0 (setAll_cons e2 (setAll_cons e4 (setAll_cons e5 setAll_nil)))) (by kernel_rfl) (by kernel_rfl) h
theorem F55_11_ok (R : Rt) (p0 p2 : Option Addr) (n4 : Int) (p5 : Option Addr) (b57 : Bool) (ds : Ds) (w : World) (E : Env) (e0 : E 0 = .pointer p0) (e2 : E 2 = .pointer p2) (e4 : E 4 = .int .i64 n4) (e5 : E 5 = .pointer p5) (e57 : E 57 = .bool b57) (h : F55_11 R p0 p2 n4 p5 b57 ds w) :
    TrL prog f55.ntmps [c55_3_1e_1] (F55_q4 R) E ds w :=
  TrL_one (Tr_cond' (c := .tmp 57) (x := thnC c55_3_1e_1) (y := elsC c55_3_1e_1) (by kernel_rfl) c55_3_1e_1t_l c55_3_1e_1e_l e57 (fun h => F55_9_ok R p0 p2 n4 p5 ds w E e0 e2 e4 e5 h) (fun h => F55_10_ok R p0 p2 n4 p5 ds w E e0 e2 e4 e5 h) h)
theorem F55_12_ok (R : Rt) (p0 p2 : Option Addr) (n4 : Int) (p5 : Option Addr) (ds : Ds) (w : World) (E : Env) (e0 : E 0 = .pointer p0) (e2 : E 2 = .pointer p2) (e4 : E 4 = .int .i64 n4) (e5 : E 5 = .pointer p5) (h : F55_12 R p0 p2 n4 p5 ds w) :
    TrL prog f55.ntmps [c55_3_1e_0, c55_3_1e_1] (F55_q4 R) E ds w :=
  TrL_piece (pre := [c55_3_1e_0]) (K := (F55_k13 R)) (X := F55_12 R p0 p2 n4 p5 ds w) (setAll_cons e0 (setAll_cons e2 (setAll_cons e4 (setAll_cons e5 setAll_nil)))) (by kernel_rfl) (by kernel_rfl)
    (fun E' ds' w' hD => by
      obtain ⟨p0, e0, hD⟩ := dPtr_elim hD; obtain ⟨p2, e2, hD⟩ := dPtr_elim hD; obtain ⟨n4, e4, hD⟩ := dInt_elim hD; obtain ⟨p5, e5, hD⟩ := dPtr_elim hD; obtain ⟨b57, e57, hD⟩ := dBl_elim hD; exact F55_11_ok R p0 p2 n4 p5 b57 ds' w' E' e0 e2 e4 e5 e57 hD) h
theorem F55_13_ok (R : Rt) (p0 p2 : Option Addr) (n4 : Int) (p5 : Option Addr) (b15 : Bool) (ds : Ds) (w : World) (E : Env) (e0 : E 0 = .pointer p0) (e2 : E 2 = .pointer p2) (e4 : E 4 = .int .i64 n4) (e5 : E 5 = .pointer p5) (e15 : E 15 = .bool b15) (h : F55_13 R p0 p2 n4 p5 b15 ds w) :
    TrL prog f55.ntmps [c55_3_1] (F55_q4 R) E ds w :=
  TrL_one (Tr_cond' (c := .tmp 15) (x := thnC c55_3_1) (y := elsC c55_3_1) (by kernel_rfl) c55_3_1t_l c55_3_1e_l e15 (fun h => F55_5_ok R p0 p2 n4 p5 ds w E e0 e2 e4 e5 h) (fun h => F55_12_ok R p0 p2 n4 p5 ds w E e0 e2 e4 e5 h) h)
theorem F55_14_ok (R : Rt) (p0 p2 : Option Addr) (n4 : Int) (p5 : Option Addr) (ds : Ds) (w : World) (E : Env) (e0 : E 0 = .pointer p0) (e2 : E 2 = .pointer p2) (e4 : E 4 = .int .i64 n4) (e5 : E 5 = .pointer p5) (h : F55_14 R p0 p2 n4 p5 ds w) :
    TrL prog f55.ntmps [c55_3_0, c55_3_1] (F55_q4 R) E ds w :=
  TrL_piece (pre := [c55_3_0]) (K := (F55_k14 R)) (X := F55_14 R p0 p2 n4 p5 ds w) (setAll_cons e0 (setAll_cons e2 (setAll_cons e4 (setAll_cons e5 setAll_nil)))) (by kernel_rfl) (by kernel_rfl)
    (fun E' ds' w' hD => by
      obtain ⟨p0, e0, hD⟩ := dPtr_elim hD; obtain ⟨p2, e2, hD⟩ := dPtr_elim hD; obtain ⟨n4, e4, hD⟩ := dInt_elim hD; obtain ⟨p5, e5, hD⟩ := dPtr_elim hD; obtain ⟨b15, e15, hD⟩ := dBl_elim hD; exact F55_13_ok R p0 p2 n4 p5 b15 ds' w' E' e0 e2 e4 e5 e15 hD) h
theorem F55_15_ok (R : Rt) (p0 p2 : Option Addr) (n4 : Int) (p5 : Option Addr) (ds : Ds) (w : World) (E : Env) (e0 : E 0 = .pointer p0) (e2 : E 2 = .pointer p2) (e4 : E 4 = .int .i64 n4) (e5 : E 5 = .pointer p5) (h : F55_15 R p0 p2 n4 p5 ds w) :
    TrL prog f55.ntmps [c55_3, c55_4, c55_5, c55_6, c55_7, c55_8] (F55_q1 R) E ds w :=
  TrL_head (K := (F55_k2 R)) (Tr_block' (c := innerC c55_3) (by kernel_rfl) c55_3_l (F55_14_ok R p0 p2 n4 p5 ds w E e0 e2 e4 e5 h))
    (fun E' ds' w' hD => by
      obtain ⟨p0, e0, hD⟩ := dPtr_elim hD; obtain ⟨p2, e2, hD⟩ := dPtr_elim hD; obtain ⟨n4, e4, hD⟩ := dInt_elim hD; obtain ⟨p5, e5, hD⟩ := dPtr_elim hD; exact F55_1_ok R p0 p2 n4 p5 ds' w' E' e0 e2 e4 e5 hD)
theorem F55_16_ok (R : Rt) (p0 : Option Addr) (ds : Ds) (w : World) (E : Env) (e0 : E 0 = .pointer p0) (h : F55_16 R p0 ds w) :
    TrL prog f55.ntmps [c55_0, c55_1, c55_2, c55_3, c55_4, c55_5, c55_6, c55_7, c55_8] (F55_q1 R) E ds w :=
  TrL_piece (pre := [c55_0, c55_1, c55_2]) (K := (F55_k15 R)) (X := F55_16 R p0 ds w) (setAll_cons e0 setAll_nil) (by kernel_rfl) (by kernel_rfl)
    (fun E' ds' w' hD => by
      obtain ⟨p0, e0, hD⟩ := dPtr_elim hD; obtain ⟨p2, e2, hD⟩ := dPtr_elim hD; obtain ⟨n4, e4, hD⟩ := dInt_elim hD; obtain ⟨p5, e5, hD⟩ := dPtr_elim hD; exact F55_15_ok R p0 p2 n4 p5 ds' w' E' e0 e2 e4 e5 hD) h
theorem F55_calls (p0 : Option Addr) (w : World) (R : Rt) (h : F55_16 R p0 [] w) : Calls prog 55 #[.pointer p0] w R :=
  calls_of_L (l := [c55_0, c55_1, c55_2, c55_3, c55_4, c55_5, c55_6, c55_7, c55_8]) func55 (by kernel_rfl) (by rw [ntmps55]; exact Nat.le_of_ble_eq_true (by kernel_rfl)) c55_l
    (F55_16_ok R p0 [] w _ rfl h)
noncomputable def c65_0 := cI3 f65 0
noncomputable def c65_1 := cI3 f65 1
noncomputable def c65_2 := cI3 f65 2
noncomputable def c65_3 := cI3 f65 3
noncomputable def c65_4 := cI3 f65 4
def F65_q1 (R : Rt) : EQ := endQ prog f65.results.toList R
def F65_1 (R : Rt) (p0 : Option Addr) (n1_0 n1_1 : Int) (s1_2 : ByteArray) (n2 : Int) (ds : Ds) (w : World) : Prop :=
 alE (.cells #[.int .i64 n1_0, .int .i64 n1_1, .string s1_2] 43) w fun r4 w1 =>
 ∃ s8 : ByteArray, w1.cell? ((⟨r4, 0, none⟩ : Addr).add 2) = some (.string s8) /\
 Br (decide ((s8.size : Int) > n2)) (
 ∃ n14 : Int, w1.cell? ((⟨r4, 0, none⟩ : Addr).add 1) = some (.int .i64 n14) /\
 ptrE p0 fun a2 =>
 st1 (a2.add 260) (.int .i64 n14) w1 fun w3 =>
 runD prog ds w3 fun w4 =>
 R (.returned (.bool false)) w4) (
 runD prog ds w1 fun w5 =>
 R (.returned (.bool true)) w5)
theorem c65_l : flat (bodyOf f65) = [c65_0, c65_1, c65_2, c65_3, c65_4] := by kernel_rfl
theorem F65_1_ok (R : Rt) (p0 : Option Addr) (n1_0 n1_1 : Int) (s1_2 : ByteArray) (n2 : Int) (ds : Ds) (w : World) (E : Env) (e0 : E 0 = .pointer p0) (e1 : E 1 = .agg #[.int .i64 n1_0, .int .i64 n1_1, .string s1_2]) (e2 : E 2 = .int .i64 n2) (h : F65_1 R p0 n1_0 n1_1 s1_2 n2 ds w) :
    TrL prog f65.ntmps [c65_0, c65_1, c65_2, c65_3, c65_4] (F65_q1 R) E ds w :=
  TrL_leaf (X := F65_1 R p0 n1_0 n1_1 s1_2 n2 ds w) (setAll_cons e0 (setAll_cons e1 (setAll_cons e2 setAll_nil))) (by kernel_rfl) (by kernel_rfl) h
theorem F65_calls (p0 : Option Addr) (n1_0 n1_1 : Int) (s1_2 : ByteArray) (n2 : Int) (w : World) (R : Rt) (h : F65_1 R p0 n1_0 n1_1 s1_2 n2 [] w) : Calls prog 65 #[.pointer p0, .agg #[.int .i64 n1_0, .int .i64 n1_1, .string s1_2], .int .i64 n2] w R :=
  calls_of_L (l := [c65_0, c65_1, c65_2, c65_3, c65_4]) func65 (by kernel_rfl) (by rw [ntmps65]; exact Nat.le_of_ble_eq_true (by kernel_rfl)) c65_l
    (F65_1_ok R p0 n1_0 n1_1 s1_2 n2 [] w _ rfl rfl rfl h)
noncomputable def c66_0 := cI3 f66 0
noncomputable def c66_1 := cI3 f66 1
noncomputable def c66_2 := cI3 f66 2
noncomputable def c66_3 := cI3 f66 3
noncomputable def c66_4 := cI3 f66 4
noncomputable def c66_5 := cI3 f66 5
noncomputable def c66_6 := cI3 f66 6
noncomputable def c66_7 := cI3 f66 7
noncomputable def c66_8 := cI3 f66 8
noncomputable def c66_9 := cI3 f66 9
noncomputable def c66_10 := cI3 f66 10
noncomputable def c66_7_0 := cJ3 c66_7 0
noncomputable def c66_7_0_0 := cJ3 c66_7_0 0
noncomputable def c66_7_0_1 := cJ3 c66_7_0 1
noncomputable def c66_7_0_2 := cJ3 c66_7_0 2
noncomputable def c66_7_0_3 := cJ3 c66_7_0 3
def F66_q1 (R : Rt) : EQ := endQ prog f66.results.toList R
def F66_1 (R : Rt) (p0 p3 p4 : Option Addr) (n7 : Int) (ds : Ds) (w : World) : Prop :=
 ptrE p0 fun a1 =>
 ∃ n96 : Int, w.cell? (a1.add 1) = some (.int .i64 n96) /\
 ptrE p0 fun a2 =>
 st1 (a2.add 1) (.int .i64 (IntKind.i64.wrap (n96 + (IntKind.i64.wrap (n7 + 2))))) w fun w3 =>
 ptrE p3 fun a4 =>
 ∃ n102_0 : Int, w3.cell? (a4.add 0) = some (.int .i64 n102_0) /\
 ∃ n102_1 : Int, w3.cell? (a4.add 1) = some (.int .i64 n102_1) /\
 ∃ s102_2 : ByteArray, w3.cell? (a4.add 2) = some (.string s102_2) /\
 ptrE p4 fun a5 =>
 stA prog 43 a5 #[.int .i64 n102_0, .int .i64 n102_1, .string s102_2] w3 fun w6 =>
 runD prog ds w6 fun w7 =>
 ptrE p4 fun a8 =>
 ∃ nR0_0 : Int, w7.cell? (a8.add 0) = some (.int .i64 nR0_0) /\
 ∃ nR0_1 : Int, w7.cell? (a8.add 1) = some (.int .i64 nR0_1) /\
 ∃ sR0_2 : ByteArray, w7.cell? (a8.add 2) = some (.string sR0_2) /\
 R (.returned (.tuple #[.agg #[.int .i64 nR0_0, .int .i64 nR0_1, .string sR0_2], .bool true])) w7
def F66_k2 (R : Rt) : EP := (fun E ds w => dPtr (E 0) fun p0 => dPtr (E 3) fun p3 => dPtr (E 4) fun p4 => dInt .i64 (E 7) fun n7 => F66_1 R p0 p3 p4 n7 ds w)
def F66_q3 (R : Rt) : EQ := (thenQ (F66_k2 R) (F66_q1 R))
def F66_q4 (R : Rt) : EQ := (blockQ 0 (F66_q3 R))
def F66_q5 (R : Rt) (J1 : (Int) -> World -> Prop) : EQ := (thenQ (fun E _ w => dInt .i64 (E 68) fun n68 => J1 n68 w) (F66_q4 R))
def F66_2 (R : Rt) (J1 : (Int) -> World -> Prop) (p0 p3 p4 : Option Addr) (n7 n67 n68 : Int) (ds : Ds) (w : World) : Prop :=
 Br (decide (n68 < n67)) (
 dwE w fun w9 =>
 ptrE p3 fun a10 =>
 ∃ s73 : ByteArray, w9.cell? (a10.add 2) = some (.string s73) /\
 ∃ b75 : UInt8, 0 ≤ n68 /\ s73[n68.toNat]? = some b75 /\
 ptrE p0 fun a11 =>
 0 ≤ (b75.toNat : Int) /\ (b75.toNat : Int) < (256 : Int) /\
 ∃ n79 : Int, w9.cell? ((a11.add 2).add ((b75.toNat : Int).toNat * 1)) = some (.int .u8 n79) /\
 Br (n79 == 4) (
 ptrE p0 fun a12 =>
 ∃ n85 : Int, w9.cell? (a12.add 1) = some (.int .i64 n85) /\
 ptrE p0 fun a13 =>
 st1 (a13.add 260) (.int .i64 (IntKind.i64.wrap ((IntKind.i64.wrap (n85 + 1)) + n68))) w9 fun w14 =>
 ptrE p3 fun a15 =>
 ∃ n91_0 : Int, w14.cell? (a15.add 0) = some (.int .i64 n91_0) /\
 ∃ n91_1 : Int, w14.cell? (a15.add 1) = some (.int .i64 n91_1) /\
 ∃ s91_2 : ByteArray, w14.cell? (a15.add 2) = some (.string s91_2) /\
 ptrE p4 fun a16 =>
 stA prog 43 a16 #[.int .i64 n91_0, .int .i64 n91_1, .string s91_2] w14 fun w17 =>
 runD prog ds w17 fun w18 =>
 ptrE p4 fun a19 =>
 ∃ nR0_0 : Int, w18.cell? (a19.add 0) = some (.int .i64 nR0_0) /\
 ∃ nR0_1 : Int, w18.cell? (a19.add 1) = some (.int .i64 nR0_1) /\
 ∃ sR0_2 : ByteArray, w18.cell? (a19.add 2) = some (.string sR0_2) /\
 R (.returned (.tuple #[.agg #[.int .i64 nR0_0, .int .i64 nR0_1, .string sR0_2], .bool false])) w18) (
 J1 (IntKind.i64.wrap (n68 + 1)) w9)) (
 F66_1 R p0 p3 p4 n7 ds w)
def F66_3 (R : Rt) (p0 p3 p4 : Option Addr) (n7 n67 n68 : Int) (ds : Ds) (w : World) : Prop :=
 loopT (fun (J1 : (Int) -> World -> Prop) (s : Int) (w : World) => F66_2 R J1 p0 p3 p4 n7 n67 s ds w) n68 w
abbrev F66_4 (R : Rt) (p0 p3 p4 : Option Addr) (n7 n67 n68 : Int) (ds : Ds) (w : World) : Prop := F66_3 R p0 p3 p4 n7 n67 n68 ds w
def F66_k6 (R : Rt) : EP := (fun E ds w => dPtr (E 0) fun p0 => dPtr (E 3) fun p3 => dPtr (E 4) fun p4 => dInt .i64 (E 7) fun n7 => dInt .i64 (E 67) fun n67 => dInt .i64 (E 68) fun n68 => F66_4 R p0 p3 p4 n7 n67 n68 ds w)
def F66_5 (R : Rt) (p0 : Option Addr) (n1_0 n1_1 : Int) (s1_2 : ByteArray) (ds : Ds) (w : World) : Prop :=
 alE (.cells #[.int .i64 n1_0, .int .i64 n1_1, .string s1_2] 43) w fun r3 w20 =>
 alE (.cells #[.int .i64 0, .int .i64 0, .string (⟨#[]⟩ : ByteArray)] 43) w20 fun r4 w21 =>
 ptrE p0 fun a22 =>
 ∃ n13 : Int, w21.cell? (a22.add 1) = some (.int .i64 n13) /\
 Calls prog 63 #[.pointer p0, .int .i64 n13] w21 fun e w23 =>
 ∃ n14 : Int, e = .returned (.int .i64 n14) /\
 dwE w23 fun w24 =>
 ptrE p0 fun a25 =>
 ∃ s18 : ByteArray, w24.cell? a25 = some (.string s18) /\
 ptrE p0 fun a26 =>
 ∃ n22 : Int, w24.cell? (a26.add 1) = some (.int .i64 n22) /\
 0 ≤ n14 /\ n14.toNat ≤ s18.size /\ 0 ≤ (IntKind.i64.wrap (n22 + 1)) /\ (IntKind.i64.wrap (n22 + 1)).toNat ≤ n14.toNat /\
 ptrE p0 fun a27 =>
 ∃ s29 : ByteArray, w24.cell? a27 = some (.string s29) /\
 ptrE p0 fun a28 =>
 ∃ n33 : Int, w24.cell? (a28.add 1) = some (.int .i64 n33) /\
 ∃ b34 : UInt8, 0 ≤ n33 /\ s29[n33.toNat]? = some b34 /\
 Calls prog 74 #[.string (s18.extract ((IntKind.i64.wrap (n22 + 1)).toNat) n14.toNat), .int .u8 (b34.toNat : Int)] w24 fun e w29 =>
 ∃ n35 : Int, e = .returned (.int .i64 n35) /\
 Br (decide (n35 < 0)) (
 ptrE p0 fun a30 =>
 ∃ n42 : Int, w29.cell? (a30.add 1) = some (.int .i64 n42) /\
 ptrE p0 fun a31 =>
 st1 (a31.add 260) (.int .i64 n42) w29 fun w32 =>
 ∃ n45_0 : Int, w32.cell? ((⟨r3, 0, none⟩ : Addr).add 0) = some (.int .i64 n45_0) /\
 ∃ n45_1 : Int, w32.cell? ((⟨r3, 0, none⟩ : Addr).add 1) = some (.int .i64 n45_1) /\
 ∃ s45_2 : ByteArray, w32.cell? ((⟨r3, 0, none⟩ : Addr).add 2) = some (.string s45_2) /\
 stA prog 43 (⟨r4, 0, none⟩ : Addr) #[.int .i64 n45_0, .int .i64 n45_1, .string s45_2] w32 fun w33 =>
 runD prog ds w33 fun w34 =>
 ∃ nR0_0 : Int, w34.cell? ((⟨r4, 0, none⟩ : Addr).add 0) = some (.int .i64 nR0_0) /\
 ∃ nR0_1 : Int, w34.cell? ((⟨r4, 0, none⟩ : Addr).add 1) = some (.int .i64 nR0_1) /\
 ∃ sR0_2 : ByteArray, w34.cell? ((⟨r4, 0, none⟩ : Addr).add 2) = some (.string sR0_2) /\
 R (.returned (.tuple #[.agg #[.int .i64 nR0_0, .int .i64 nR0_1, .string sR0_2], .bool false])) w34) (
 dwE w29 fun w35 =>
 ∃ S3 : World -> Prop, S3 w35 /\
 ptrE p0 fun a36 =>
 ∃ s49 : ByteArray, (∀ w', S3 w' -> w'.cell? a36 = some (.string s49)) /\
 ptrE p0 fun a37 =>
 ∃ n53 : Int, (∀ w', S3 w' -> w'.cell? (a37.add 1) = some (.int .i64 n53)) /\
 ptrE p0 fun a38 =>
 ∃ n58 : Int, (∀ w', S3 w' -> w'.cell? (a38.add 1) = some (.int .i64 n58)) /\
 0 ≤ (IntKind.i64.wrap ((IntKind.i64.wrap (n58 + 1)) + n35)) /\ (IntKind.i64.wrap ((IntKind.i64.wrap (n58 + 1)) + n35)).toNat ≤ s49.size /\ 0 ≤ (IntKind.i64.wrap (n53 + 1)) /\ (IntKind.i64.wrap (n53 + 1)).toNat ≤ (IntKind.i64.wrap ((IntKind.i64.wrap (n58 + 1)) + n35)).toNat /\
 st1 (⟨r3, 0, none⟩ : Addr) (.int .i64 2) w35 fun w39 =>
 S3 w39 /\
 st1 ((⟨r3, 0, none⟩ : Addr).add 2) (.string (s49.extract ((IntKind.i64.wrap (n53 + 1)).toNat) ((IntKind.i64.wrap ((IntKind.i64.wrap (n58 + 1)) + n35)).toNat))) w39 fun w40 =>
 ∃ s66 : ByteArray, w40.cell? ((⟨r3, 0, none⟩ : Addr).add 2) = some (.string s66) /\
 F66_4 R p0 (some (⟨r3, 0, none⟩ : Addr)) (some (⟨r4, 0, none⟩ : Addr)) n35 (s66.size : Int) 0 ds w40)
theorem c66_l : flat (bodyOf f66) = [c66_0, c66_1, c66_2, c66_3, c66_4, c66_5, c66_6, c66_7, c66_8, c66_9, c66_10] := by kernel_rfl
theorem c66_7_l : flat (innerC c66_7) = [c66_7_0] := by kernel_rfl
theorem c66_7_0_l : flat (innerC c66_7_0) = [c66_7_0_0, c66_7_0_1, c66_7_0_2, c66_7_0_3] := by kernel_rfl
theorem F66_1_ok (R : Rt) (p0 p3 p4 : Option Addr) (n7 : Int) (ds : Ds) (w : World) (E : Env) (e0 : E 0 = .pointer p0) (e3 : E 3 = .pointer p3) (e4 : E 4 = .pointer p4) (e7 : E 7 = .int .i64 n7) (h : F66_1 R p0 p3 p4 n7 ds w) :
    TrL prog f66.ntmps [c66_8, c66_9, c66_10] (F66_q1 R) E ds w :=
  TrL_leaf (X := F66_1 R p0 p3 p4 n7 ds w) (setAll_cons e0 (setAll_cons e3 (setAll_cons e4 (setAll_cons e7 setAll_nil)))) (by kernel_rfl) (by kernel_rfl) h
theorem F66_2_ok (R : Rt) (J1 : (Int) -> World -> Prop) (p0 p3 p4 : Option Addr) (n7 n67 n68 : Int) (ds : Ds) (w : World) (E : Env) (e0 : E 0 = .pointer p0) (e3 : E 3 = .pointer p3) (e4 : E 4 = .pointer p4) (e7 : E 7 = .int .i64 n7) (e67 : E 67 = .int .i64 n67) (e68 : E 68 = .int .i64 n68) (h : F66_2 R J1 p0 p3 p4 n7 n67 n68 ds w) :
    TrL prog f66.ntmps [c66_7_0_0, c66_7_0_1, c66_7_0_2, c66_7_0_3] (F66_q5 R J1) E ds w :=
  TrL_leaf (X := F66_2 R J1 p0 p3 p4 n7 n67 n68 ds w) (setAll_cons e0 (setAll_cons e3 (setAll_cons e4 (setAll_cons e7 (setAll_cons e67 (setAll_cons e68 setAll_nil)))))) (by kernel_rfl) (by kernel_rfl) h
theorem F66_3_ok (R : Rt) (p0 p3 p4 : Option Addr) (n7 n67 n68 : Int) (ds : Ds) (w : World) (E : Env) (e0 : E 0 = .pointer p0) (e3 : E 3 = .pointer p3) (e4 : E 4 = .pointer p4) (e7 : E 7 = .int .i64 n7) (e67 : E 67 = .int .i64 n67) (e68 : E 68 = .int .i64 n68) (h : F66_3 R p0 p3 p4 n7 n67 n68 ds w) :
    TrL prog f66.ntmps [c66_7_0] (F66_q4 R) E ds w :=
  TrL_one (Tr_loop' (c := innerC c66_7_0) (σ := Int) (enc := (fun (s : Int) (E : Env) => E 68 = .int .i64 s)) (D := (fun E K => dInt .i64 (E 68) fun n68 => K n68)) (F := (fun (J1 : (Int) -> World -> Prop) (s : Int) (w : World) => F66_2 R J1 p0 p3 p4 n7 n67 s ds w)) (s0 := n68) (by kernel_rfl) c66_7_0_l e68 (by kernel_rfl) (fun E K hD => by obtain ⟨n68, e68, hD⟩ := dInt_elim hD; exact ⟨n68, e68, hD⟩)
      (fun J1 s E' w' he ha hF => by
      have e68' := he
      exact F66_2_ok R J1 p0 p3 p4 n7 n67 s ds w' E' ((ha 0 (by kernel_rfl)).trans e0) ((ha 3 (by kernel_rfl)).trans e3) ((ha 4 (by kernel_rfl)).trans e4) ((ha 7 (by kernel_rfl)).trans e7) ((ha 67 (by kernel_rfl)).trans e67) e68' hF) h)
theorem F66_4_ok (R : Rt) (p0 p3 p4 : Option Addr) (n7 n67 n68 : Int) (ds : Ds) (w : World) (E : Env) (e0 : E 0 = .pointer p0) (e3 : E 3 = .pointer p3) (e4 : E 4 = .pointer p4) (e7 : E 7 = .int .i64 n7) (e67 : E 67 = .int .i64 n67) (e68 : E 68 = .int .i64 n68) (h : F66_4 R p0 p3 p4 n7 n67 n68 ds w) :
    TrL prog f66.ntmps [c66_7, c66_8, c66_9, c66_10] (F66_q1 R) E ds w :=
  TrL_head (K := (F66_k2 R)) (Tr_block' (c := innerC c66_7) (by kernel_rfl) c66_7_l (F66_3_ok R p0 p3 p4 n7 n67 n68 ds w E e0 e3 e4 e7 e67 e68 h))
    (fun E' ds' w' hD => by
      obtain ⟨p0, e0, hD⟩ := dPtr_elim hD; obtain ⟨p3, e3, hD⟩ := dPtr_elim hD; obtain ⟨p4, e4, hD⟩ := dPtr_elim hD; obtain ⟨n7, e7, hD⟩ := dInt_elim hD; exact F66_1_ok R p0 p3 p4 n7 ds' w' E' e0 e3 e4 e7 hD)
theorem F66_5_ok (R : Rt) (p0 : Option Addr) (n1_0 n1_1 : Int) (s1_2 : ByteArray) (ds : Ds) (w : World) (E : Env) (e0 : E 0 = .pointer p0) (e1 : E 1 = .agg #[.int .i64 n1_0, .int .i64 n1_1, .string s1_2]) (h : F66_5 R p0 n1_0 n1_1 s1_2 ds w) :
    TrL prog f66.ntmps [c66_0, c66_1, c66_2, c66_3, c66_4, c66_5, c66_6, c66_7, c66_8, c66_9, c66_10] (F66_q1 R) E ds w :=
  TrL_piece (pre := [c66_0, c66_1, c66_2, c66_3, c66_4, c66_5, c66_6]) (K := (F66_k6 R)) (X := F66_5 R p0 n1_0 n1_1 s1_2 ds w) (setAll_cons e0 (setAll_cons e1 setAll_nil)) (by kernel_rfl) (by kernel_rfl)
    (fun E' ds' w' hD => by
      obtain ⟨p0, e0, hD⟩ := dPtr_elim hD; obtain ⟨p3, e3, hD⟩ := dPtr_elim hD; obtain ⟨p4, e4, hD⟩ := dPtr_elim hD; obtain ⟨n7, e7, hD⟩ := dInt_elim hD; obtain ⟨n67, e67, hD⟩ := dInt_elim hD; obtain ⟨n68, e68, hD⟩ := dInt_elim hD; exact F66_4_ok R p0 p3 p4 n7 n67 n68 ds' w' E' e0 e3 e4 e7 e67 e68 hD) h
theorem F66_calls (p0 : Option Addr) (n1_0 n1_1 : Int) (s1_2 : ByteArray) (w : World) (R : Rt) (h : F66_5 R p0 n1_0 n1_1 s1_2 [] w) : Calls prog 66 #[.pointer p0, .agg #[.int .i64 n1_0, .int .i64 n1_1, .string s1_2]] w R :=
  calls_of_L (l := [c66_0, c66_1, c66_2, c66_3, c66_4, c66_5, c66_6, c66_7, c66_8, c66_9, c66_10]) func66 (by kernel_rfl) (by rw [ntmps66]; exact Nat.le_of_ble_eq_true (by kernel_rfl)) c66_l
    (F66_5_ok R p0 n1_0 n1_1 s1_2 [] w _ rfl rfl h)
noncomputable def c67_0 := cI3 f67 0
noncomputable def c67_1 := cI3 f67 1
noncomputable def c67_2 := cI3 f67 2
noncomputable def c67_3 := cI3 f67 3
noncomputable def c67_4 := cI3 f67 4
noncomputable def c67_5 := cI3 f67 5
noncomputable def c67_6 := cI3 f67 6
noncomputable def c67_7 := cI3 f67 7
noncomputable def c67_8 := cI3 f67 8
noncomputable def c67_9 := cI3 f67 9
def F67_q1 (R : Rt) : EQ := endQ prog f67.results.toList R
def F67_1 (R : Rt) (s5 : ByteArray) (b42 : Bool) (ds : Ds) (w : World) : Prop :=
 Br b42 (
 runD prog ds w fun w1 =>
 R (.returned (.tuple #[.string (⟨#[]⟩ : ByteArray), .int .i64 0, .bool false])) w1) (
 dwE w fun w2 =>
 0 ≤ (6 : Int) /\ (6 : Int).toNat ≤ s5.size /\ 0 ≤ (2 : Int) /\ (2 : Int).toNat ≤ (6 : Int).toNat /\
 0 ≤ (9 : Int) /\ (9 : Int).toNat ≤ s5.size /\ 0 ≤ (7 : Int) /\ (7 : Int).toNat ≤ (9 : Int).toNat /\
 (((s5.extract ((2 : Int).toNat) ((6 : Int).toNat)).size + (s5.extract ((7 : Int).toNat) ((9 : Int).toNat)).size : Nat) : Int) ≤ 9223372036854775807 /\
 0 ≤ (12 : Int) /\ (12 : Int).toNat ≤ s5.size /\ 0 ≤ (10 : Int) /\ (10 : Int).toNat ≤ (12 : Int).toNat /\
 ((((s5.extract ((2 : Int).toNat) ((6 : Int).toNat)) ++ (s5.extract ((7 : Int).toNat) ((9 : Int).toNat))).size + (s5.extract ((10 : Int).toNat) ((12 : Int).toNat)).size : Nat) : Int) ≤ 9223372036854775807 /\
 Calls prog 78 #[.string (((s5.extract ((2 : Int).toNat) ((6 : Int).toNat)) ++ (s5.extract ((7 : Int).toNat) ((9 : Int).toNat))) ++ (s5.extract ((10 : Int).toNat) ((12 : Int).toNat)))] w2 fun e w3 =>
 ∃ n53_0 : Int, ∃ b53_1 : Bool, e = .returned (.tuple #[.int .i64 n53_0, .bool b53_1]) /\
 Br b53_1 (
 runD prog ds w3 fun w4 =>
 R (.returned (.tuple #[.string (((s5.extract ((2 : Int).toNat) ((6 : Int).toNat)) ++ (s5.extract ((7 : Int).toNat) ((9 : Int).toNat))) ++ (s5.extract ((10 : Int).toNat) ((12 : Int).toNat))), .int .i64 13, .bool (!((((s5.extract ((2 : Int).toNat) ((6 : Int).toNat)) ++ (s5.extract ((7 : Int).toNat) ((9 : Int).toNat))) ++ (s5.extract ((10 : Int).toNat) ((12 : Int).toNat))).toList == (⟨#[32, 32, 32, 32, 32, 32, 32, 32]⟩ : ByteArray).toList))])) w4) (
 runD prog ds w3 fun w5 =>
 R (.returned (.tuple #[.string (((s5.extract ((2 : Int).toNat) ((6 : Int).toNat)) ++ (s5.extract ((7 : Int).toNat) ((9 : Int).toNat))) ++ (s5.extract ((10 : Int).toNat) ((12 : Int).toNat))), .int .i64 13, .bool false])) w5))
def F67_k2 (R : Rt) : EP := (fun E ds w => dStr (E 5) fun s5 => dBl (E 42) fun b42 => F67_1 R s5 b42 ds w)
def F67_2 (R : Rt) (p0 : Option Addr) (ds : Ds) (w : World) : Prop :=
 dwE w fun w6 =>
 ptrE p0 fun a7 =>
 ∃ s12 : ByteArray, w6.cell? a7 = some (.string s12) /\
 ptrE p0 fun a8 =>
 ∃ n16 : Int, w6.cell? (a8.add 1) = some (.int .i64 n16) /\
 s12.size ≤ s12.size /\ 0 ≤ n16 /\ n16.toNat ≤ s12.size /\
 Calls prog 26 #[.string (s12.extract n16.toNat s12.size), .string (⟨#[123, 125]⟩ : ByteArray)] w6 fun e w9 =>
 ∃ b19 : Bool, e = .returned (.bool b19) /\
 Br b19 (
 runD prog ds w9 fun w10 =>
 R (.returned (.tuple #[.string (⟨#[]⟩ : ByteArray), .int .i64 2, .bool true])) w10) (
 Br (decide ((((s12.extract n16.toNat s12.size).size : Nat) : Int) < 13)) (
 F67_1 R (s12.extract n16.toNat s12.size) true ds w9) (
 0 ≤ (2 : Int) /\ (2 : Int).toNat ≤ (s12.extract n16.toNat s12.size).size /\ 0 ≤ (2 : Int).toNat /\
 Br (!(((s12.extract n16.toNat s12.size).extract 0 ((2 : Int).toNat)).toList == (⟨#[123, 94]⟩ : ByteArray).toList)) (
 F67_1 R (s12.extract n16.toNat s12.size) true ds w9) (
 ∃ b30 : UInt8, 0 ≤ (6 : Int) /\ (s12.extract n16.toNat s12.size)[(6 : Int).toNat]? = some b30 /\
 Br ((b30.toNat : Int) != 45) (
 F67_1 R (s12.extract n16.toNat s12.size) true ds w9) (
 ∃ b35 : UInt8, 0 ≤ (9 : Int) /\ (s12.extract n16.toNat s12.size)[(9 : Int).toNat]? = some b35 /\
 Br ((b35.toNat : Int) != 45) (
 F67_1 R (s12.extract n16.toNat s12.size) true ds w9) (
 ∃ b40 : UInt8, 0 ≤ (12 : Int) /\ (s12.extract n16.toNat s12.size)[(12 : Int).toNat]? = some b40 /\
 F67_1 R (s12.extract n16.toNat s12.size) ((b40.toNat : Int) != 125) ds w9)))))
theorem c67_l : flat (bodyOf f67) = [c67_0, c67_1, c67_2, c67_3, c67_4, c67_5, c67_6, c67_7, c67_8, c67_9] := by kernel_rfl
theorem F67_1_ok (R : Rt) (s5 : ByteArray) (b42 : Bool) (ds : Ds) (w : World) (E : Env) (e5 : E 5 = .string s5) (e42 : E 42 = .bool b42) (h : F67_1 R s5 b42 ds w) :
    TrL prog f67.ntmps [c67_5, c67_6, c67_7, c67_8, c67_9] (F67_q1 R) E ds w :=
  TrL_leaf (X := F67_1 R s5 b42 ds w) (setAll_cons e5 (setAll_cons e42 setAll_nil)) (by kernel_rfl) (by kernel_rfl) h
theorem F67_2_ok (R : Rt) (p0 : Option Addr) (ds : Ds) (w : World) (E : Env) (e0 : E 0 = .pointer p0) (h : F67_2 R p0 ds w) :
    TrL prog f67.ntmps [c67_0, c67_1, c67_2, c67_3, c67_4, c67_5, c67_6, c67_7, c67_8, c67_9] (F67_q1 R) E ds w :=
  TrL_piece (pre := [c67_0, c67_1, c67_2, c67_3, c67_4]) (K := (F67_k2 R)) (X := F67_2 R p0 ds w) (setAll_cons e0 setAll_nil) (by kernel_rfl) (by kernel_rfl)
    (fun E' ds' w' hD => by
      obtain ⟨s5, e5, hD⟩ := dStr_elim hD; obtain ⟨b42, e42, hD⟩ := dBl_elim hD; exact F67_1_ok R s5 b42 ds' w' E' e5 e42 hD) h
theorem F67_calls (p0 : Option Addr) (w : World) (R : Rt) (h : F67_2 R p0 [] w) : Calls prog 67 #[.pointer p0] w R :=
  calls_of_L (l := [c67_0, c67_1, c67_2, c67_3, c67_4, c67_5, c67_6, c67_7, c67_8, c67_9]) func67 (by kernel_rfl) (by rw [ntmps67]; exact Nat.le_of_ble_eq_true (by kernel_rfl)) c67_l
    (F67_2_ok R p0 [] w _ rfl h)
noncomputable def c68_0 := cI3 f68 0
noncomputable def c68_1 := cI3 f68 1
noncomputable def c68_2 := cI3 f68 2
noncomputable def c68_3 := cI3 f68 3
noncomputable def c68_4 := cI3 f68 4
noncomputable def c68_5 := cI3 f68 5
noncomputable def c68_6 := cI3 f68 6
noncomputable def c68_3_0 := cJ3 c68_3 0
noncomputable def c68_3_0_0 := cJ3 c68_3_0 0
noncomputable def c68_3_0_1 := cJ3 c68_3_0 1
noncomputable def c68_3_0_2 := cJ3 c68_3_0 2
noncomputable def c68_3_0_3 := cJ3 c68_3_0 3
def F68_q1 (R : Rt) : EQ := endQ prog f68.results.toList R
def F68_1 (R : Rt) (p0 p3 p4 : Option Addr) (ds : Ds) (w : World) : Prop :=
 ptrE p0 fun a1 =>
 ∃ n57 : Int, w.cell? (a1.add 1) = some (.int .i64 n57) /\
 ptrE p0 fun a2 =>
 st1 (a2.add 260) (.int .i64 n57) w fun w3 =>
 ptrE p3 fun a4 =>
 ∃ n60_0 : Int, w3.cell? (a4.add 0) = some (.int .i64 n60_0) /\
 ∃ n60_1 : Int, w3.cell? (a4.add 1) = some (.int .i64 n60_1) /\
 ∃ s60_2 : ByteArray, w3.cell? (a4.add 2) = some (.string s60_2) /\
 ptrE p4 fun a5 =>
 stA prog 43 a5 #[.int .i64 n60_0, .int .i64 n60_1, .string s60_2] w3 fun w6 =>
 runD prog ds w6 fun w7 =>
 ptrE p4 fun a8 =>
 ∃ nR0_0 : Int, w7.cell? (a8.add 0) = some (.int .i64 nR0_0) /\
 ∃ nR0_1 : Int, w7.cell? (a8.add 1) = some (.int .i64 nR0_1) /\
 ∃ sR0_2 : ByteArray, w7.cell? (a8.add 2) = some (.string sR0_2) /\
 R (.returned (.tuple #[.agg #[.int .i64 nR0_0, .int .i64 nR0_1, .string sR0_2], .bool false])) w7
def F68_k2 (R : Rt) : EP := (fun E ds w => dPtr (E 0) fun p0 => dPtr (E 3) fun p3 => dPtr (E 4) fun p4 => F68_1 R p0 p3 p4 ds w)
def F68_q3 (R : Rt) : EQ := (thenQ (F68_k2 R) (F68_q1 R))
def F68_q4 (R : Rt) : EQ := (blockQ 0 (F68_q3 R))
def F68_q5 (R : Rt) (J1 : (Int) -> World -> Prop) : EQ := (thenQ (fun E _ w => dInt .i64 (E 12) fun n12 => J1 n12 w) (F68_q4 R))
def F68_2 (R : Rt) (J1 : (Int) -> World -> Prop) (p0 p3 p4 : Option Addr) (l10 : SV) (n11 n12 : Int) (ds : Ds) (w : World) : Prop :=
 Br (decide (n12 < n11)) (
 ∃ a9 : Addr, l10.a = some a9 /\ 0 ≤ n12 /\ n12 < (l10.len : Int) /\
 ∃ s15 : ByteArray, w.cell? (a9.add (n12.toNat * 1)) = some (.string s15) /\
 ptrE p0 fun a10 =>
 ∃ n19 : Int, w.cell? (a10.add 1) = some (.int .i64 n19) /\
 dwE w fun w11 =>
 ptrE p0 fun a12 =>
 ∃ s27 : ByteArray, w11.cell? a12 = some (.string s27) /\
 Br (decide ((IntKind.i64.wrap (n19 + (s15.size : Int))) ≤ (s27.size : Int))) (
 ptrE p0 fun a13 =>
 ∃ s34 : ByteArray, w11.cell? a13 = some (.string s34) /\
 ptrE p0 fun a14 =>
 ∃ n38 : Int, w11.cell? (a14.add 1) = some (.int .i64 n38) /\
 0 ≤ (IntKind.i64.wrap (n19 + (s15.size : Int))) /\ (IntKind.i64.wrap (n19 + (s15.size : Int))).toNat ≤ s34.size /\ 0 ≤ n38 /\ n38.toNat ≤ (IntKind.i64.wrap (n19 + (s15.size : Int))).toNat /\
 Calls prog 64 #[.string (s34.extract n38.toNat ((IntKind.i64.wrap (n19 + (s15.size : Int))).toNat))] w11 fun e w15 =>
 ∃ s41 : ByteArray, e = .returned (.string s41) /\
 Br (s41.toList == s15.toList) (
 ptrE p3 fun a16 =>
 st1 (a16.add 2) (.string s15) w15 fun w17 =>
 ptrE p0 fun a18 =>
 st1 (a18.add 1) (.int .i64 (IntKind.i64.wrap (n19 + (s15.size : Int)))) w17 fun w19 =>
 ptrE p3 fun a20 =>
 ∃ n51_0 : Int, w19.cell? (a20.add 0) = some (.int .i64 n51_0) /\
 ∃ n51_1 : Int, w19.cell? (a20.add 1) = some (.int .i64 n51_1) /\
 ∃ s51_2 : ByteArray, w19.cell? (a20.add 2) = some (.string s51_2) /\
 ptrE p4 fun a21 =>
 stA prog 43 a21 #[.int .i64 n51_0, .int .i64 n51_1, .string s51_2] w19 fun w22 =>
 runD prog ds w22 fun w23 =>
 ptrE p4 fun a24 =>
 ∃ nR0_0 : Int, w23.cell? (a24.add 0) = some (.int .i64 nR0_0) /\
 ∃ nR0_1 : Int, w23.cell? (a24.add 1) = some (.int .i64 nR0_1) /\
 ∃ sR0_2 : ByteArray, w23.cell? (a24.add 2) = some (.string sR0_2) /\
 R (.returned (.tuple #[.agg #[.int .i64 nR0_0, .int .i64 nR0_1, .string sR0_2], .bool true])) w23) (
 J1 (IntKind.i64.wrap (n12 + 1)) w15)) (
 J1 (IntKind.i64.wrap (n12 + 1)) w11)) (
 F68_1 R p0 p3 p4 ds w)
def F68_3 (R : Rt) (p0 p3 p4 : Option Addr) (l10 : SV) (n11 n12 : Int) (ds : Ds) (w : World) : Prop :=
 loopT (fun (J1 : (Int) -> World -> Prop) (s : Int) (w : World) => F68_2 R J1 p0 p3 p4 l10 n11 s ds w) n12 w
abbrev F68_4 (R : Rt) (p0 p3 p4 : Option Addr) (l10 : SV) (n11 n12 : Int) (ds : Ds) (w : World) : Prop := F68_3 R p0 p3 p4 l10 n11 n12 ds w
def F68_k6 (R : Rt) : EP := (fun E ds w => dPtr (E 0) fun p0 => dPtr (E 3) fun p3 => dPtr (E 4) fun p4 => dSl (E 10) fun l10 => dInt .i64 (E 11) fun n11 => dInt .i64 (E 12) fun n12 => F68_4 R p0 p3 p4 l10 n11 n12 ds w)
def F68_5 (R : Rt) (p0 : Option Addr) (n1_0 n1_1 : Int) (s1_2 : ByteArray) (ds : Ds) (w : World) : Prop :=
 alE (.cells #[.int .i64 n1_0, .int .i64 n1_1, .string s1_2] 43) w fun r3 w25 =>
 alE (.cells #[.int .i64 0, .int .i64 0, .string (⟨#[]⟩ : ByteArray)] 43) w25 fun r4 w26 =>
 st1 (⟨r3, 0, none⟩ : Addr) (.int .i64 4) w26 fun w27 =>
 Calls prog 79 #[] w27 fun e w28 =>
 ∃ l10 : SV, e = .returned (.slice l10.a l10.len l10.cap) /\
 F68_4 R p0 (some (⟨r3, 0, none⟩ : Addr)) (some (⟨r4, 0, none⟩ : Addr)) l10 (l10.len : Int) 0 ds w28
theorem c68_l : flat (bodyOf f68) = [c68_0, c68_1, c68_2, c68_3, c68_4, c68_5, c68_6] := by kernel_rfl
theorem c68_3_l : flat (innerC c68_3) = [c68_3_0] := by kernel_rfl
theorem c68_3_0_l : flat (innerC c68_3_0) = [c68_3_0_0, c68_3_0_1, c68_3_0_2, c68_3_0_3] := by kernel_rfl
theorem F68_1_ok (R : Rt) (p0 p3 p4 : Option Addr) (ds : Ds) (w : World) (E : Env) (e0 : E 0 = .pointer p0) (e3 : E 3 = .pointer p3) (e4 : E 4 = .pointer p4) (h : F68_1 R p0 p3 p4 ds w) :
    TrL prog f68.ntmps [c68_4, c68_5, c68_6] (F68_q1 R) E ds w :=
  TrL_leaf (X := F68_1 R p0 p3 p4 ds w) (setAll_cons e0 (setAll_cons e3 (setAll_cons e4 setAll_nil))) (by kernel_rfl) (by kernel_rfl) h
theorem F68_2_ok (R : Rt) (J1 : (Int) -> World -> Prop) (p0 p3 p4 : Option Addr) (l10 : SV) (n11 n12 : Int) (ds : Ds) (w : World) (E : Env) (e0 : E 0 = .pointer p0) (e3 : E 3 = .pointer p3) (e4 : E 4 = .pointer p4) (e10 : E 10 = .slice l10.a l10.len l10.cap) (e11 : E 11 = .int .i64 n11) (e12 : E 12 = .int .i64 n12) (h : F68_2 R J1 p0 p3 p4 l10 n11 n12 ds w) :
    TrL prog f68.ntmps [c68_3_0_0, c68_3_0_1, c68_3_0_2, c68_3_0_3] (F68_q5 R J1) E ds w :=
  TrL_leaf (X := F68_2 R J1 p0 p3 p4 l10 n11 n12 ds w) (setAll_cons e0 (setAll_cons e3 (setAll_cons e4 (setAll_cons e10 (setAll_cons e11 (setAll_cons e12 setAll_nil)))))) (by kernel_rfl) (by kernel_rfl) h
theorem F68_3_ok (R : Rt) (p0 p3 p4 : Option Addr) (l10 : SV) (n11 n12 : Int) (ds : Ds) (w : World) (E : Env) (e0 : E 0 = .pointer p0) (e3 : E 3 = .pointer p3) (e4 : E 4 = .pointer p4) (e10 : E 10 = .slice l10.a l10.len l10.cap) (e11 : E 11 = .int .i64 n11) (e12 : E 12 = .int .i64 n12) (h : F68_3 R p0 p3 p4 l10 n11 n12 ds w) :
    TrL prog f68.ntmps [c68_3_0] (F68_q4 R) E ds w :=
  TrL_one (Tr_loop' (c := innerC c68_3_0) (σ := Int) (enc := (fun (s : Int) (E : Env) => E 12 = .int .i64 s)) (D := (fun E K => dInt .i64 (E 12) fun n12 => K n12)) (F := (fun (J1 : (Int) -> World -> Prop) (s : Int) (w : World) => F68_2 R J1 p0 p3 p4 l10 n11 s ds w)) (s0 := n12) (by kernel_rfl) c68_3_0_l e12 (by kernel_rfl) (fun E K hD => by obtain ⟨n12, e12, hD⟩ := dInt_elim hD; exact ⟨n12, e12, hD⟩)
      (fun J1 s E' w' he ha hF => by
      have e12' := he
      exact F68_2_ok R J1 p0 p3 p4 l10 n11 s ds w' E' ((ha 0 (by kernel_rfl)).trans e0) ((ha 3 (by kernel_rfl)).trans e3) ((ha 4 (by kernel_rfl)).trans e4) ((ha 10 (by kernel_rfl)).trans e10) ((ha 11 (by kernel_rfl)).trans e11) e12' hF) h)
theorem F68_4_ok (R : Rt) (p0 p3 p4 : Option Addr) (l10 : SV) (n11 n12 : Int) (ds : Ds) (w : World) (E : Env) (e0 : E 0 = .pointer p0) (e3 : E 3 = .pointer p3) (e4 : E 4 = .pointer p4) (e10 : E 10 = .slice l10.a l10.len l10.cap) (e11 : E 11 = .int .i64 n11) (e12 : E 12 = .int .i64 n12) (h : F68_4 R p0 p3 p4 l10 n11 n12 ds w) :
    TrL prog f68.ntmps [c68_3, c68_4, c68_5, c68_6] (F68_q1 R) E ds w :=
  TrL_head (K := (F68_k2 R)) (Tr_block' (c := innerC c68_3) (by kernel_rfl) c68_3_l (F68_3_ok R p0 p3 p4 l10 n11 n12 ds w E e0 e3 e4 e10 e11 e12 h))
    (fun E' ds' w' hD => by
      obtain ⟨p0, e0, hD⟩ := dPtr_elim hD; obtain ⟨p3, e3, hD⟩ := dPtr_elim hD; obtain ⟨p4, e4, hD⟩ := dPtr_elim hD; exact F68_1_ok R p0 p3 p4 ds' w' E' e0 e3 e4 hD)
theorem F68_5_ok (R : Rt) (p0 : Option Addr) (n1_0 n1_1 : Int) (s1_2 : ByteArray) (ds : Ds) (w : World) (E : Env) (e0 : E 0 = .pointer p0) (e1 : E 1 = .agg #[.int .i64 n1_0, .int .i64 n1_1, .string s1_2]) (h : F68_5 R p0 n1_0 n1_1 s1_2 ds w) :
    TrL prog f68.ntmps [c68_0, c68_1, c68_2, c68_3, c68_4, c68_5, c68_6] (F68_q1 R) E ds w :=
  TrL_piece (pre := [c68_0, c68_1, c68_2]) (K := (F68_k6 R)) (X := F68_5 R p0 n1_0 n1_1 s1_2 ds w) (setAll_cons e0 (setAll_cons e1 setAll_nil)) (by kernel_rfl) (by kernel_rfl)
    (fun E' ds' w' hD => by
      obtain ⟨p0, e0, hD⟩ := dPtr_elim hD; obtain ⟨p3, e3, hD⟩ := dPtr_elim hD; obtain ⟨p4, e4, hD⟩ := dPtr_elim hD; obtain ⟨l10, e10, hD⟩ := dSl_elim hD; obtain ⟨n11, e11, hD⟩ := dInt_elim hD; obtain ⟨n12, e12, hD⟩ := dInt_elim hD; exact F68_4_ok R p0 p3 p4 l10 n11 n12 ds' w' E' e0 e3 e4 e10 e11 e12 hD) h
theorem F68_calls (p0 : Option Addr) (n1_0 n1_1 : Int) (s1_2 : ByteArray) (w : World) (R : Rt) (h : F68_5 R p0 n1_0 n1_1 s1_2 [] w) : Calls prog 68 #[.pointer p0, .agg #[.int .i64 n1_0, .int .i64 n1_1, .string s1_2]] w R :=
  calls_of_L (l := [c68_0, c68_1, c68_2, c68_3, c68_4, c68_5, c68_6]) func68 (by kernel_rfl) (by rw [ntmps68]; exact Nat.le_of_ble_eq_true (by kernel_rfl)) c68_l
    (F68_5_ok R p0 n1_0 n1_1 s1_2 [] w _ rfl rfl h)
noncomputable def c79_0 := cI3 f79 0
noncomputable def c79_1 := cI3 f79 1
noncomputable def c79_2 := cI3 f79 2
def F79_q1 (R : Rt) : EQ := endQ prog f79.results.toList R
def F79_1 (R : Rt) (ds : Ds) (w : World) : Prop :=
 alE (.cells #[.string (⟨#[46, 78, 85, 76, 76, 46]⟩ : ByteArray), .string (⟨#[46, 65, 78, 68, 46]⟩ : ByteArray), .string (⟨#[46, 78, 79, 84, 46]⟩ : ByteArray), .string (⟨#[46, 79, 82, 46]⟩ : ByteArray), .string (⟨#[46, 84, 46]⟩ : ByteArray), .string (⟨#[46, 70, 46]⟩ : ByteArray), .string (⟨#[58, 61]⟩ : ByteArray), .string (⟨#[61, 61]⟩ : ByteArray), .string (⟨#[60, 62]⟩ : ByteArray), .string (⟨#[33, 61]⟩ : ByteArray), .string (⟨#[60, 61]⟩ : ByteArray), .string (⟨#[62, 61]⟩ : ByteArray), .string (⟨#[45, 62]⟩ : ByteArray), .string (⟨#[40]⟩ : ByteArray), .string (⟨#[41]⟩ : ByteArray), .string (⟨#[91]⟩ : ByteArray), .string (⟨#[93]⟩ : ByteArray), .string (⟨#[123]⟩ : ByteArray), .string (⟨#[125]⟩ : ByteArray), .string (⟨#[44]⟩ : ByteArray), .string (⟨#[124]⟩ : ByteArray), .string (⟨#[58]⟩ : ByteArray), .string (⟨#[46]⟩ : ByteArray), .string (⟨#[61]⟩ : ByteArray), .string (⟨#[35]⟩ : ByteArray), .string (⟨#[60]⟩ : ByteArray), .string (⟨#[62]⟩ : ByteArray), .string (⟨#[43]⟩ : ByteArray), .string (⟨#[45]⟩ : ByteArray), .string (⟨#[42]⟩ : ByteArray), .string (⟨#[47]⟩ : ByteArray), .string (⟨#[37]⟩ : ByteArray), .string (⟨#[94]⟩ : ByteArray), .string (⟨#[36]⟩ : ByteArray), .string (⟨#[38]⟩ : ByteArray), .string (⟨#[63]⟩ : ByteArray), .string (⟨#[64]⟩ : ByteArray), .string (⟨#[33]⟩ : ByteArray)] 9) w fun r1 w1 =>
 runD prog ds w1 fun w2 =>
 R (.returned (.slice (some ⟨r1, 0, none⟩) 38 38)) w2
theorem c79_l : flat (bodyOf f79) = [c79_0, c79_1, c79_2] := by kernel_rfl
theorem F79_1_ok (R : Rt) (ds : Ds) (w : World) (E : Env) (h : F79_1 R ds w) :
    TrL prog f79.ntmps [c79_0, c79_1, c79_2] (F79_q1 R) E ds w :=
  TrL_leaf (X := F79_1 R ds w) setAll_nil (by kernel_rfl) (by kernel_rfl) h
theorem F79_calls  (w : World) (R : Rt) (h : F79_1 R [] w) : Calls prog 79 #[] w R :=
  calls_of_L (l := [c79_0, c79_1, c79_2]) func79 (by kernel_rfl) (by rw [ntmps79]; exact Nat.le_of_ble_eq_true (by kernel_rfl)) c79_l
    (F79_1_ok R [] w _  h)
end Go.Proofs.YtlogipcgejfnnaaDoor

/- Shallow texts of functions, printed by program, each checked by the kernel against the loaded code. No condition. -/
set_option maxRecDepth 100000
set_option linter.unusedVariables false
namespace Go.Proofs.YtlogipcgejfnnaaDoor
open Go.Sh
open Tryd
@[reducible] noncomputable def cI4 (f : Func) (i : Nat) : Code := itemAt (flat (bodyOf f)) i
@[reducible] noncomputable def cJ4 (c : Code) (i : Nat) : Code := itemAt (flat (innerC c)) i
noncomputable def c104_0 := cI4 f104 0
noncomputable def c104_1 := cI4 f104 1
noncomputable def c104_2 := cI4 f104 2
def F104_q1 (R : Rt) : EQ := endQ prog f104.results.toList R
def F104_1 (R : Rt) (n0 : Int) (ds : Ds) (w : World) : Prop :=
 IntKind.i64 = IntKind.i64 /\ (4 : Int) ≠ 0 /\
 Br ((n0.tmod 4) == 0) (
 IntKind.i64 = IntKind.i64 /\ (100 : Int) ≠ 0 /\
 Br ((n0.tmod 100) != 0) (
 runD prog ds w fun w1 =>
 R (.returned (.bool true)) w1) (
 IntKind.i64 = IntKind.i64 /\ (400 : Int) ≠ 0 /\
 runD prog ds w fun w2 =>
 R (.returned (.bool ((n0.tmod 400) == 0))) w2)) (
 runD prog ds w fun w3 =>
 R (.returned (.bool false)) w3)
theorem c104_l : flat (bodyOf f104) = [c104_0, c104_1, c104_2] := by kernel_rfl
theorem F104_1_ok (R : Rt) (n0 : Int) (ds : Ds) (w : World) (E : Env) (e0 : E 0 = .int .i64 n0) (h : F104_1 R n0 ds w) :
    TrL prog f104.ntmps [c104_0, c104_1, c104_2] (F104_q1 R) E ds w :=
  TrL_leaf (X := F104_1 R n0 ds w) (setAll_cons e0 setAll_nil) (by kernel_rfl) (by kernel_rfl) h
theorem F104_calls (n0 : Int) (w : World) (R : Rt) (h : F104_1 R n0 [] w) : Calls prog 104 #[.int .i64 n0] w R :=
  calls_of_L (l := [c104_0, c104_1, c104_2]) func104 (by kernel_rfl) (by rw [ntmps104]; exact Nat.le_of_ble_eq_true (by kernel_rfl)) c104_l
    (F104_1_ok R n0 [] w _ rfl h)
noncomputable def c97_0 := cI4 f97 0
noncomputable def c97_1 := cI4 f97 1
noncomputable def c97_2 := cI4 f97 2
noncomputable def c97_3 := cI4 f97 3
noncomputable def c97_4 := cI4 f97 4
noncomputable def c97_5 := cI4 f97 5
def F97_q1 (R : Rt) : EQ := endQ prog f97.results.toList R
def F97_1 (R : Rt) (n0 n1 : Int) (ds : Ds) (w : World) : Prop :=
 alE (.cells #[.int .i64 0, .int .i64 0, .int .i64 0, .int .i64 0, .int .i64 0, .int .i64 0, .int .i64 0, .int .i64 0, .int .i64 0, .int .i64 0, .int .i64 0, .int .i64 0] 128) w fun r5 w1 =>
 stA prog 128 (⟨r5, 0, none⟩ : Addr) #[.int .i64 31, .int .i64 28, .int .i64 31, .int .i64 30, .int .i64 31, .int .i64 30, .int .i64 31, .int .i64 31, .int .i64 30, .int .i64 31, .int .i64 30, .int .i64 31] w1 fun w2 =>
 Br (n1 == 2) (
 Calls prog 104 #[.int .i64 n0] w2 fun e w3 =>
 ∃ b11 : Bool, e = .returned (.bool b11) /\
 Br b11 (
 runD prog ds w3 fun w4 =>
 R (.returned (.int .i64 29)) w4) (
 0 ≤ (IntKind.i64.wrap (n1 - 1)) /\ (IntKind.i64.wrap (n1 - 1)) < (12 : Int) /\
 ∃ n16 : Int, w3.cell? ((⟨r5, 0, none⟩ : Addr).add ((IntKind.i64.wrap (n1 - 1)).toNat * 1)) = some (.int .i64 n16) /\
 runD prog ds w3 fun w5 =>
 R (.returned (.int .i64 n16)) w5)) (
 0 ≤ (IntKind.i64.wrap (n1 - 1)) /\ (IntKind.i64.wrap (n1 - 1)) < (12 : Int) /\
 ∃ n16 : Int, w2.cell? ((⟨r5, 0, none⟩ : Addr).add ((IntKind.i64.wrap (n1 - 1)).toNat * 1)) = some (.int .i64 n16) /\
 runD prog ds w2 fun w6 =>
 R (.returned (.int .i64 n16)) w6)
theorem c97_l : flat (bodyOf f97) = [c97_0, c97_1, c97_2, c97_3, c97_4, c97_5] := by kernel_rfl
theorem F97_1_ok (R : Rt) (n0 n1 : Int) (ds : Ds) (w : World) (E : Env) (e0 : E 0 = .int .i64 n0) (e1 : E 1 = .int .i64 n1) (h : F97_1 R n0 n1 ds w) :
    TrL prog f97.ntmps [c97_0, c97_1, c97_2, c97_3, c97_4, c97_5] (F97_q1 R) E ds w :=
  TrL_leaf (X := F97_1 R n0 n1 ds w) (setAll_cons e0 (setAll_cons e1 setAll_nil)) (by kernel_rfl) (by kernel_rfl) h
theorem F97_calls (n0 n1 : Int) (w : World) (R : Rt) (h : F97_1 R n0 n1 [] w) : Calls prog 97 #[.int .i64 n0, .int .i64 n1] w R :=
  calls_of_L (l := [c97_0, c97_1, c97_2, c97_3, c97_4, c97_5]) func97 (by kernel_rfl) (by rw [ntmps97]; exact Nat.le_of_ble_eq_true (by kernel_rfl)) c97_l
    (F97_1_ok R n0 n1 [] w _ rfl rfl h)
noncomputable def c98_0 := cI4 f98 0
noncomputable def c98_1 := cI4 f98 1
noncomputable def c98_2 := cI4 f98 2
noncomputable def c98_3 := cI4 f98 3
def F98_q1 (R : Rt) : EQ := endQ prog f98.results.toList R
def F98_1 (R : Rt) (n0 : Int) (ds : Ds) (w : World) : Prop :=
 IntKind.i64 = IntKind.i64 /\ (4 : Int) ≠ 0 /\
 IntKind.i64 = IntKind.i64 /\ (100 : Int) ≠ 0 /\
 IntKind.i64 = IntKind.i64 /\ (400 : Int) ≠ 0 /\
 runD prog ds w fun w1 =>
 R (.returned (.int .i64 (IntKind.i64.wrap ((IntKind.i64.wrap ((IntKind.i64.wrap ((IntKind.i64.wrap ((365 : Int) * (IntKind.i64.wrap (n0 - 1)))) + (IntKind.i64.wrap ((IntKind.i64.wrap (n0 - 1)).tdiv 4)))) - (IntKind.i64.wrap ((IntKind.i64.wrap (n0 - 1)).tdiv 100)))) + (IntKind.i64.wrap ((IntKind.i64.wrap (n0 - 1)).tdiv 400)))))) w1
theorem c98_l : flat (bodyOf f98) = [c98_0, c98_1, c98_2, c98_3] := by kernel_rfl
theorem F98_1_ok (R : Rt) (n0 : Int) (ds : Ds) (w : World) (E : Env) (e0 : E 0 = .int .i64 n0) (h : F98_1 R n0 ds w) :
    TrL prog f98.ntmps [c98_0, c98_1, c98_2, c98_3] (F98_q1 R) E ds w :=
  TrL_leaf (X := F98_1 R n0 ds w) (setAll_cons e0 setAll_nil) (by kernel_rfl) (by kernel_rfl) h
theorem F98_calls (n0 : Int) (w : World) (R : Rt) (h : F98_1 R n0 [] w) : Calls prog 98 #[.int .i64 n0] w R :=
  calls_of_L (l := [c98_0, c98_1, c98_2, c98_3]) func98 (by kernel_rfl) (by rw [ntmps98]; exact Nat.le_of_ble_eq_true (by kernel_rfl)) c98_l
    (F98_1_ok R n0 [] w _ rfl h)
noncomputable def c90_0 := cI4 f90 0
noncomputable def c90_1 := cI4 f90 1
noncomputable def c90_2 := cI4 f90 2
noncomputable def c90_3 := cI4 f90 3
noncomputable def c90_4 := cI4 f90 4
noncomputable def c90_5 := cI4 f90 5
noncomputable def c90_6 := cI4 f90 6
noncomputable def c90_7 := cI4 f90 7
noncomputable def c90_5_0 := cJ4 c90_5 0
noncomputable def c90_5_0_0 := cJ4 c90_5_0 0
noncomputable def c90_5_0_1 := cJ4 c90_5_0 1
noncomputable def c90_5_0_2 := cJ4 c90_5_0 2
noncomputable def c90_5_0_3 := cJ4 c90_5_0 3
def F90_q1 (R : Rt) : EQ := endQ prog f90.results.toList R
def F90_1 (R : Rt) (n8 : Int) (ds : Ds) (w : World) : Prop :=
 runD prog ds w fun w1 =>
 R (.returned (.tuple #[.int .i64 n8, .int .i64 0])) w1
def F90_k2 (R : Rt) : EP := (fun E ds w => dInt .i64 (E 8) fun n8 => F90_1 R n8 ds w)
def F90_q3 (R : Rt) : EQ := (thenQ (F90_k2 R) (F90_q1 R))
def F90_q4 (R : Rt) : EQ := (blockQ 0 (F90_q3 R))
def F90_q5 (R : Rt) (J1 : (Int × Int) -> World -> Prop) : EQ := (thenQ (fun E _ w => dInt .i64 (E 8) fun n8 => dInt .i64 (E 41) fun n41 => J1 (n8, n41) w) (F90_q4 R))
def F90_2 (R : Rt) (J1 : (Int × Int) -> World -> Prop) (n0 n8 n40 n41 : Int) (ds : Ds) (w : World) : Prop :=
 Br (decide (n41 < n40)) (
 Calls prog 97 #[.int .i64 n0, .int .i64 (IntKind.i64.wrap (n41 + 1))] w fun e w2 =>
 ∃ n48 : Int, e = .returned (.int .i64 n48) /\
 J1 ((IntKind.i64.wrap (n8 + n48)), (IntKind.i64.wrap (n41 + 1))) w2) (
 F90_1 R n8 ds w)
def F90_3 (R : Rt) (n0 n8 n40 n41 : Int) (ds : Ds) (w : World) : Prop :=
 loopT (fun (J1 : (Int × Int) -> World -> Prop) (s : Int × Int) (w : World) => F90_2 R J1 n0 s.1 n40 s.2 ds w) (n8, n41) w
abbrev F90_4 (R : Rt) (n0 n8 n40 n41 : Int) (ds : Ds) (w : World) : Prop := F90_3 R n0 n8 n40 n41 ds w
def F90_k6 (R : Rt) : EP := (fun E ds w => dInt .i64 (E 0) fun n0 => dInt .i64 (E 8) fun n8 => dInt .i64 (E 40) fun n40 => dInt .i64 (E 41) fun n41 => F90_4 R n0 n8 n40 n41 ds w)
def F90_5 (R : Rt) (n0 n1 n2 : Int) (b34 : Bool) (ds : Ds) (w : World) : Prop :=
 Br b34 (
 runD prog ds w fun w3 =>
 R (.returned (.tuple #[.int .i64 0, .int .i64 1])) w3) (
 Calls prog 98 #[.int .i64 n0] w fun e w4 =>
 ∃ n36 : Int, e = .returned (.int .i64 n36) /\
 F90_4 R n0 (IntKind.i64.wrap (n36 + n2)) (IntKind.i64.wrap (n1 - 1)) 0 ds w4)
def F90_k7 (R : Rt) : EP := (fun E ds w => dInt .i64 (E 0) fun n0 => dInt .i64 (E 1) fun n1 => dInt .i64 (E 2) fun n2 => dBl (E 34) fun b34 => F90_5 R n0 n1 n2 b34 ds w)
def F90_6 (R : Rt) (n0 n1 n2 : Int) (ds : Ds) (w : World) : Prop :=
 Br (decide (n0 < 1)) (
 F90_5 R n0 n1 n2 true ds w) (
 Br (decide (n0 > 9999)) (
 F90_5 R n0 n1 n2 true ds w) (
 Br (decide (n1 < 1)) (
 F90_5 R n0 n1 n2 true ds w) (
 Br (decide (n1 > 12)) (
 F90_5 R n0 n1 n2 true ds w) (
 Br (decide (n2 < 1)) (
 F90_5 R n0 n1 n2 true ds w) (
 Calls prog 97 #[.int .i64 n0, .int .i64 n1] w fun e w5 =>
 ∃ n32 : Int, e = .returned (.int .i64 n32) /\
 F90_5 R n0 n1 n2 (decide (n2 > n32)) ds w5)))))
def F90_k8 (R : Rt) : EP := (fun E ds w => dInt .i64 (E 0) fun n0 => dInt .i64 (E 1) fun n1 => dInt .i64 (E 2) fun n2 => F90_6 R n0 n1 n2 ds w)
def F90_7 (R : Rt) (n0 n1 n2 : Int) (ds : Ds) (w : World) : Prop :=
 F90_6 R n0 n1 n2 ds w
theorem c90_l : flat (bodyOf f90) = [c90_0, c90_1, c90_2, c90_3, c90_4, c90_5, c90_6, c90_7] := by kernel_rfl
theorem c90_5_l : flat (innerC c90_5) = [c90_5_0] := by kernel_rfl
theorem c90_5_0_l : flat (innerC c90_5_0) = [c90_5_0_0, c90_5_0_1, c90_5_0_2, c90_5_0_3] := by kernel_rfl
theorem F90_1_ok (R : Rt) (n8 : Int) (ds : Ds) (w : World) (E : Env) (e8 : E 8 = .int .i64 n8) (h : F90_1 R n8 ds w) :
    TrL prog f90.ntmps [c90_6, c90_7] (F90_q1 R) E ds w :=
  TrL_leaf (X := F90_1 R n8 ds w) (setAll_cons e8 setAll_nil) (by kernel_rfl) (by kernel_rfl) h
theorem F90_2_ok (R : Rt) (J1 : (Int × Int) -> World -> Prop) (n0 n8 n40 n41 : Int) (ds : Ds) (w : World) (E : Env) (e0 : E 0 = .int .i64 n0) (e8 : E 8 = .int .i64 n8) (e40 : E 40 = .int .i64 n40) (e41 : E 41 = .int .i64 n41) (h : F90_2 R J1 n0 n8 n40 n41 ds w) :
    TrL prog f90.ntmps [c90_5_0_0, c90_5_0_1, c90_5_0_2, c90_5_0_3] (F90_q5 R J1) E ds w :=
  TrL_leaf (X := F90_2 R J1 n0 n8 n40 n41 ds w) (setAll_cons e0 (setAll_cons e8 (setAll_cons e40 (setAll_cons e41 setAll_nil)))) (by kernel_rfl) (by kernel_rfl) h
theorem F90_3_ok (R : Rt) (n0 n8 n40 n41 : Int) (ds : Ds) (w : World) (E : Env) (e0 : E 0 = .int .i64 n0) (e8 : E 8 = .int .i64 n8) (e40 : E 40 = .int .i64 n40) (e41 : E 41 = .int .i64 n41) (h : F90_3 R n0 n8 n40 n41 ds w) :
    TrL prog f90.ntmps [c90_5_0] (F90_q4 R) E ds w :=
  TrL_one (Tr_loop' (c := innerC c90_5_0) (σ := Int × Int) (enc := (fun (s : Int × Int) (E : Env) => E 8 = .int .i64 s.1 /\ E 41 = .int .i64 s.2)) (D := (fun E K => dInt .i64 (E 8) fun n8 => dInt .i64 (E 41) fun n41 => K (n8, n41))) (F := (fun (J1 : (Int × Int) -> World -> Prop) (s : Int × Int) (w : World) => F90_2 R J1 n0 s.1 n40 s.2 ds w)) (s0 := (n8, n41)) (by kernel_rfl) c90_5_0_l ⟨e8, e41⟩ (by kernel_rfl) (fun E K hD => by obtain ⟨n8, e8, hD⟩ := dInt_elim hD; obtain ⟨n41, e41, hD⟩ := dInt_elim hD; exact ⟨(n8, n41), ⟨e8, e41⟩, hD⟩)
      (fun J1 s E' w' he ha hF => by
      obtain ⟨e8', e41'⟩ := he
      exact F90_2_ok R J1 n0 s.1 n40 s.2 ds w' E' ((ha 0 (by kernel_rfl)).trans e0) e8' ((ha 40 (by kernel_rfl)).trans e40) e41' hF) h)
theorem F90_4_ok (R : Rt) (n0 n8 n40 n41 : Int) (ds : Ds) (w : World) (E : Env) (e0 : E 0 = .int .i64 n0) (e8 : E 8 = .int .i64 n8) (e40 : E 40 = .int .i64 n40) (e41 : E 41 = .int .i64 n41) (h : F90_4 R n0 n8 n40 n41 ds w) :
    TrL prog f90.ntmps [c90_5, c90_6, c90_7] (F90_q1 R) E ds w :=
  TrL_head (K := (F90_k2 R)) (Tr_block' (c := innerC c90_5) (by kernel_rfl) c90_5_l (F90_3_ok R n0 n8 n40 n41 ds w E e0 e8 e40 e41 h))
    (fun E' ds' w' hD => by
      obtain ⟨n8, e8, hD⟩ := dInt_elim hD; exact F90_1_ok R n8 ds' w' E' e8 hD)
theorem F90_5_ok (R : Rt) (n0 n1 n2 : Int) (b34 : Bool) (ds : Ds) (w : World) (E : Env) (e0 : E 0 = .int .i64 n0) (e1 : E 1 = .int .i64 n1) (e2 : E 2 = .int .i64 n2) (e34 : E 34 = .bool b34) (h : F90_5 R n0 n1 n2 b34 ds w) :
    TrL prog f90.ntmps [c90_2, c90_3, c90_4, c90_5, c90_6, c90_7] (F90_q1 R) E ds w :=
  TrL_piece (pre := [c90_2, c90_3, c90_4]) (K := (F90_k6 R)) (X := F90_5 R n0 n1 n2 b34 ds w) (setAll_cons e0 (setAll_cons e1 (setAll_cons e2 (setAll_cons e34 setAll_nil)))) (by kernel_rfl) (by kernel_rfl)
    (fun E' ds' w' hD => by
      obtain ⟨n0, e0, hD⟩ := dInt_elim hD; obtain ⟨n8, e8, hD⟩ := dInt_elim hD; obtain ⟨n40, e40, hD⟩ := dInt_elim hD; obtain ⟨n41, e41, hD⟩ := dInt_elim hD; exact F90_4_ok R n0 n8 n40 n41 ds' w' E' e0 e8 e40 e41 hD) h
theorem F90_6_ok (R : Rt) (n0 n1 n2 : Int) (ds : Ds) (w : World) (E : Env) (e0 : E 0 = .int .i64 n0) (e1 : E 1 = .int .i64 n1) (e2 : E 2 = .int .i64 n2) (h : F90_6 R n0 n1 n2 ds w) :
    TrL prog f90.ntmps [c90_1, c90_2, c90_3, c90_4, c90_5, c90_6, c90_7] (F90_q1 R) E ds w :=
  TrL_piece (pre := [c90_1]) (K := (F90_k7 R)) (X := F90_6 R n0 n1 n2 ds w) (setAll_cons e0 (setAll_cons e1 (setAll_cons e2 setAll_nil))) (by kernel_rfl) (by kernel_rfl)
    (fun E' ds' w' hD => by
      obtain ⟨n0, e0, hD⟩ := dInt_elim hD; obtain ⟨n1, e1, hD⟩ := dInt_elim hD; obtain ⟨n2, e2, hD⟩ := dInt_elim hD; obtain ⟨b34, e34, hD⟩ := dBl_elim hD; exact F90_5_ok R n0 n1 n2 b34 ds' w' E' e0 e1 e2 e34 hD) h
theorem F90_7_ok (R : Rt) (n0 n1 n2 : Int) (ds : Ds) (w : World) (E : Env) (e0 : E 0 = .int .i64 n0) (e1 : E 1 = .int .i64 n1) (e2 : E 2 = .int .i64 n2) (h : F90_7 R n0 n1 n2 ds w) :
    TrL prog f90.ntmps [c90_0, c90_1, c90_2, c90_3, c90_4, c90_5, c90_6, c90_7] (F90_q1 R) E ds w :=
  TrL_piece (pre := [c90_0]) (K := (F90_k8 R)) (X := F90_7 R n0 n1 n2 ds w) (setAll_cons e0 (setAll_cons e1 (setAll_cons e2 setAll_nil))) (by kernel_rfl) (by kernel_rfl)
    (fun E' ds' w' hD => by
      obtain ⟨n0, e0, hD⟩ := dInt_elim hD; obtain ⟨n1, e1, hD⟩ := dInt_elim hD; obtain ⟨n2, e2, hD⟩ := dInt_elim hD; exact F90_6_ok R n0 n1 n2 ds' w' E' e0 e1 e2 hD) h
theorem F90_calls (n0 n1 n2 : Int) (w : World) (R : Rt) (h : F90_7 R n0 n1 n2 [] w) : Calls prog 90 #[.int .i64 n0, .int .i64 n1, .int .i64 n2] w R :=
  calls_of_L (l := [c90_0, c90_1, c90_2, c90_3, c90_4, c90_5, c90_6, c90_7]) func90 (by kernel_rfl) (by rw [ntmps90]; exact Nat.le_of_ble_eq_true (by kernel_rfl)) c90_l
    (F90_7_ok R n0 n1 n2 [] w _ rfl rfl rfl h)
noncomputable def c91_0 := cI4 f91 0
noncomputable def c91_1 := cI4 f91 1
noncomputable def c91_2 := cI4 f91 2
noncomputable def c91_3 := cI4 f91 3
noncomputable def c91_4 := cI4 f91 4
noncomputable def c91_5 := cI4 f91 5
noncomputable def c91_6 := cI4 f91 6
noncomputable def c91_7 := cI4 f91 7
noncomputable def c91_8 := cI4 f91 8
noncomputable def c91_9 := cI4 f91 9
noncomputable def c91_7_0 := cJ4 c91_7 0
noncomputable def c91_7_0_0 := cJ4 c91_7_0 0
noncomputable def c91_7_0_1 := cJ4 c91_7_0 1
noncomputable def c91_7_0_2 := cJ4 c91_7_0 2
noncomputable def c91_7_0_3 := cJ4 c91_7_0 3
def F91_q1 (R : Rt) : EQ := endQ prog f91.results.toList R
def F91_1 (R : Rt) (n3 n4 : Int) (ds : Ds) (w : World) : Prop :=
 runD prog ds w fun w1 =>
 R (.returned (.int .i64 (IntKind.i64.wrap (n3 * n4)))) w1
def F91_k2 (R : Rt) : EP := (fun E ds w => dInt .i64 (E 3) fun n3 => dInt .i64 (E 4) fun n4 => F91_1 R n3 n4 ds w)
def F91_q3 (R : Rt) : EQ := (thenQ (F91_k2 R) (F91_q1 R))
def F91_q4 (R : Rt) : EQ := (blockQ 0 (F91_q3 R))
def F91_q5 (R : Rt) (J1 : (Int × Int) -> World -> Prop) : EQ := (thenQ (fun E _ w => dInt .i64 (E 4) fun n4 => dInt .i64 (E 27) fun n27 => J1 (n4, n27) w) (F91_q4 R))
def F91_2 (R : Rt) (J1 : (Int × Int) -> World -> Prop) (s0 : ByteArray) (n3 n4 n26 n27 : Int) (ds : Ds) (w : World) : Prop :=
 Br (decide (n27 < n26)) (
 ∃ b32 : UInt8, 0 ≤ n27 /\ s0[n27.toNat]? = some b32 /\
 Br (decide ((b32.toNat : Int) < 48)) (
 F91_1 R n3 n4 ds w) (
 ∃ b37 : UInt8, 0 ≤ n27 /\ s0[n27.toNat]? = some b37 /\
 Br (decide ((b37.toNat : Int) > 57)) (
 F91_1 R n3 n4 ds w) (
 ∃ b44 : UInt8, 0 ≤ n27 /\ s0[n27.toNat]? = some b44 /\
 ∃ n48 : Int, ∃ w2 : World, (Builtin.min_ #[3, 3] 3 #[.int .i64 (IntKind.i64.wrap ((IntKind.i64.wrap (n4 * 10)) + (IntKind.i64.wrap (IntKind.u8.wrap ((b44.toNat : Int) - 48))))), .int .i64 1000000000000000]).run prog w = .ok (.int .i64 n48) w2 /\
 J1 (n48, (IntKind.i64.wrap (n27 + 1))) w2))) (
 F91_1 R n3 n4 ds w)
def F91_3 (R : Rt) (s0 : ByteArray) (n3 n4 n26 n27 : Int) (ds : Ds) (w : World) : Prop :=
 loopT (fun (J1 : (Int × Int) -> World -> Prop) (s : Int × Int) (w : World) => F91_2 R J1 s0 n3 s.1 n26 s.2 ds w) (n4, n27) w
abbrev F91_4 (R : Rt) (s0 : ByteArray) (n3 n4 n26 n27 : Int) (ds : Ds) (w : World) : Prop := F91_3 R s0 n3 n4 n26 n27 ds w
def F91_k6 (R : Rt) : EP := (fun E ds w => dStr (E 0) fun s0 => dInt .i64 (E 3) fun n3 => dInt .i64 (E 4) fun n4 => dInt .i64 (E 26) fun n26 => dInt .i64 (E 27) fun n27 => F91_4 R s0 n3 n4 n26 n27 ds w)
def F91_5 (R : Rt) (s0 : ByteArray) (n3 : Int) (ds : Ds) (w : World) : Prop :=
 F91_4 R s0 n3 0 (s0.size : Int) 0 ds w
def F91_k7 (R : Rt) : EP := (fun E ds w => dStr (E 0) fun s0 => dInt .i64 (E 3) fun n3 => F91_5 R s0 n3 ds w)
def F91_6 (R : Rt) (s0 : ByteArray) (ds : Ds) (w : World) : Prop :=
 Calls prog 99 #[.string s0, .string (⟨#[32]⟩ : ByteArray)] w fun e w3 =>
 ∃ s7 : ByteArray, e = .returned (.string s7) /\
 Br (!(s7.toList == (⟨#[]⟩ : ByteArray).toList)) (
 ∃ b12 : UInt8, 0 ≤ (0 : Int) /\ s7[(0 : Int).toNat]? = some b12 /\
 Br ((b12.toNat : Int) == 45) (
 ∃ b21 : UInt8, 0 ≤ (0 : Int) /\ s7[(0 : Int).toNat]? = some b21 /\
 Br ((b21.toNat : Int) == 45) (
 s7.size ≤ s7.size /\ 0 ≤ (1 : Int) /\ (1 : Int).toNat ≤ s7.size /\
 F91_5 R (s7.extract ((1 : Int).toNat) s7.size) (-1) ds w3) (
 s7.size ≤ s7.size /\ 0 ≤ (1 : Int) /\ (1 : Int).toNat ≤ s7.size /\
 F91_5 R (s7.extract ((1 : Int).toNat) s7.size) 1 ds w3)) (
 ∃ b16 : UInt8, 0 ≤ (0 : Int) /\ s7[(0 : Int).toNat]? = some b16 /\
 Br ((b16.toNat : Int) == 43) (
 ∃ b21 : UInt8, 0 ≤ (0 : Int) /\ s7[(0 : Int).toNat]? = some b21 /\
 Br ((b21.toNat : Int) == 45) (
 s7.size ≤ s7.size /\ 0 ≤ (1 : Int) /\ (1 : Int).toNat ≤ s7.size /\
 F91_5 R (s7.extract ((1 : Int).toNat) s7.size) (-1) ds w3) (
 s7.size ≤ s7.size /\ 0 ≤ (1 : Int) /\ (1 : Int).toNat ≤ s7.size /\
 F91_5 R (s7.extract ((1 : Int).toNat) s7.size) 1 ds w3)) (
 F91_5 R s7 1 ds w3))) (
 F91_5 R s7 1 ds w3)
theorem c91_l : flat (bodyOf f91) = [c91_0, c91_1, c91_2, c91_3, c91_4, c91_5, c91_6, c91_7, c91_8, c91_9] := by kernel_rfl
theorem c91_7_l : flat (innerC c91_7) = [c91_7_0] := by kernel_rfl
theorem c91_7_0_l : flat (innerC c91_7_0) = [c91_7_0_0, c91_7_0_1, c91_7_0_2, c91_7_0_3] := by kernel_rfl
theorem F91_1_ok (R : Rt) (n3 n4 : Int) (ds : Ds) (w : World) (E : Env) (e3 : E 3 = .int .i64 n3) (e4 : E 4 = .int .i64 n4) (h : F91_1 R n3 n4 ds w) :
    TrL prog f91.ntmps [c91_8, c91_9] (F91_q1 R) E ds w :=
  TrL_leaf (X := F91_1 R n3 n4 ds w) (setAll_cons e3 (setAll_cons e4 setAll_nil)) (by kernel_rfl) (by kernel_rfl) h
theorem F91_2_ok (R : Rt) (J1 : (Int × Int) -> World -> Prop) (s0 : ByteArray) (n3 n4 n26 n27 : Int) (ds : Ds) (w : World) (E : Env) (e0 : E 0 = .string s0) (e3 : E 3 = .int .i64 n3) (e4 : E 4 = .int .i64 n4) (e26 : E 26 = .int .i64 n26) (e27 : E 27 = .int .i64 n27) (h : F91_2 R J1 s0 n3 n4 n26 n27 ds w) :
    TrL prog f91.ntmps [c91_7_0_0, c91_7_0_1, c91_7_0_2, c91_7_0_3] (F91_q5 R J1) E ds w :=
  TrL_leaf (X := F91_2 R J1 s0 n3 n4 n26 n27 ds w) (setAll_cons e0 (setAll_cons e3 (setAll_cons e4 (setAll_cons e26 (setAll_cons e27 setAll_nil))))) (by kernel_rfl) (by kernel_rfl) h
theorem F91_3_ok (R : Rt) (s0 : ByteArray) (n3 n4 n26 n27 : Int) (ds : Ds) (w : World) (E : Env) (e0 : E 0 = .string s0) (e3 : E 3 = .int .i64 n3) (e4 : E 4 = .int .i64 n4) (e26 : E 26 = .int .i64 n26) (e27 : E 27 = .int .i64 n27) (h : F91_3 R s0 n3 n4 n26 n27 ds w) :
    TrL prog f91.ntmps [c91_7_0] (F91_q4 R) E ds w :=
  TrL_one (Tr_loop' (c := innerC c91_7_0) (σ := Int × Int) (enc := (fun (s : Int × Int) (E : Env) => E 4 = .int .i64 s.1 /\ E 27 = .int .i64 s.2)) (D := (fun E K => dInt .i64 (E 4) fun n4 => dInt .i64 (E 27) fun n27 => K (n4, n27))) (F := (fun (J1 : (Int × Int) -> World -> Prop) (s : Int × Int) (w : World) => F91_2 R J1 s0 n3 s.1 n26 s.2 ds w)) (s0 := (n4, n27)) (by kernel_rfl) c91_7_0_l ⟨e4, e27⟩ (by kernel_rfl) (fun E K hD => by obtain ⟨n4, e4, hD⟩ := dInt_elim hD; obtain ⟨n27, e27, hD⟩ := dInt_elim hD; exact ⟨(n4, n27), ⟨e4, e27⟩, hD⟩)
      (fun J1 s E' w' he ha hF => by
      obtain ⟨e4', e27'⟩ := he
      exact F91_2_ok R J1 s0 n3 s.1 n26 s.2 ds w' E' ((ha 0 (by kernel_rfl)).trans e0) ((ha 3 (by kernel_rfl)).trans e3) e4' ((ha 26 (by kernel_rfl)).trans e26) e27' hF) h)
theorem F91_4_ok (R : Rt) (s0 : ByteArray) (n3 n4 n26 n27 : Int) (ds : Ds) (w : World) (E : Env) (e0 : E 0 = .string s0) (e3 : E 3 = .int .i64 n3) (e4 : E 4 = .int .i64 n4) (e26 : E 26 = .int .i64 n26) (e27 : E 27 = .int .i64 n27) (h : F91_4 R s0 n3 n4 n26 n27 ds w) :
    TrL prog f91.ntmps [c91_7, c91_8, c91_9] (F91_q1 R) E ds w :=
  TrL_head (K := (F91_k2 R)) (Tr_block' (c := innerC c91_7) (by kernel_rfl) c91_7_l (F91_3_ok R s0 n3 n4 n26 n27 ds w E e0 e3 e4 e26 e27 h))
    (fun E' ds' w' hD => by
      obtain ⟨n3, e3, hD⟩ := dInt_elim hD; obtain ⟨n4, e4, hD⟩ := dInt_elim hD; exact F91_1_ok R n3 n4 ds' w' E' e3 e4 hD)
theorem F91_5_ok (R : Rt) (s0 : ByteArray) (n3 : Int) (ds : Ds) (w : World) (E : Env) (e0 : E 0 = .string s0) (e3 : E 3 = .int .i64 n3) (h : F91_5 R s0 n3 ds w) :
    TrL prog f91.ntmps [c91_5, c91_6, c91_7, c91_8, c91_9] (F91_q1 R) E ds w :=
  TrL_piece (pre := [c91_5, c91_6]) (K := (F91_k6 R)) (X := F91_5 R s0 n3 ds w) (setAll_cons e0 (setAll_cons e3 setAll_nil)) (by kernel_rfl) (by kernel_rfl)
    (fun E' ds' w' hD => by
      obtain ⟨s0, e0, hD⟩ := dStr_elim hD; obtain ⟨n3, e3, hD⟩ := dInt_elim hD; obtain ⟨n4, e4, hD⟩ := dInt_elim hD; obtain ⟨n26, e26, hD⟩ := dInt_elim hD; obtain ⟨n27, e27, hD⟩ := dInt_elim hD; exact F91_4_ok R s0 n3 n4 n26 n27 ds' w' E' e0 e3 e4 e26 e27 hD) h
theorem F91_6_ok (R : Rt) (s0 : ByteArray) (ds : Ds) (w : World) (E : Env) (e0 : E 0 = .string s0) (h : F91_6 R s0 ds w) :
    TrL prog f91.ntmps [c91_0, c91_1, c91_2, c91_3, c91_4, c91_5, c91_6, c91_7, c91_8, c91_9] (F91_q1 R) E ds w :=
  TrL_piece (pre := [c91_0, c91_1, c91_2, c91_3, c91_4]) (K := (F91_k7 R)) (X := F91_6 R s0 ds w) (setAll_cons e0 setAll_nil) (by kernel_rfl) (by kernel_rfl)
    (fun E' ds' w' hD => by
      obtain ⟨s0, e0, hD⟩ := dStr_elim hD; obtain ⟨n3, e3, hD⟩ := dInt_elim hD; exact F91_5_ok R s0 n3 ds' w' E' e0 e3 hD) h
theorem F91_calls (s0 : ByteArray) (w : World) (R : Rt) (h : F91_6 R s0 [] w) : Calls prog 91 #[.string s0] w R :=
  calls_of_L (l := [c91_0, c91_1, c91_2, c91_3, c91_4, c91_5, c91_6, c91_7, c91_8, c91_9]) func91 (by kernel_rfl) (by rw [ntmps91]; exact Nat.le_of_ble_eq_true (by kernel_rfl)) c91_l
    (F91_6_ok R s0 [] w _ rfl h)
noncomputable def c78_0 := cI4 f78 0
noncomputable def c78_1 := cI4 f78 1
noncomputable def c78_2 := cI4 f78 2
noncomputable def c78_3 := cI4 f78 3
noncomputable def c78_4 := cI4 f78 4
noncomputable def c78_5 := cI4 f78 5
noncomputable def c78_6 := cI4 f78 6
noncomputable def c78_7 := cI4 f78 7
def F78_q1 (R : Rt) : EQ := endQ prog f78.results.toList R
def F78_1 (R : Rt) (s0 : ByteArray) (ds : Ds) (w : World) : Prop :=
 Br (s0.toList == (⟨#[32, 32, 32, 32, 32, 32, 32, 32]⟩ : ByteArray).toList) (
 runD prog ds w fun w1 =>
 R (.returned (.tuple #[.int .i64 0, .bool true])) w1) (
 Br ((s0.size : Int) != 8) (
 runD prog ds w fun w2 =>
 R (.returned (.tuple #[.int .i64 0, .bool false])) w2) (
 Calls prog 30 #[.string s0, .string (⟨#[48, 49, 50, 51, 52, 53, 54, 55, 56, 57]⟩ : ByteArray)] w fun e w3 =>
 ∃ s13 : ByteArray, e = .returned (.string s13) /\
 Br (!(s13.toList == (⟨#[]⟩ : ByteArray).toList)) (
 runD prog ds w3 fun w4 =>
 R (.returned (.tuple #[.int .i64 0, .bool false])) w4) (
 dwE w3 fun w5 =>
 0 ≤ (4 : Int) /\ (4 : Int).toNat ≤ s0.size /\ 0 ≤ (4 : Int).toNat /\
 0 ≤ (6 : Int) /\ (6 : Int).toNat ≤ s0.size /\ 0 ≤ (4 : Int) /\ (4 : Int).toNat ≤ (6 : Int).toNat /\
 s0.size ≤ s0.size /\ 0 ≤ (6 : Int) /\ (6 : Int).toNat ≤ s0.size /\
 Calls prog 91 #[.string (s0.extract 0 ((4 : Int).toNat))] w5 fun e w6 =>
 ∃ n19 : Int, e = .returned (.int .i64 n19) /\
 Calls prog 91 #[.string (s0.extract ((4 : Int).toNat) ((6 : Int).toNat))] w6 fun e w7 =>
 ∃ n22 : Int, e = .returned (.int .i64 n22) /\
 Calls prog 91 #[.string (s0.extract ((6 : Int).toNat) s0.size)] w7 fun e w8 =>
 ∃ n25 : Int, e = .returned (.int .i64 n25) /\
 Calls prog 90 #[.int .i64 n19, .int .i64 n22, .int .i64 n25] w8 fun e w9 =>
 ∃ n26_0 : Int, ∃ n26_1 : Int, e = .returned (.tuple #[.int .i64 n26_0, .int .i64 n26_1]) /\
 runD prog ds w9 fun w10 =>
 R (.returned (.tuple #[.int .i64 n26_0, .bool (n26_1 == 0)])) w10)))
theorem c78_l : flat (bodyOf f78) = [c78_0, c78_1, c78_2, c78_3, c78_4, c78_5, c78_6, c78_7] := by kernel_rfl
theorem F78_1_ok (R : Rt) (s0 : ByteArray) (ds : Ds) (w : World) (E : Env) (e0 : E 0 = .string s0) (h : F78_1 R s0 ds w) :
    TrL prog f78.ntmps [c78_0, c78_1, c78_2, c78_3, c78_4, c78_5, c78_6, c78_7] (F78_q1 R) E ds w :=
  TrL_leaf (X := F78_1 R s0 ds w) (setAll_cons e0 setAll_nil) (by kernel_rfl) (by kernel_rfl) h
theorem F78_calls (s0 : ByteArray) (w : World) (R : Rt) (h : F78_1 R s0 [] w) : Calls prog 78 #[.string s0] w R :=
  calls_of_L (l := [c78_0, c78_1, c78_2, c78_3, c78_4, c78_5, c78_6, c78_7]) func78 (by kernel_rfl) (by rw [ntmps78]; exact Nat.le_of_ble_eq_true (by kernel_rfl)) c78_l
    (F78_1_ok R s0 [] w _ rfl h)
end Go.Proofs.YtlogipcgejfnnaaDoor

/- Shallow texts of functions, printed by program, each checked by the kernel against the loaded code. No condition. -/
set_option maxRecDepth 100000
set_option linter.unusedVariables false
namespace Go.Proofs.YtlogipcgejfnnaaDoor
open Go.Sh
open Tryd
end Go.Proofs.YtlogipcgejfnnaaDoor

/- Shallow texts of functions, printed by program, each checked by the kernel against the loaded code. No condition. -/
set_option maxRecDepth 100000
set_option linter.unusedVariables false
namespace Go.Proofs.YtlogipcgejfnnaaDoor
open Go.Sh
open Tryd
@[reducible] noncomputable def cI6 (f : Func) (i : Nat) : Code := itemAt (flat (bodyOf f)) i
noncomputable def c7_0 := cI6 f7 0
noncomputable def c7_1 := cI6 f7 1
noncomputable def c7_2 := cI6 f7 2
noncomputable def c7_3 := cI6 f7 3
noncomputable def c7_4 := cI6 f7 4
noncomputable def c7_5 := cI6 f7 5
noncomputable def c7_6 := cI6 f7 6
noncomputable def c7_7 := cI6 f7 7
noncomputable def c7_8 := cI6 f7 8
noncomputable def c7_9 := cI6 f7 9
noncomputable def c7_10 := cI6 f7 10
def F7_q1 (R : Rt) : EQ := endQ prog f7.results.toList R
def F7_1 (R : Rt) (s0 : ByteArray) (ds : Ds) (w : World) : Prop :=
 Br (decide ((s0.size : Int) > 4000)) (
 runD prog ds w fun w1 =>
 R (.returned (.tuple #[.slice none 0 0, .int .i64 0, .int .i64 3])) w1) (
 Calls prog 16 #[] w fun e w2 =>
 ∃ c11 : Array Value, c11.size = 256 /\ e = .returned (.agg c11) /\
 rawE prog (Instr.build 40 #[(0, .string s0), (2, .agg c11), (5, .int .i64 (-1))]) w2 fun b12 w3 =>
 alE (.cells ((b12).cells) 40) w3 fun r13 w4 =>
 Calls prog 18 #[.pointer (some (⟨r13, 0, none⟩ : Addr))] w4 fun e w5 =>
 ∃ v15 : Value, e = .returned (v15) /\
 Calls prog 17 #[v15] w5 fun e w6 =>
 ∃ l16 : SV, e = .returned (.slice l16.a l16.len l16.cap) /\
 ∃ n20 : Int, w6.cell? ((⟨r13, 0, none⟩ : Addr).add 260) = some (.int .i64 n20) /\
 Br (decide (n20 ≥ 0)) (
 dwE w6 fun w7 =>
 ∃ n25 : Int, w7.cell? ((⟨r13, 0, none⟩ : Addr).add 260) = some (.int .i64 n25) /\
 runD prog ds w7 fun w8 =>
 R (.returned (.tuple #[.slice none 0 0, .int .i64 n25, .int .i64 2])) w8) (
 Br (decide ((l16.len : Int) > 1200)) (
 runD prog ds w6 fun w9 =>
 R (.returned (.tuple #[.slice none 0 0, .int .i64 0, .int .i64 3])) w9) (
 runD prog ds w6 fun w10 =>
 R (.returned (.tuple #[.slice l16.a l16.len l16.cap, .int .i64 (l16.len : Int), .int .i64 0])) w10)))
theorem c7_l : flat (bodyOf f7) = [c7_0, c7_1, c7_2, c7_3, c7_4, c7_5, c7_6, c7_7, c7_8, c7_9, c7_10] := by kernel_rfl
theorem F7_1_ok (R : Rt) (s0 : ByteArray) (ds : Ds) (w : World) (E : Env) (e0 : E 0 = .string s0) (h : F7_1 R s0 ds w) :
    TrL prog f7.ntmps [c7_0, c7_1, c7_2, c7_3, c7_4, c7_5, c7_6, c7_7, c7_8, c7_9, c7_10] (F7_q1 R) E ds w :=
  TrL_leaf (X := F7_1 R s0 ds w) (setAll_cons e0 setAll_nil) (by kernel_rfl) (by kernel_rfl) h
theorem F7_calls (s0 : ByteArray) (w : World) (R : Rt) (h : F7_1 R s0 [] w) : Calls prog 7 #[.string s0] w R :=
  calls_of_L (l := [c7_0, c7_1, c7_2, c7_3, c7_4, c7_5, c7_6, c7_7, c7_8, c7_9, c7_10]) func7 (by kernel_rfl) (by rw [ntmps7]; exact Nat.le_of_ble_eq_true (by kernel_rfl)) c7_l
    (F7_1_ok R s0 [] w _ rfl h)
noncomputable def c17_0 := cI6 f17 0
noncomputable def c17_1 := cI6 f17 1
noncomputable def c17_2 := cI6 f17 2
def F17_q1 (R : Rt) : EQ := endQ prog f17.results.toList R
def F17_1 (R : Rt) (v0 : Value) (ds : Ds) (w : World) : Prop :=
 Calls prog 32 #[.slice none 0 0, v0] w fun e w1 =>
 ∃ l4 : SV, e = .returned (.slice l4.a l4.len l4.cap) /\
 runD prog ds w1 fun w2 =>
 R (.returned (.slice l4.a l4.len l4.cap)) w2
theorem c17_l : flat (bodyOf f17) = [c17_0, c17_1, c17_2] := by kernel_rfl
theorem F17_1_ok (R : Rt) (v0 : Value) (ds : Ds) (w : World) (E : Env) (e0 : E 0 = v0) (h : F17_1 R v0 ds w) :
    TrL prog f17.ntmps [c17_0, c17_1, c17_2] (F17_q1 R) E ds w :=
  TrL_leaf (X := F17_1 R v0 ds w) (setAll_cons e0 setAll_nil) (by kernel_rfl) (by kernel_rfl) h
theorem F17_calls (v0 : Value) (w : World) (R : Rt) (h : F17_1 R v0 [] w) : Calls prog 17 #[v0] w R :=
  calls_of_L (l := [c17_0, c17_1, c17_2]) func17 (by kernel_rfl) (by rw [ntmps17]; exact Nat.le_of_ble_eq_true (by kernel_rfl)) c17_l
    (F17_1_ok R v0 [] w _ rfl h)
noncomputable def c18_0 := cI6 f18 0
noncomputable def c18_1 := cI6 f18 1
noncomputable def c18_2 := cI6 f18 2
def F18_q1 (R : Rt) : EQ := endQ prog f18.results.toList R
def F18_1 (R : Rt) (p0 : Option Addr) (ds : Ds) (w : World) : Prop :=
 alE (.cells #[.pointer p0] 36) w fun r1 w1 =>
 runD prog ds w1 fun w2 =>
 R (.returned (.func (.func 33) #[] #[.pointer (some (⟨r1, 0, none⟩ : Addr))])) w2
theorem c18_l : flat (bodyOf f18) = [c18_0, c18_1, c18_2] := by kernel_rfl
theorem F18_1_ok (R : Rt) (p0 : Option Addr) (ds : Ds) (w : World) (E : Env) (e0 : E 0 = .pointer p0) (h : F18_1 R p0 ds w) :
    TrL prog f18.ntmps [c18_0, c18_1, c18_2] (F18_q1 R) E ds w :=
  TrL_leaf (X := F18_1 R p0 ds w) (setAll_cons e0 setAll_nil) (by kernel_rfl) (by kernel_rfl) h
theorem F18_calls (p0 : Option Addr) (w : World) (R : Rt) (h : F18_1 R p0 [] w) : Calls prog 18 #[.pointer p0] w R :=
  calls_of_L (l := [c18_0, c18_1, c18_2]) func18 (by kernel_rfl) (by rw [ntmps18]; exact Nat.le_of_ble_eq_true (by kernel_rfl)) c18_l
    (F18_1_ok R p0 [] w _ rfl h)
end Go.Proofs.YtlogipcgejfnnaaDoor

/- Shallow texts of functions, printed by program, each checked by the kernel against the loaded code. No condition. -/
set_option maxRecDepth 100000
set_option linter.unusedVariables false
namespace Go.Proofs.YtlogipcgejfnnaaDoor
open Go.Sh
open Tryd
@[reducible] noncomputable def cI7 (f : Func) (i : Nat) : Code := itemAt (flat (bodyOf f)) i
@[reducible] noncomputable def cJ7 (c : Code) (i : Nat) : Code := itemAt (flat (innerC c)) i
noncomputable def c37_0 := cI7 f37 0
noncomputable def c37_1 := cI7 f37 1
noncomputable def c37_2 := cI7 f37 2
noncomputable def c37_3 := cI7 f37 3
noncomputable def c37_4 := cI7 f37 4
def F37_q1 (R : Rt) : EQ := endQ prog f37.results.toList R
def F37_1 (R : Rt) (n0_0 n0_1 : Int) (s0_2 : ByteArray) (ds : Ds) (w : World) : Prop :=
 alE (.cells #[.int .i64 n0_0, .int .i64 n0_1, .string s0_2] 43) w fun r1 w1 =>
 ∃ n4 : Int, w1.cell? (⟨r1, 0, none⟩ : Addr) = some (.int .i64 n4) /\
 Br (n4 == 2) (
 ∃ s8 : ByteArray, w1.cell? ((⟨r1, 0, none⟩ : Addr).add 2) = some (.string s8) /\
 Calls prog 57 #[.string s8, .string (⟨#[34]⟩ : ByteArray)] w1 fun e w2 =>
 ∃ b9 : Bool, e = .returned (.bool b9) /\
 Br b9 (
 ∃ s11 : ByteArray, w2.cell? ((⟨r1, 0, none⟩ : Addr).add 2) = some (.string s11) /\
 (((⟨#[39]⟩ : ByteArray).size + s11.size : Nat) : Int) ≤ 9223372036854775807 /\
 ((((⟨#[39]⟩ : ByteArray) ++ s11).size + (⟨#[39]⟩ : ByteArray).size : Nat) : Int) ≤ 9223372036854775807 /\
 runD prog ds w2 fun w3 =>
 R (.returned (.string (((⟨#[39]⟩ : ByteArray) ++ s11) ++ (⟨#[39]⟩ : ByteArray)))) w3) (
 ∃ s15 : ByteArray, w2.cell? ((⟨r1, 0, none⟩ : Addr).add 2) = some (.string s15) /\
 (((⟨#[34]⟩ : ByteArray).size + s15.size : Nat) : Int) ≤ 9223372036854775807 /\
 ((((⟨#[34]⟩ : ByteArray) ++ s15).size + (⟨#[34]⟩ : ByteArray).size : Nat) : Int) ≤ 9223372036854775807 /\
 runD prog ds w2 fun w4 =>
 R (.returned (.string (((⟨#[34]⟩ : ByteArray) ++ s15) ++ (⟨#[34]⟩ : ByteArray)))) w4)) (
 Br (n4 == 3) (
 ∃ s21 : ByteArray, w1.cell? ((⟨r1, 0, none⟩ : Addr).add 2) = some (.string s21) /\
 Br ((s21.size : Int) != 8) (
 ∃ s25 : ByteArray, w1.cell? ((⟨r1, 0, none⟩ : Addr).add 2) = some (.string s25) /\
 (((⟨#[123]⟩ : ByteArray).size + s25.size : Nat) : Int) ≤ 9223372036854775807 /\
 ((((⟨#[123]⟩ : ByteArray) ++ s25).size + (⟨#[125]⟩ : ByteArray).size : Nat) : Int) ≤ 9223372036854775807 /\
 runD prog ds w1 fun w5 =>
 R (.returned (.string (((⟨#[123]⟩ : ByteArray) ++ s25) ++ (⟨#[125]⟩ : ByteArray)))) w5) (
 dwE w1 fun w6 =>
 ∃ s29 : ByteArray, w6.cell? ((⟨r1, 0, none⟩ : Addr).add 2) = some (.string s29) /\
 0 ≤ (4 : Int) /\ (4 : Int).toNat ≤ s29.size /\ 0 ≤ (4 : Int).toNat /\
 (((⟨#[123, 94]⟩ : ByteArray).size + (s29.extract 0 ((4 : Int).toNat)).size : Nat) : Int) ≤ 9223372036854775807 /\
 ((((⟨#[123, 94]⟩ : ByteArray) ++ (s29.extract 0 ((4 : Int).toNat))).size + (⟨#[45]⟩ : ByteArray).size : Nat) : Int) ≤ 9223372036854775807 /\
 ∃ s34 : ByteArray, w6.cell? ((⟨r1, 0, none⟩ : Addr).add 2) = some (.string s34) /\
 0 ≤ (6 : Int) /\ (6 : Int).toNat ≤ s34.size /\ 0 ≤ (4 : Int) /\ (4 : Int).toNat ≤ (6 : Int).toNat /\
 (((((⟨#[123, 94]⟩ : ByteArray) ++ (s29.extract 0 ((4 : Int).toNat))) ++ (⟨#[45]⟩ : ByteArray)).size + (s34.extract ((4 : Int).toNat) ((6 : Int).toNat)).size : Nat) : Int) ≤ 9223372036854775807 /\
 ((((((⟨#[123, 94]⟩ : ByteArray) ++ (s29.extract 0 ((4 : Int).toNat))) ++ (⟨#[45]⟩ : ByteArray)) ++ (s34.extract ((4 : Int).toNat) ((6 : Int).toNat))).size + (⟨#[45]⟩ : ByteArray).size : Nat) : Int) ≤ 9223372036854775807 /\
 ∃ s39 : ByteArray, w6.cell? ((⟨r1, 0, none⟩ : Addr).add 2) = some (.string s39) /\
 s39.size ≤ s39.size /\ 0 ≤ (6 : Int) /\ (6 : Int).toNat ≤ s39.size /\
 (((((((⟨#[123, 94]⟩ : ByteArray) ++ (s29.extract 0 ((4 : Int).toNat))) ++ (⟨#[45]⟩ : ByteArray)) ++ (s34.extract ((4 : Int).toNat) ((6 : Int).toNat))) ++ (⟨#[45]⟩ : ByteArray)).size + (s39.extract ((6 : Int).toNat) s39.size).size : Nat) : Int) ≤ 9223372036854775807 /\
 ((((((((⟨#[123, 94]⟩ : ByteArray) ++ (s29.extract 0 ((4 : Int).toNat))) ++ (⟨#[45]⟩ : ByteArray)) ++ (s34.extract ((4 : Int).toNat) ((6 : Int).toNat))) ++ (⟨#[45]⟩ : ByteArray)) ++ (s39.extract ((6 : Int).toNat) s39.size)).size + (⟨#[125]⟩ : ByteArray).size : Nat) : Int) ≤ 9223372036854775807 /\
 runD prog ds w6 fun w7 =>
 R (.returned (.string (((((((⟨#[123, 94]⟩ : ByteArray) ++ (s29.extract 0 ((4 : Int).toNat))) ++ (⟨#[45]⟩ : ByteArray)) ++ (s34.extract ((4 : Int).toNat) ((6 : Int).toNat))) ++ (⟨#[45]⟩ : ByteArray)) ++ (s39.extract ((6 : Int).toNat) s39.size)) ++ (⟨#[125]⟩ : ByteArray)))) w7)) (
 ∃ s44 : ByteArray, w1.cell? ((⟨r1, 0, none⟩ : Addr).add 2) = some (.string s44) /\
 runD prog ds w1 fun w8 =>
 R (.returned (.string s44)) w8))
theorem c37_l : flat (bodyOf f37) = [c37_0, c37_1, c37_2, c37_3, c37_4] := by kernel_rfl
theorem F37_1_ok (R : Rt) (n0_0 n0_1 : Int) (s0_2 : ByteArray) (ds : Ds) (w : World) (E : Env) (e0 : E 0 = .agg #[.int .i64 n0_0, .int .i64 n0_1, .string s0_2]) (h : F37_1 R n0_0 n0_1 s0_2 ds w) :
    TrL prog f37.ntmps [c37_0, c37_1, c37_2, c37_3, c37_4] (F37_q1 R) E ds w :=
  TrL_leaf (X := F37_1 R n0_0 n0_1 s0_2 ds w) (setAll_cons e0 setAll_nil) (by kernel_rfl) (by kernel_rfl) h
theorem F37_calls (n0_0 n0_1 : Int) (s0_2 : ByteArray) (w : World) (R : Rt) (h : F37_1 R n0_0 n0_1 s0_2 [] w) : Calls prog 37 #[.agg #[.int .i64 n0_0, .int .i64 n0_1, .string s0_2]] w R :=
  calls_of_L (l := [c37_0, c37_1, c37_2, c37_3, c37_4]) func37 (by kernel_rfl) (by rw [ntmps37]; exact Nat.le_of_ble_eq_true (by kernel_rfl)) c37_l
    (F37_1_ok R n0_0 n0_1 s0_2 [] w _ rfl h)
noncomputable def c19_0 := cI7 f19 0
noncomputable def c19_1 := cI7 f19 1
noncomputable def c19_2 := cI7 f19 2
noncomputable def c19_3 := cI7 f19 3
noncomputable def c19_4 := cI7 f19 4
noncomputable def c19_5 := cI7 f19 5
noncomputable def c19_6 := cI7 f19 6
noncomputable def c19_4_0 := cJ7 c19_4 0
noncomputable def c19_4_0_0 := cJ7 c19_4_0 0
noncomputable def c19_4_0_1 := cJ7 c19_4_0 1
noncomputable def c19_4_0_2 := cJ7 c19_4_0 2
noncomputable def c19_4_0_3 := cJ7 c19_4_0 3
def F19_q1 (R : Rt) : EQ := endQ prog f19.results.toList R
def F19_1 (R : Rt) (p3 : Option Addr) (ds : Ds) (w : World) : Prop :=
 Calls prog 38 #[.pointer p3] w fun e w1 =>
 ∃ s23 : ByteArray, e = .returned (.string s23) /\
 runD prog ds w1 fun w2 =>
 R (.returned (.string s23)) w2
def F19_k2 (R : Rt) : EP := (fun E ds w => dPtr (E 3) fun p3 => F19_1 R p3 ds w)
def F19_q3 (R : Rt) : EQ := (thenQ (F19_k2 R) (F19_q1 R))
def F19_q4 (R : Rt) : EQ := (blockQ 0 (F19_q3 R))
def F19_q5 (R : Rt) (J1 : (Bool × Int) -> World -> Prop) : EQ := (thenQ (fun E _ w => dBl (E 4) fun b4 => dInt .i64 (E 9) fun n9 => J1 (b4, n9) w) (F19_q4 R))
def F19_2 (R : Rt) (J1 : (Bool × Int) -> World -> Prop) (p3 : Option Addr) (b4 : Bool) (l7 : SV) (n8 n9 : Int) (ds : Ds) (w : World) : Prop :=
 Br (decide (n9 < n8)) (
 ∃ a3 : Addr, l7.a = some a3 /\ 0 ≤ n9 /\ n9 < (l7.len : Int) /\
 ∃ n12_0 : Int, w.cell? ((a3.add (n9.toNat * 3)).add 0) = some (.int .i64 n12_0) /\
 ∃ n12_1 : Int, w.cell? ((a3.add (n9.toNat * 3)).add 1) = some (.int .i64 n12_1) /\
 ∃ s12_2 : ByteArray, w.cell? ((a3.add (n9.toNat * 3)).add 2) = some (.string s12_2) /\
 alE (.cells #[.int .i64 0, .int .i64 0, .string (⟨#[]⟩ : ByteArray)] 43) w fun r6 w4 =>
 stA prog 43 (⟨r6, 0, none⟩ : Addr) #[.int .i64 n12_0, .int .i64 n12_1, .string s12_2] w4 fun w5 =>
 ∃ n14 : Int, w5.cell? (⟨r6, 0, none⟩ : Addr) = some (.int .i64 n14) /\
 Br (n14 == 5) (
 Calls prog 35 #[.pointer p3, .int .u8 10] w5 fun e w6 =>
 ∃ v16 : Value, e = .returned (v16) /\
 J1 (false, (IntKind.i64.wrap (n9 + 1))) w6) (
 Br b4 (
 Calls prog 35 #[.pointer p3, .int .u8 32] w5 fun e w7 =>
 ∃ v18 : Value, e = .returned (v18) /\
 ∃ n19_0 : Int, w7.cell? ((⟨r6, 0, none⟩ : Addr).add 0) = some (.int .i64 n19_0) /\
 ∃ n19_1 : Int, w7.cell? ((⟨r6, 0, none⟩ : Addr).add 1) = some (.int .i64 n19_1) /\
 ∃ s19_2 : ByteArray, w7.cell? ((⟨r6, 0, none⟩ : Addr).add 2) = some (.string s19_2) /\
 Calls prog 37 #[.agg #[.int .i64 n19_0, .int .i64 n19_1, .string s19_2]] w7 fun e w8 =>
 ∃ s20 : ByteArray, e = .returned (.string s20) /\
 Calls prog 36 #[.pointer p3, .string s20] w8 fun e w9 =>
 ∃ n21_0 : Int, ∃ v21_1 : Value, e = .returned (.tuple #[.int .i64 n21_0, v21_1]) /\
 J1 (true, (IntKind.i64.wrap (n9 + 1))) w9) (
 ∃ n19_0 : Int, w5.cell? ((⟨r6, 0, none⟩ : Addr).add 0) = some (.int .i64 n19_0) /\
 ∃ n19_1 : Int, w5.cell? ((⟨r6, 0, none⟩ : Addr).add 1) = some (.int .i64 n19_1) /\
 ∃ s19_2 : ByteArray, w5.cell? ((⟨r6, 0, none⟩ : Addr).add 2) = some (.string s19_2) /\
 Calls prog 37 #[.agg #[.int .i64 n19_0, .int .i64 n19_1, .string s19_2]] w5 fun e w10 =>
 ∃ s20 : ByteArray, e = .returned (.string s20) /\
 Calls prog 36 #[.pointer p3, .string s20] w10 fun e w11 =>
 ∃ n21_0 : Int, ∃ v21_1 : Value, e = .returned (.tuple #[.int .i64 n21_0, v21_1]) /\
 J1 (true, (IntKind.i64.wrap (n9 + 1))) w11))) (
 F19_1 R p3 ds w)
def F19_3 (R : Rt) (p3 : Option Addr) (b4 : Bool) (l7 : SV) (n8 n9 : Int) (ds : Ds) (w : World) : Prop :=
 loopT (fun (J1 : (Bool × Int) -> World -> Prop) (s : Bool × Int) (w : World) => F19_2 R J1 p3 s.1 l7 n8 s.2 ds w) (b4, n9) w
abbrev F19_4 (R : Rt) (p3 : Option Addr) (b4 : Bool) (l7 : SV) (n8 n9 : Int) (ds : Ds) (w : World) : Prop := F19_3 R p3 b4 l7 n8 n9 ds w
def F19_k6 (R : Rt) : EP := (fun E ds w => dPtr (E 3) fun p3 => dBl (E 4) fun b4 => dSl (E 7) fun l7 => dInt .i64 (E 8) fun n8 => dInt .i64 (E 9) fun n9 => F19_4 R p3 b4 l7 n8 n9 ds w)
def F19_5 (R : Rt) (l0 : SV) (ds : Ds) (w : World) : Prop :=
 alE (.cells #[.pointer none, .slice none 0 0] 63) w fun r3 w12 =>
 F19_4 R (some (⟨r3, 0, none⟩ : Addr)) false l0 (l0.len : Int) 0 ds w12
theorem c19_l : flat (bodyOf f19) = [c19_0, c19_1, c19_2, c19_3, c19_4, c19_5, c19_6] := by kernel_rfl
theorem c19_4_l : flat (innerC c19_4) = [c19_4_0] := by kernel_rfl
theorem c19_4_0_l : flat (innerC c19_4_0) = [c19_4_0_0, c19_4_0_1, c19_4_0_2, c19_4_0_3] := by kernel_rfl
theorem F19_1_ok (R : Rt) (p3 : Option Addr) (ds : Ds) (w : World) (E : Env) (e3 : E 3 = .pointer p3) (h : F19_1 R p3 ds w) :
    TrL prog f19.ntmps [c19_5, c19_6] (F19_q1 R) E ds w :=
  TrL_leaf (X := F19_1 R p3 ds w) (setAll_cons e3 setAll_nil) (by kernel_rfl) (by kernel_rfl) h
theorem F19_2_ok (R : Rt) (J1 : (Bool × Int) -> World -> Prop) (p3 : Option Addr) (b4 : Bool) (l7 : SV) (n8 n9 : Int) (ds : Ds) (w : World) (E : Env) (e3 : E 3 = .pointer p3) (e4 : E 4 = .bool b4) (e7 : E 7 = .slice l7.a l7.len l7.cap) (e8 : E 8 = .int .i64 n8) (e9 : E 9 = .int .i64 n9) (h : F19_2 R J1 p3 b4 l7 n8 n9 ds w) :
    TrL prog f19.ntmps [c19_4_0_0, c19_4_0_1, c19_4_0_2, c19_4_0_3] (F19_q5 R J1) E ds w :=
  TrL_leaf (X := F19_2 R J1 p3 b4 l7 n8 n9 ds w) (setAll_cons e3 (setAll_cons e4 (setAll_cons e7 (setAll_cons e8 (setAll_cons e9 setAll_nil))))) (by kernel_rfl) (by kernel_rfl) h
theorem F19_3_ok (R : Rt) (p3 : Option Addr) (b4 : Bool) (l7 : SV) (n8 n9 : Int) (ds : Ds) (w : World) (E : Env) (e3 : E 3 = .pointer p3) (e4 : E 4 = .bool b4) (e7 : E 7 = .slice l7.a l7.len l7.cap) (e8 : E 8 = .int .i64 n8) (e9 : E 9 = .int .i64 n9) (h : F19_3 R p3 b4 l7 n8 n9 ds w) :
    TrL prog f19.ntmps [c19_4_0] (F19_q4 R) E ds w :=
  TrL_one (Tr_loop' (c := innerC c19_4_0) (σ := Bool × Int) (enc := (fun (s : Bool × Int) (E : Env) => E 4 = .bool s.1 /\ E 9 = .int .i64 s.2)) (D := (fun E K => dBl (E 4) fun b4 => dInt .i64 (E 9) fun n9 => K (b4, n9))) (F := (fun (J1 : (Bool × Int) -> World -> Prop) (s : Bool × Int) (w : World) => F19_2 R J1 p3 s.1 l7 n8 s.2 ds w)) (s0 := (b4, n9)) (by kernel_rfl) c19_4_0_l ⟨e4, e9⟩ (by kernel_rfl) (fun E K hD => by obtain ⟨b4, e4, hD⟩ := dBl_elim hD; obtain ⟨n9, e9, hD⟩ := dInt_elim hD; exact ⟨(b4, n9), ⟨e4, e9⟩, hD⟩)
      (fun J1 s E' w' he ha hF => by
      obtain ⟨e4', e9'⟩ := he
      exact F19_2_ok R J1 p3 s.1 l7 n8 s.2 ds w' E' ((ha 3 (by kernel_rfl)).trans e3) e4' ((ha 7 (by kernel_rfl)).trans e7) ((ha 8 (by kernel_rfl)).trans e8) e9' hF) h)
theorem F19_4_ok (R : Rt) (p3 : Option Addr) (b4 : Bool) (l7 : SV) (n8 n9 : Int) (ds : Ds) (w : World) (E : Env) (e3 : E 3 = .pointer p3) (e4 : E 4 = .bool b4) (e7 : E 7 = .slice l7.a l7.len l7.cap) (e8 : E 8 = .int .i64 n8) (e9 : E 9 = .int .i64 n9) (h : F19_4 R p3 b4 l7 n8 n9 ds w) :
    TrL prog f19.ntmps [c19_4, c19_5, c19_6] (F19_q1 R) E ds w :=
  TrL_head (K := (F19_k2 R)) (Tr_block' (c := innerC c19_4) (by kernel_rfl) c19_4_l (F19_3_ok R p3 b4 l7 n8 n9 ds w E e3 e4 e7 e8 e9 h))
    (fun E' ds' w' hD => by
      obtain ⟨p3, e3, hD⟩ := dPtr_elim hD; exact F19_1_ok R p3 ds' w' E' e3 hD)
theorem F19_5_ok (R : Rt) (l0 : SV) (ds : Ds) (w : World) (E : Env) (e0 : E 0 = .slice l0.a l0.len l0.cap) (h : F19_5 R l0 ds w) :
    TrL prog f19.ntmps [c19_0, c19_1, c19_2, c19_3, c19_4, c19_5, c19_6] (F19_q1 R) E ds w :=
  TrL_piece (pre := [c19_0, c19_1, c19_2, c19_3]) (K := (F19_k6 R)) (X := F19_5 R l0 ds w) (setAll_cons e0 setAll_nil) (by kernel_rfl) (by kernel_rfl)
    (fun E' ds' w' hD => by
      obtain ⟨p3, e3, hD⟩ := dPtr_elim hD; obtain ⟨b4, e4, hD⟩ := dBl_elim hD; obtain ⟨l7, e7, hD⟩ := dSl_elim hD; obtain ⟨n8, e8, hD⟩ := dInt_elim hD; obtain ⟨n9, e9, hD⟩ := dInt_elim hD; exact F19_4_ok R p3 b4 l7 n8 n9 ds' w' E' e3 e4 e7 e8 e9 hD) h
theorem F19_calls (l0 : SV) (w : World) (R : Rt) (h : F19_5 R l0 [] w) : Calls prog 19 #[.slice l0.a l0.len l0.cap] w R :=
  calls_of_L (l := [c19_0, c19_1, c19_2, c19_3, c19_4, c19_5, c19_6]) func19 (by kernel_rfl) (by rw [ntmps19]; exact Nat.le_of_ble_eq_true (by kernel_rfl)) c19_l
    (F19_5_ok R l0 [] w _ rfl h)
noncomputable def c8_0 := cI7 f8 0
noncomputable def c8_1 := cI7 f8 1
noncomputable def c8_2 := cI7 f8 2
noncomputable def c8_3 := cI7 f8 3
noncomputable def c8_4 := cI7 f8 4
noncomputable def c8_5 := cI7 f8 5
noncomputable def c8_6 := cI7 f8 6
noncomputable def c8_7 := cI7 f8 7
noncomputable def c8_8 := cI7 f8 8
def F8_q1 (R : Rt) : EQ := endQ prog f8.results.toList R
def F8_1 (R : Rt) (l0 : SV) (ds : Ds) (w : World) : Prop :=
 Calls prog 19 #[.slice l0.a l0.len l0.cap] w fun e w1 =>
 ∃ s9 : ByteArray, e = .returned (.string s9) /\
 Calls prog 7 #[.string s9] w1 fun e w2 =>
 ∃ l12_0 : SV, ∃ n12_1 : Int, ∃ n12_2 : Int, e = .returned (.tuple #[.slice l12_0.a l12_0.len l12_0.cap, .int .i64 n12_1, .int .i64 n12_2]) /\
 Br (n12_2 != 0) (
 runD prog ds w2 fun w3 =>
 R (.returned (.tuple #[.string (⟨#[]⟩ : ByteArray), .int .i64 n12_2])) w3) (
 Calls prog 9 #[.slice l12_0.a l12_0.len l12_0.cap, .slice l0.a l0.len l0.cap] w2 fun e w4 =>
 ∃ b21 : Bool, e = .returned (.bool b21) /\
 Br (!b21) (
 runD prog ds w4 fun w5 =>
 R (.returned (.tuple #[.string (⟨#[]⟩ : ByteArray), .int .i64 1])) w5) (
 runD prog ds w4 fun w6 =>
 R (.returned (.tuple #[.string s9, .int .i64 0])) w6))
theorem c8_l : flat (bodyOf f8) = [c8_0, c8_1, c8_2, c8_3, c8_4, c8_5, c8_6, c8_7, c8_8] := by kernel_rfl
theorem F8_1_ok (R : Rt) (l0 : SV) (ds : Ds) (w : World) (E : Env) (e0 : E 0 = .slice l0.a l0.len l0.cap) (h : F8_1 R l0 ds w) :
    TrL prog f8.ntmps [c8_0, c8_1, c8_2, c8_3, c8_4, c8_5, c8_6, c8_7, c8_8] (F8_q1 R) E ds w :=
  TrL_leaf (X := F8_1 R l0 ds w) (setAll_cons e0 setAll_nil) (by kernel_rfl) (by kernel_rfl) h
theorem F8_calls (l0 : SV) (w : World) (R : Rt) (h : F8_1 R l0 [] w) : Calls prog 8 #[.slice l0.a l0.len l0.cap] w R :=
  calls_of_L (l := [c8_0, c8_1, c8_2, c8_3, c8_4, c8_5, c8_6, c8_7, c8_8]) func8 (by kernel_rfl) (by rw [ntmps8]; exact Nat.le_of_ble_eq_true (by kernel_rfl)) c8_l
    (F8_1_ok R l0 [] w _ rfl h)
end Go.Proofs.YtlogipcgejfnnaaDoor

/- Shallow texts of functions, printed by program, each checked by the kernel against the loaded code. No condition. -/
set_option maxRecDepth 100000
set_option linter.unusedVariables false
namespace Go.Proofs.YtlogipcgejfnnaaDoor
open Go.Sh
open Tryd
@[reducible] noncomputable def cI8 (f : Func) (i : Nat) : Code := itemAt (flat (bodyOf f)) i
@[reducible] noncomputable def cJ8 (c : Code) (i : Nat) : Code := itemAt (flat (innerC c)) i
noncomputable def c9_0 := cI8 f9 0
noncomputable def c9_1 := cI8 f9 1
noncomputable def c9_2 := cI8 f9 2
def F9_q1 (R : Rt) : EQ := endQ prog f9.results.toList R
def F9_1 (R : Rt) (l0 l1 : SV) (ds : Ds) (w : World) : Prop :=
 Calls prog 20 #[.slice l0.a l0.len l0.cap, .slice l1.a l1.len l1.cap, .func (.func 21) #[] #[]] w fun e w1 =>
 ∃ b7 : Bool, e = .returned (.bool b7) /\
 runD prog ds w1 fun w2 =>
 R (.returned (.bool b7)) w2
theorem c9_l : flat (bodyOf f9) = [c9_0, c9_1, c9_2] := by kernel_rfl
theorem F9_1_ok (R : Rt) (l0 l1 : SV) (ds : Ds) (w : World) (E : Env) (e0 : E 0 = .slice l0.a l0.len l0.cap) (e1 : E 1 = .slice l1.a l1.len l1.cap) (h : F9_1 R l0 l1 ds w) :
    TrL prog f9.ntmps [c9_0, c9_1, c9_2] (F9_q1 R) E ds w :=
  TrL_leaf (X := F9_1 R l0 l1 ds w) (setAll_cons e0 (setAll_cons e1 setAll_nil)) (by kernel_rfl) (by kernel_rfl) h
theorem F9_calls (l0 l1 : SV) (w : World) (R : Rt) (h : F9_1 R l0 l1 [] w) : Calls prog 9 #[.slice l0.a l0.len l0.cap, .slice l1.a l1.len l1.cap] w R :=
  calls_of_L (l := [c9_0, c9_1, c9_2]) func9 (by kernel_rfl) (by rw [ntmps9]; exact Nat.le_of_ble_eq_true (by kernel_rfl)) c9_l
    (F9_1_ok R l0 l1 [] w _ rfl rfl h)
noncomputable def c20_0 := cI8 f20 0
noncomputable def c20_1 := cI8 f20 1
noncomputable def c20_2 := cI8 f20 2
noncomputable def c20_3 := cI8 f20 3
noncomputable def c20_4 := cI8 f20 4
noncomputable def c20_5 := cI8 f20 5
noncomputable def c20_6 := cI8 f20 6
noncomputable def c20_4_0 := cJ8 c20_4 0
noncomputable def c20_4_0_0 := cJ8 c20_4_0 0
noncomputable def c20_4_0_1 := cJ8 c20_4_0 1
noncomputable def c20_4_0_2 := cJ8 c20_4_0 2
noncomputable def c20_4_0_3 := cJ8 c20_4_0 3
def F20_q1 (R : Rt) : EQ := endQ prog f20.results.toList R
def F20_1 (R : Rt) (ds : Ds) (w : World) : Prop :=
 runD prog ds w fun w1 =>
 R (.returned (.bool true)) w1
def F20_k2 (R : Rt) : EP := (fun E ds w => F20_1 R ds w)
def F20_q3 (R : Rt) : EQ := (thenQ (F20_k2 R) (F20_q1 R))
def F20_q4 (R : Rt) : EQ := (blockQ 0 (F20_q3 R))
def F20_q5 (R : Rt) (J1 : (Int) -> World -> Prop) : EQ := (thenQ (fun E _ w => dInt .i64 (E 17) fun n17 => J1 n17 w) (F20_q4 R))
def F20_2 (R : Rt) (J1 : (Int) -> World -> Prop) (l1 : SV) (v2 : Value) (l15 : SV) (n16 n17 : Int) (ds : Ds) (w : World) : Prop :=
 Br (decide (n17 < n16)) (
 ∃ a2 : Addr, l15.a = some a2 /\ 0 ≤ n17 /\ n17 < (l15.len : Int) /\
 ∃ n21_0 : Int, w.cell? ((a2.add (n17.toNat * 3)).add 0) = some (.int .i64 n21_0) /\
 ∃ n21_1 : Int, w.cell? ((a2.add (n17.toNat * 3)).add 1) = some (.int .i64 n21_1) /\
 ∃ s21_2 : ByteArray, w.cell? ((a2.add (n17.toNat * 3)).add 2) = some (.string s21_2) /\
 alE (.cells #[.int .i64 0, .int .i64 0, .string (⟨#[]⟩ : ByteArray)] 43) w fun r8 w3 =>
 stA prog 43 (⟨r8, 0, none⟩ : Addr) #[.int .i64 n21_0, .int .i64 n21_1, .string s21_2] w3 fun w4 =>
 ∃ a5 : Addr, l1.a = some a5 /\ 0 ≤ n17 /\ n17 < (l1.len : Int) /\
 ∃ n25_0 : Int, w4.cell? ((a5.add (n17.toNat * 3)).add 0) = some (.int .i64 n25_0) /\
 ∃ n25_1 : Int, w4.cell? ((a5.add (n17.toNat * 3)).add 1) = some (.int .i64 n25_1) /\
 ∃ s25_2 : ByteArray, w4.cell? ((a5.add (n17.toNat * 3)).add 2) = some (.string s25_2) /\
 alE (.cells #[.int .i64 0, .int .i64 0, .string (⟨#[]⟩ : ByteArray)] 43) w4 fun r9 w6 =>
 stA prog 43 (⟨r9, 0, none⟩ : Addr) #[.int .i64 n25_0, .int .i64 n25_1, .string s25_2] w6 fun w7 =>
 ∃ n27_0 : Int, w7.cell? ((⟨r8, 0, none⟩ : Addr).add 0) = some (.int .i64 n27_0) /\
 ∃ n27_1 : Int, w7.cell? ((⟨r8, 0, none⟩ : Addr).add 1) = some (.int .i64 n27_1) /\
 ∃ s27_2 : ByteArray, w7.cell? ((⟨r8, 0, none⟩ : Addr).add 2) = some (.string s27_2) /\
 ∃ n28_0 : Int, w7.cell? ((⟨r9, 0, none⟩ : Addr).add 0) = some (.int .i64 n28_0) /\
 ∃ n28_1 : Int, w7.cell? ((⟨r9, 0, none⟩ : Addr).add 1) = some (.int .i64 n28_1) /\
 ∃ s28_2 : ByteArray, w7.cell? ((⟨r9, 0, none⟩ : Addr).add 2) = some (.string s28_2) /\
 fnE v2 fun f29 first29 cap29 =>
 hasBody prog f29 = true /\ Calls prog f29 (first29.toList ++ (([.agg #[.int .i64 n27_0, .int .i64 n27_1, .string s27_2], .agg #[.int .i64 n28_0, .int .i64 n28_1, .string s28_2]] : List Value) ++ cap29.toList)).toArray w7 fun e w8 =>
 ∃ b29 : Bool, e = .returned (.bool b29) /\
 Br (!b29) (
 runD prog ds w8 fun w9 =>
 R (.returned (.bool false)) w9) (
 J1 (IntKind.i64.wrap (n17 + 1)) w8)) (
 F20_1 R ds w)
def F20_3 (R : Rt) (l1 : SV) (v2 : Value) (l15 : SV) (n16 n17 : Int) (ds : Ds) (w : World) : Prop :=
 loopT (fun (J1 : (Int) -> World -> Prop) (s : Int) (w : World) => F20_2 R J1 l1 v2 l15 n16 s ds w) n17 w
abbrev F20_4 (R : Rt) (l1 : SV) (v2 : Value) (l15 : SV) (n16 n17 : Int) (ds : Ds) (w : World) : Prop := F20_3 R l1 v2 l15 n16 n17 ds w
def F20_k6 (R : Rt) : EP := (fun E ds w => dSl (E 1) fun l1 => dSl (E 15) fun l15 => dInt .i64 (E 16) fun n16 => dInt .i64 (E 17) fun n17 => F20_4 R l1 (E 2) l15 n16 n17 ds w)
def F20_5 (R : Rt) (l0 l1 : SV) (v2 : Value) (ds : Ds) (w : World) : Prop :=
 Br ((l0.len : Int) != (l1.len : Int)) (
 runD prog ds w fun w10 =>
 R (.returned (.bool false)) w10) (
 F20_4 R l1 (v2) l0 (l0.len : Int) 0 ds w)
theorem c20_l : flat (bodyOf f20) = [c20_0, c20_1, c20_2, c20_3, c20_4, c20_5, c20_6] := by kernel_rfl
theorem c20_4_l : flat (innerC c20_4) = [c20_4_0] := by kernel_rfl
theorem c20_4_0_l : flat (innerC c20_4_0) = [c20_4_0_0, c20_4_0_1, c20_4_0_2, c20_4_0_3] := by kernel_rfl
theorem F20_1_ok (R : Rt) (ds : Ds) (w : World) (E : Env) (h : F20_1 R ds w) :
    TrL prog f20.ntmps [c20_5, c20_6] (F20_q1 R) E ds w :=
  TrL_leaf (X := F20_1 R ds w) setAll_nil (by kernel_rfl) (by kernel_rfl) h
theorem F20_2_ok (R : Rt) (J1 : (Int) -> World -> Prop) (l1 : SV) (v2 : Value) (l15 : SV) (n16 n17 : Int) (ds : Ds) (w : World) (E : Env) (e1 : E 1 = .slice l1.a l1.len l1.cap) (e2 : E 2 = v2) (e15 : E 15 = .slice l15.a l15.len l15.cap) (e16 : E 16 = .int .i64 n16) (e17 : E 17 = .int .i64 n17) (h : F20_2 R J1 l1 v2 l15 n16 n17 ds w) :
    TrL prog f20.ntmps [c20_4_0_0, c20_4_0_1, c20_4_0_2, c20_4_0_3] (F20_q5 R J1) E ds w :=
  TrL_leaf (X := F20_2 R J1 l1 v2 l15 n16 n17 ds w) (setAll_cons e1 (setAll_cons e2 (setAll_cons e15 (setAll_cons e16 (setAll_cons e17 setAll_nil))))) (by kernel_rfl) (by kernel_rfl) h
theorem F20_3_ok (R : Rt) (l1 : SV) (v2 : Value) (l15 : SV) (n16 n17 : Int) (ds : Ds) (w : World) (E : Env) (e1 : E 1 = .slice l1.a l1.len l1.cap) (e2 : E 2 = v2) (e15 : E 15 = .slice l15.a l15.len l15.cap) (e16 : E 16 = .int .i64 n16) (e17 : E 17 = .int .i64 n17) (h : F20_3 R l1 v2 l15 n16 n17 ds w) :
    TrL prog f20.ntmps [c20_4_0] (F20_q4 R) E ds w :=
  TrL_one (Tr_loop' (c := innerC c20_4_0) (σ := Int) (enc := (fun (s : Int) (E : Env) => E 17 = .int .i64 s)) (D := (fun E K => dInt .i64 (E 17) fun n17 => K n17)) (F := (fun (J1 : (Int) -> World -> Prop) (s : Int) (w : World) => F20_2 R J1 l1 v2 l15 n16 s ds w)) (s0 := n17) (by kernel_rfl) c20_4_0_l e17 (by kernel_rfl) (fun E K hD => by obtain ⟨n17, e17, hD⟩ := dInt_elim hD; exact ⟨n17, e17, hD⟩)
      (fun J1 s E' w' he ha hF => by
      have e17' := he
      exact F20_2_ok R J1 l1 v2 l15 n16 s ds w' E' ((ha 1 (by kernel_rfl)).trans e1) ((ha 2 (by kernel_rfl)).trans e2) ((ha 15 (by kernel_rfl)).trans e15) ((ha 16 (by kernel_rfl)).trans e16) e17' hF) h)
theorem F20_4_ok (R : Rt) (l1 : SV) (v2 : Value) (l15 : SV) (n16 n17 : Int) (ds : Ds) (w : World) (E : Env) (e1 : E 1 = .slice l1.a l1.len l1.cap) (e2 : E 2 = v2) (e15 : E 15 = .slice l15.a l15.len l15.cap) (e16 : E 16 = .int .i64 n16) (e17 : E 17 = .int .i64 n17) (h : F20_4 R l1 v2 l15 n16 n17 ds w) :
    TrL prog f20.ntmps [c20_4, c20_5, c20_6] (F20_q1 R) E ds w :=
  TrL_head (K := (F20_k2 R)) (Tr_block' (c := innerC c20_4) (by kernel_rfl) c20_4_l (F20_3_ok R l1 v2 l15 n16 n17 ds w E e1 e2 e15 e16 e17 h))
    (fun E' ds' w' hD => by
      exact F20_1_ok R ds' w' E'  hD)
theorem F20_5_ok (R : Rt) (l0 l1 : SV) (v2 : Value) (ds : Ds) (w : World) (E : Env) (e0 : E 0 = .slice l0.a l0.len l0.cap) (e1 : E 1 = .slice l1.a l1.len l1.cap) (e2 : E 2 = v2) (h : F20_5 R l0 l1 v2 ds w) :
    TrL prog f20.ntmps [c20_0, c20_1, c20_2, c20_3, c20_4, c20_5, c20_6] (F20_q1 R) E ds w :=
  TrL_piece (pre := [c20_0, c20_1, c20_2, c20_3]) (K := (F20_k6 R)) (X := F20_5 R l0 l1 v2 ds w) (setAll_cons e0 (setAll_cons e1 (setAll_cons e2 setAll_nil))) (by kernel_rfl) (by kernel_rfl)
    (fun E' ds' w' hD => by
      obtain ⟨l1, e1, hD⟩ := dSl_elim hD; obtain ⟨l15, e15, hD⟩ := dSl_elim hD; obtain ⟨n16, e16, hD⟩ := dInt_elim hD; obtain ⟨n17, e17, hD⟩ := dInt_elim hD; exact F20_4_ok R l1 (E' 2) l15 n16 n17 ds' w' E' e1 rfl e15 e16 e17 hD) h
theorem F20_calls (l0 l1 : SV) (v2 : Value) (w : World) (R : Rt) (h : F20_5 R l0 l1 v2 [] w) : Calls prog 20 #[.slice l0.a l0.len l0.cap, .slice l1.a l1.len l1.cap, v2] w R :=
  calls_of_L (l := [c20_0, c20_1, c20_2, c20_3, c20_4, c20_5, c20_6]) func20 (by kernel_rfl) (by rw [ntmps20]; exact Nat.le_of_ble_eq_true (by kernel_rfl)) c20_l
    (F20_5_ok R l0 l1 v2 [] w _ rfl rfl rfl h)
noncomputable def c21_0 := cI8 f21 0
noncomputable def c21_1 := cI8 f21 1
noncomputable def c21_2 := cI8 f21 2
def F21_q1 (R : Rt) : EQ := endQ prog f21.results.toList R
def F21_1 (R : Rt) (n0_0 n0_1 : Int) (s0_2 : ByteArray) (n1_0 n1_1 : Int) (s1_2 : ByteArray) (ds : Ds) (w : World) : Prop :=
 alE (.cells #[.int .i64 n0_0, .int .i64 n0_1, .string s0_2] 43) w fun r2 w1 =>
 alE (.cells #[.int .i64 n1_0, .int .i64 n1_1, .string s1_2] 43) w1 fun r3 w2 =>
 ∃ n6 : Int, w2.cell? (⟨r2, 0, none⟩ : Addr) = some (.int .i64 n6) /\
 ∃ n8 : Int, w2.cell? (⟨r3, 0, none⟩ : Addr) = some (.int .i64 n8) /\
 Br (n6 == n8) (
 ∃ s12 : ByteArray, w2.cell? ((⟨r2, 0, none⟩ : Addr).add 2) = some (.string s12) /\
 ∃ s14 : ByteArray, w2.cell? ((⟨r3, 0, none⟩ : Addr).add 2) = some (.string s14) /\
 runD prog ds w2 fun w3 =>
 R (.returned (.bool (s12.toList == s14.toList))) w3) (
 runD prog ds w2 fun w4 =>
 R (.returned (.bool false)) w4)
theorem c21_l : flat (bodyOf f21) = [c21_0, c21_1, c21_2] := by kernel_rfl
theorem F21_1_ok (R : Rt) (n0_0 n0_1 : Int) (s0_2 : ByteArray) (n1_0 n1_1 : Int) (s1_2 : ByteArray) (ds : Ds) (w : World) (E : Env) (e0 : E 0 = .agg #[.int .i64 n0_0, .int .i64 n0_1, .string s0_2]) (e1 : E 1 = .agg #[.int .i64 n1_0, .int .i64 n1_1, .string s1_2]) (h : F21_1 R n0_0 n0_1 s0_2 n1_0 n1_1 s1_2 ds w) :
    TrL prog f21.ntmps [c21_0, c21_1, c21_2] (F21_q1 R) E ds w :=
  TrL_leaf (X := F21_1 R n0_0 n0_1 s0_2 n1_0 n1_1 s1_2 ds w) (setAll_cons e0 (setAll_cons e1 setAll_nil)) (by kernel_rfl) (by kernel_rfl) h
theorem F21_calls (n0_0 n0_1 : Int) (s0_2 : ByteArray) (n1_0 n1_1 : Int) (s1_2 : ByteArray) (w : World) (R : Rt) (h : F21_1 R n0_0 n0_1 s0_2 n1_0 n1_1 s1_2 [] w) : Calls prog 21 #[.agg #[.int .i64 n0_0, .int .i64 n0_1, .string s0_2], .agg #[.int .i64 n1_0, .int .i64 n1_1, .string s1_2]] w R :=
  calls_of_L (l := [c21_0, c21_1, c21_2]) func21 (by kernel_rfl) (by rw [ntmps21]; exact Nat.le_of_ble_eq_true (by kernel_rfl)) c21_l
    (F21_1_ok R n0_0 n0_1 s0_2 n1_0 n1_1 s1_2 [] w _ rfl rfl h)
end Go.Proofs.YtlogipcgejfnnaaDoor

/- Shallow texts of functions, printed by program, each checked by the kernel against the loaded code. No condition. -/
set_option maxRecDepth 100000
set_option linter.unusedVariables false
namespace Go.Proofs.YtlogipcgejfnnaaDoor
open Go.Sh
open Tryd
@[reducible] noncomputable def cI9 (f : Func) (i : Nat) : Code := itemAt (flat (bodyOf f)) i
noncomputable def c6_0 := cI9 f6 0
noncomputable def c6_1 := cI9 f6 1
noncomputable def c6_2 := cI9 f6 2
noncomputable def c6_3 := cI9 f6 3
noncomputable def c6_4 := cI9 f6 4
def F6_q1 (R : Rt) : EQ := endQ prog f6.results.toList R
def F6_1 (R : Rt) (ds : Ds) (w : World) : Prop :=
 Calls prog 7 #[.string (⟨#[120, 32, 61, 32, 49, 32, 59, 32, 38, 38, 32, 97, 10, 43, 32, 50]⟩ : ByteArray)] w fun e w1 =>
 ∃ l7_0 : SV, ∃ n7_1 : Int, ∃ n7_2 : Int, e = .returned (.tuple #[.slice l7_0.a l7_0.len l7_0.cap, .int .i64 n7_1, .int .i64 n7_2]) /\
 Calls prog 8 #[.slice l7_0.a l7_0.len l7_0.cap] w1 fun e w2 =>
 ∃ s13_0 : ByteArray, ∃ n13_1 : Int, e = .returned (.tuple #[.string s13_0, .int .i64 n13_1]) /\
 Br (n7_2 == 0) (
 Br (n7_1 == 6) (
 Br (n13_1 == 0) (
 runD prog ds w2 fun w3 =>
 R (.returned (.bool (s13_0.toList == (⟨#[88, 32, 61, 32, 49, 32, 43, 32, 50, 10]⟩ : ByteArray).toList))) w3) (
 runD prog ds w2 fun w4 =>
 R (.returned (.bool false)) w4)) (
 runD prog ds w2 fun w5 =>
 R (.returned (.bool false)) w5)) (
 runD prog ds w2 fun w6 =>
 R (.returned (.bool false)) w6)
theorem c6_l : flat (bodyOf f6) = [c6_0, c6_1, c6_2, c6_3, c6_4] := by kernel_rfl
theorem F6_1_ok (R : Rt) (ds : Ds) (w : World) (E : Env) (h : F6_1 R ds w) :
    TrL prog f6.ntmps [c6_0, c6_1, c6_2, c6_3, c6_4] (F6_q1 R) E ds w :=
  TrL_leaf (X := F6_1 R ds w) setAll_nil (by kernel_rfl) (by kernel_rfl) h
theorem F6_calls  (w : World) (R : Rt) (h : F6_1 R [] w) : Calls prog 6 #[] w R :=
  calls_of_L (l := [c6_0, c6_1, c6_2, c6_3, c6_4]) func6 (by kernel_rfl) (by rw [ntmps6]; exact Nat.le_of_ble_eq_true (by kernel_rfl)) c6_l
    (F6_1_ok R [] w _  h)
noncomputable def c3_0 := cI9 f3 0
noncomputable def c3_1 := cI9 f3 1
noncomputable def c3_2 := cI9 f3 2
noncomputable def c3_3 := cI9 f3 3
noncomputable def c3_4 := cI9 f3 4
noncomputable def c3_5 := cI9 f3 5
noncomputable def c3_6 := cI9 f3 6
noncomputable def c3_7 := cI9 f3 7
noncomputable def c3_8 := cI9 f3 8
noncomputable def c3_9 := cI9 f3 9
noncomputable def c3_10 := cI9 f3 10
noncomputable def c3_11 := cI9 f3 11
def F3_q1 (R : Rt) : EQ := endQ prog f3.results.toList R
def F3_1 (R : Rt) (s0 : ByteArray) (ds : Ds) (w : World) : Prop :=
 Br (decide ((s0.size : Int) > 20000)) (
 Calls prog 6 #[] w fun e w1 =>
 ∃ b14 : Bool, e = .returned (.bool b14) /\
 runD prog ds w1 fun w2 =>
 R (.returned (.bool b14)) w2) (
 Calls prog 7 #[.string s0] w fun e w3 =>
 ∃ l17_0 : SV, ∃ n17_1 : Int, ∃ n17_2 : Int, e = .returned (.tuple #[.slice l17_0.a l17_0.len l17_0.cap, .int .i64 n17_1, .int .i64 n17_2]) /\
 Br (n17_2 != 0) (
 Calls prog 6 #[] w3 fun e w4 =>
 ∃ b23 : Bool, e = .returned (.bool b23) /\
 runD prog ds w4 fun w5 =>
 R (.returned (.bool b23)) w5) (
 Calls prog 8 #[.slice l17_0.a l17_0.len l17_0.cap] w3 fun e w6 =>
 ∃ s26_0 : ByteArray, ∃ n26_1 : Int, e = .returned (.tuple #[.string s26_0, .int .i64 n26_1]) /\
 Br (n26_1 == 3) (
 Br (decide ((s0.size : Int) > 1333)) (
 Calls prog 6 #[] w6 fun e w7 =>
 ∃ b35 : Bool, e = .returned (.bool b35) /\
 runD prog ds w7 fun w8 =>
 R (.returned (.bool b35)) w8) (
 runD prog ds w6 fun w9 =>
 R (.returned (.bool false)) w9)) (
 Calls prog 7 #[.string s26_0] w6 fun e w10 =>
 ∃ l39_0 : SV, ∃ n39_1 : Int, ∃ n39_2 : Int, e = .returned (.tuple #[.slice l39_0.a l39_0.len l39_0.cap, .int .i64 n39_1, .int .i64 n39_2]) /\
 Br (n26_1 == 0) (
 Br (n39_2 == 0) (
 Calls prog 9 #[.slice l17_0.a l17_0.len l17_0.cap, .slice l39_0.a l39_0.len l39_0.cap] w10 fun e w11 =>
 ∃ b52 : Bool, e = .returned (.bool b52) /\
 Br b52 (
 Calls prog 6 #[] w11 fun e w12 =>
 ∃ b55 : Bool, e = .returned (.bool b55) /\
 runD prog ds w12 fun w13 =>
 R (.returned (.bool b55)) w13) (
 runD prog ds w11 fun w14 =>
 R (.returned (.bool false)) w14)) (
 runD prog ds w10 fun w15 =>
 R (.returned (.bool false)) w15)) (
 runD prog ds w10 fun w16 =>
 R (.returned (.bool false)) w16))))
theorem c3_l : flat (bodyOf f3) = [c3_0, c3_1, c3_2, c3_3, c3_4, c3_5, c3_6, c3_7, c3_8, c3_9, c3_10, c3_11] := by kernel_rfl
theorem F3_1_ok (R : Rt) (s0 : ByteArray) (ds : Ds) (w : World) (E : Env) (e0 : E 0 = .string s0) (h : F3_1 R s0 ds w) :
    TrL prog f3.ntmps [c3_0, c3_1, c3_2, c3_3, c3_4, c3_5, c3_6, c3_7, c3_8, c3_9, c3_10, c3_11] (F3_q1 R) E ds w :=
  TrL_leaf (X := F3_1 R s0 ds w) (setAll_cons e0 setAll_nil) (by kernel_rfl) (by kernel_rfl) h
theorem F3_calls (s0 : ByteArray) (w : World) (R : Rt) (h : F3_1 R s0 [] w) : Calls prog 3 #[.string s0] w R :=
  calls_of_L (l := [c3_0, c3_1, c3_2, c3_3, c3_4, c3_5, c3_6, c3_7, c3_8, c3_9, c3_10, c3_11]) func3 (by kernel_rfl) (by rw [ntmps3]; exact Nat.le_of_ble_eq_true (by kernel_rfl)) c3_l
    (F3_1_ok R s0 [] w _ rfl h)
end Go.Proofs.YtlogipcgejfnnaaDoor
