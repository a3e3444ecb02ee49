import Derived.Test.YtlogipcgejfnnaaDoorProg
import Derived.Test.YtlogipcgejfnnaaDoorShEight
/- Shallow texts of functions, printed by program, each checked by the kernel against the loaded code. No condition. -/
set_option maxRecDepth 100000
set_option linter.unusedVariables false
namespace Go.Proofs.YtlogipcgejfnnaaDoor
open Go.Sh
open Tryd
@[reducible] noncomputable def cI10 (f : Func) (i : Nat) : Code := itemAt (flat (bodyOf f)) i
@[reducible] noncomputable def cJ10 (c : Code) (i : Nat) : Code := itemAt (flat (innerC c)) i
noncomputable def c12_0 := cI10 f12 0
noncomputable def c12_1 := cI10 f12 1
noncomputable def c12_2 := cI10 f12 2
noncomputable def c12_3 := cI10 f12 3
noncomputable def c12_4 := cI10 f12 4
noncomputable def c12_5 := cI10 f12 5
noncomputable def c12_6 := cI10 f12 6
noncomputable def c12_7 := cI10 f12 7
noncomputable def c12_8 := cI10 f12 8
def F12_q1 (R : Rt) : EQ := endQ prog f12.results.toList R
def F12_1 (R : Rt) (s0 : ByteArray) (l1 : SV) (ds : Ds) (w : World) : Prop :=
 alE (.cells #[.string s0] 9) w fun r2 w1 =>
 ∃ s7 : ByteArray, w1.cell? (⟨r2, 0, none⟩ : Addr) = some (.string s7) /\
 Calls prog 22 #[.string s7] w1 fun e w2 =>
 ∃ s8 : ByteArray, e = .returned (.string s8) /\
 st1 (⟨r2, 0, none⟩ : Addr) (.string s8) w2 fun w3 =>
 ∃ s10 : ByteArray, w3.cell? (⟨r2, 0, none⟩ : Addr) = some (.string s10) /\
 Calls prog 23 #[.slice l1.a l1.len l1.cap, .string s10] w3 fun e w4 =>
 ∃ b11 : Bool, e = .returned (.bool b11) /\
 Br b11 (
 ∃ s12 : ByteArray, w4.cell? (⟨r2, 0, none⟩ : Addr) = some (.string s12) /\
 runD prog ds w4 fun w5 =>
 R (.returned (.tuple #[.string s12, .bool true])) w5) (
 Calls prog 24 #[.slice l1.a l1.len l1.cap, .func (.func 25) #[] #[.pointer (some (⟨r2, 0, none⟩ : Addr))]] w4 fun e w6 =>
 ∃ n15 : Int, e = .returned (.int .i64 n15) /\
 Br (decide (n15 < 0)) (
 runD prog ds w6 fun w7 =>
 R (.returned (.tuple #[.string (⟨#[]⟩ : ByteArray), .bool false])) w7) (
 ∃ a8 : Addr, l1.a = some a8 /\ 0 ≤ n15 /\ n15 < (l1.len : Int) /\
 ∃ s21 : ByteArray, w6.cell? (a8.add (n15.toNat * 1)) = some (.string s21) /\
 runD prog ds w6 fun w9 =>
 R (.returned (.tuple #[.string s21, .bool true])) w9))
theorem c12_l : flat (bodyOf f12) = [c12_0, c12_1, c12_2, c12_3, c12_4, c12_5, c12_6, c12_7, c12_8] := by kernel_rfl
theorem F12_1_ok (R : Rt) (s0 : ByteArray) (l1 : SV) (ds : Ds) (w : World) (E : Env) (e0 : E 0 = .string s0) (e1 : E 1 = .slice l1.a l1.len l1.cap) (h : F12_1 R s0 l1 ds w) :
    TrL prog f12.ntmps [c12_0, c12_1, c12_2, c12_3, c12_4, c12_5, c12_6, c12_7, c12_8] (F12_q1 R) E ds w :=
  TrL_leaf (X := F12_1 R s0 l1 ds w) (setAll_cons e0 (setAll_cons e1 setAll_nil)) (by kernel_rfl) (by kernel_rfl) h
theorem F12_calls (s0 : ByteArray) (l1 : SV) (w : World) (R : Rt) (h : F12_1 R s0 l1 [] w) : Calls prog 12 #[.string s0, .slice l1.a l1.len l1.cap] w R :=
  calls_of_L (l := [c12_0, c12_1, c12_2, c12_3, c12_4, c12_5, c12_6, c12_7, c12_8]) func12 (by kernel_rfl) (by rw [ntmps12]; exact Nat.le_of_ble_eq_true (by kernel_rfl)) c12_l
    (F12_1_ok R s0 l1 [] w _ rfl rfl h)
noncomputable def c13_0 := cI10 f13 0
noncomputable def c13_1 := cI10 f13 1
noncomputable def c13_2 := cI10 f13 2
noncomputable def c13_3 := cI10 f13 3
noncomputable def c13_4 := cI10 f13 4
noncomputable def c13_5 := cI10 f13 5
noncomputable def c13_6 := cI10 f13 6
noncomputable def c13_7 := cI10 f13 7
noncomputable def c13_5_0 := cJ10 c13_5 0
noncomputable def c13_5_0_0 := cJ10 c13_5_0 0
noncomputable def c13_5_0_1 := cJ10 c13_5_0 1
noncomputable def c13_5_0_2 := cJ10 c13_5_0 2
noncomputable def c13_5_0_3 := cJ10 c13_5_0 3
def F13_q1 (R : Rt) : EQ := endQ prog f13.results.toList R
def F13_1 (R : Rt) (ds : Ds) (w : World) : Prop :=
 runD prog ds w fun w1 =>
 R (.returned (.tuple #[.string (⟨#[]⟩ : ByteArray), .bool false])) w1
def F13_k2 (R : Rt) : EP := (fun E ds w => F13_1 R ds w)
def F13_q3 (R : Rt) : EQ := (thenQ (F13_k2 R) (F13_q1 R))
def F13_q4 (R : Rt) : EQ := (blockQ 0 (F13_q3 R))
def F13_q5 (R : Rt) (J1 : (Int) -> World -> Prop) : EQ := (thenQ (fun E _ w => dInt .i64 (E 7) fun n7 => J1 n7 w) (F13_q4 R))
def F13_2 (R : Rt) (J1 : (Int) -> World -> Prop) (l1 : SV) (s6 : ByteArray) (n7 : Int) (ds : Ds) (w : World) : Prop :=
 Br (decide (n7 < (l1.len : Int))) (
 Br (decide ((s6.size : Int) ≥ 4)) (
 ∃ a2 : Addr, l1.a = some a2 /\ 0 ≤ n7 /\ n7 < (l1.len : Int) /\
 ∃ s28 : ByteArray, w.cell? (a2.add (n7.toNat * 1)) = some (.string s28) /\
 Calls prog 29 #[.string s28, .string s6] w fun e w3 =>
 ∃ b30 : Bool, e = .returned (.bool b30) /\
 Br b30 (
 ∃ a4 : Addr, l1.a = some a4 /\ 0 ≤ n7 /\ n7 < (l1.len : Int) /\
 ∃ s34 : ByteArray, w3.cell? (a4.add (n7.toNat * 1)) = some (.string s34) /\
 runD prog ds w3 fun w5 =>
 R (.returned (.tuple #[.string s34, .bool true])) w5) (
 J1 (IntKind.i64.wrap (n7 + 1)) w3)) (
 F13_1 R ds w)) (
 F13_1 R ds w)
def F13_3 (R : Rt) (l1 : SV) (s6 : ByteArray) (n7 : Int) (ds : Ds) (w : World) : Prop :=
 loopT (fun (J1 : (Int) -> World -> Prop) (s : Int) (w : World) => F13_2 R J1 l1 s6 s ds w) n7 w
abbrev F13_4 (R : Rt) (l1 : SV) (s6 : ByteArray) (n7 : Int) (ds : Ds) (w : World) : Prop := F13_3 R l1 s6 n7 ds w
def F13_k6 (R : Rt) : EP := (fun E ds w => dSl (E 1) fun l1 => dStr (E 6) fun s6 => dInt .i64 (E 7) fun n7 => F13_4 R l1 s6 n7 ds w)
def F13_5 (R : Rt) (s0 : ByteArray) (l1 : SV) (ds : Ds) (w : World) : Prop :=
 Calls prog 27 #[.string s0] w fun e w6 =>
 ∃ s9 : ByteArray, e = .returned (.string s9) /\
 Calls prog 28 #[.slice l1.a l1.len l1.cap, .string s9] w6 fun e w7 =>
 ∃ b12 : Bool, e = .returned (.bool b12) /\
 Br b12 (
 runD prog ds w7 fun w8 =>
 R (.returned (.tuple #[.string s9, .bool true])) w8) (
 F13_4 R l1 s9 0 ds w7)
theorem c13_l : flat (bodyOf f13) = [c13_0, c13_1, c13_2, c13_3, c13_4, c13_5, c13_6, c13_7] := by kernel_rfl
theorem c13_5_l : flat (innerC c13_5) = [c13_5_0] := by kernel_rfl
theorem c13_5_0_l : flat (innerC c13_5_0) = [c13_5_0_0, c13_5_0_1, c13_5_0_2, c13_5_0_3] := by kernel_rfl
theorem F13_1_ok (R : Rt) (ds : Ds) (w : World) (E : Env) (h : F13_1 R ds w) :
    TrL prog f13.ntmps [c13_6, c13_7] (F13_q1 R) E ds w :=
  TrL_leaf (X := F13_1 R ds w) setAll_nil (by kernel_rfl) (by kernel_rfl) h
theorem F13_2_ok (R : Rt) (J1 : (Int) -> World -> Prop) (l1 : SV) (s6 : ByteArray) (n7 : Int) (ds : Ds) (w : World) (E : Env) (e1 : E 1 = .slice l1.a l1.len l1.cap) (e6 : E 6 = .string s6) (e7 : E 7 = .int .i64 n7) (h : F13_2 R J1 l1 s6 n7 ds w) :
    TrL prog f13.ntmps [c13_5_0_0, c13_5_0_1, c13_5_0_2, c13_5_0_3] (F13_q5 R J1) E ds w :=
  TrL_leaf (X := F13_2 R J1 l1 s6 n7 ds w) (setAll_cons e1 (setAll_cons e6 (setAll_cons e7 setAll_nil))) (by kernel_rfl) (by kernel_rfl) h
theorem F13_3_ok (R : Rt) (l1 : SV) (s6 : ByteArray) (n7 : Int) (ds : Ds) (w : World) (E : Env) (e1 : E 1 = .slice l1.a l1.len l1.cap) (e6 : E 6 = .string s6) (e7 : E 7 = .int .i64 n7) (h : F13_3 R l1 s6 n7 ds w) :
    TrL prog f13.ntmps [c13_5_0] (F13_q4 R) E ds w :=
  TrL_one (Tr_loop' (c := innerC c13_5_0) (σ := Int) (enc := (fun (s : Int) (E : Env) => E 7 = .int .i64 s)) (D := (fun E K => dInt .i64 (E 7) fun n7 => K n7)) (F := (fun (J1 : (Int) -> World -> Prop) (s : Int) (w : World) => F13_2 R J1 l1 s6 s ds w)) (s0 := n7) (by kernel_rfl) c13_5_0_l e7 (by kernel_rfl) (fun E K hD => by obtain ⟨n7, e7, hD⟩ := dInt_elim hD; exact ⟨n7, e7, hD⟩)
      (fun J1 s E' w' he ha hF => by
      have e7' := he
      exact F13_2_ok R J1 l1 s6 s ds w' E' ((ha 1 (by kernel_rfl)).trans e1) ((ha 6 (by kernel_rfl)).trans e6) e7' hF) h)
theorem F13_4_ok (R : Rt) (l1 : SV) (s6 : ByteArray) (n7 : Int) (ds : Ds) (w : World) (E : Env) (e1 : E 1 = .slice l1.a l1.len l1.cap) (e6 : E 6 = .string s6) (e7 : E 7 = .int .i64 n7) (h : F13_4 R l1 s6 n7 ds w) :
    TrL prog f13.ntmps [c13_5, c13_6, c13_7] (F13_q1 R) E ds w :=
  TrL_head (K := (F13_k2 R)) (Tr_block' (c := innerC c13_5) (by kernel_rfl) c13_5_l (F13_3_ok R l1 s6 n7 ds w E e1 e6 e7 h))
    (fun E' ds' w' hD => by
      exact F13_1_ok R ds' w' E'  hD)
theorem F13_5_ok (R : Rt) (s0 : ByteArray) (l1 : SV) (ds : Ds) (w : World) (E : Env) (e0 : E 0 = .string s0) (e1 : E 1 = .slice l1.a l1.len l1.cap) (h : F13_5 R s0 l1 ds w) :
    TrL prog f13.ntmps [c13_0, c13_1, c13_2, c13_3, c13_4, c13_5, c13_6, c13_7] (F13_q1 R) E ds w :=
  TrL_piece (pre := [c13_0, c13_1, c13_2, c13_3, c13_4]) (K := (F13_k6 R)) (X := F13_5 R s0 l1 ds w) (setAll_cons e0 (setAll_cons e1 setAll_nil)) (by kernel_rfl) (by kernel_rfl)
    (fun E' ds' w' hD => by
      obtain ⟨l1, e1, hD⟩ := dSl_elim hD; obtain ⟨s6, e6, hD⟩ := dStr_elim hD; obtain ⟨n7, e7, hD⟩ := dInt_elim hD; exact F13_4_ok R l1 s6 n7 ds' w' E' e1 e6 e7 hD) h
theorem F13_calls (s0 : ByteArray) (l1 : SV) (w : World) (R : Rt) (h : F13_5 R s0 l1 [] w) : Calls prog 13 #[.string s0, .slice l1.a l1.len l1.cap] w R :=
  calls_of_L (l := [c13_0, c13_1, c13_2, c13_3, c13_4, c13_5, c13_6, c13_7]) func13 (by kernel_rfl) (by rw [ntmps13]; exact Nat.le_of_ble_eq_true (by kernel_rfl)) c13_l
    (F13_5_ok R s0 l1 [] w _ rfl rfl h)
noncomputable def c14_0 := cI10 f14 0
noncomputable def c14_1 := cI10 f14 1
noncomputable def c14_2 := cI10 f14 2
noncomputable def c14_3 := cI10 f14 3
noncomputable def c14_4 := cI10 f14 4
def F14_q1 (R : Rt) : EQ := endQ prog f14.results.toList R
def F14_1 (R : Rt) (s0 : ByteArray) (ds : Ds) (w : World) : Prop :=
 Br (s0.toList == (⟨#[]⟩ : ByteArray).toList) (
 runD prog ds w fun w1 =>
 R (.returned (.bool false)) w1) (
 Br (decide ((s0.size : Int) > 10)) (
 runD prog ds w fun w2 =>
 R (.returned (.bool false)) w2) (
 ∃ b12 : UInt8, 0 ≤ (0 : Int) /\ s0[(0 : Int).toNat]? = some b12 /\
 Br (decide ((b12.toNat : Int) ≥ 48)) (
 ∃ b16 : UInt8, 0 ≤ (0 : Int) /\ s0[(0 : Int).toNat]? = some b16 /\
 Br (decide ((b16.toNat : Int) ≤ 57)) (
 runD prog ds w fun w3 =>
 R (.returned (.bool false)) w3) (
 Calls prog 30 #[.string s0, .string (⟨#[65, 66, 67, 68, 69, 70, 71, 72, 73, 74, 75, 76, 77, 78, 79, 80, 81, 82, 83, 84, 85, 86, 87, 88, 89, 90, 48, 49, 50, 51, 52, 53, 54, 55, 56, 57, 95]⟩ : ByteArray)] w fun e w4 =>
 ∃ s21 : ByteArray, e = .returned (.string s21) /\
 runD prog ds w4 fun w5 =>
 R (.returned (.bool (s21.toList == (⟨#[]⟩ : ByteArray).toList))) w5)) (
 Calls prog 30 #[.string s0, .string (⟨#[65, 66, 67, 68, 69, 70, 71, 72, 73, 74, 75, 76, 77, 78, 79, 80, 81, 82, 83, 84, 85, 86, 87, 88, 89, 90, 48, 49, 50, 51, 52, 53, 54, 55, 56, 57, 95]⟩ : ByteArray)] w fun e w6 =>
 ∃ s21 : ByteArray, e = .returned (.string s21) /\
 runD prog ds w6 fun w7 =>
 R (.returned (.bool (s21.toList == (⟨#[]⟩ : ByteArray).toList))) w7)))
theorem c14_l : flat (bodyOf f14) = [c14_0, c14_1, c14_2, c14_3, c14_4] := by kernel_rfl
theorem F14_1_ok (R : Rt) (s0 : ByteArray) (ds : Ds) (w : World) (E : Env) (e0 : E 0 = .string s0) (h : F14_1 R s0 ds w) :
    TrL prog f14.ntmps [c14_0, c14_1, c14_2, c14_3, c14_4] (F14_q1 R) E ds w :=
  TrL_leaf (X := F14_1 R s0 ds w) (setAll_cons e0 setAll_nil) (by kernel_rfl) (by kernel_rfl) h
theorem F14_calls (s0 : ByteArray) (w : World) (R : Rt) (h : F14_1 R s0 [] w) : Calls prog 14 #[.string s0] w R :=
  calls_of_L (l := [c14_0, c14_1, c14_2, c14_3, c14_4]) func14 (by kernel_rfl) (by rw [ntmps14]; exact Nat.le_of_ble_eq_true (by kernel_rfl)) c14_l
    (F14_1_ok R s0 [] w _ rfl h)
noncomputable def c15_0 := cI10 f15 0
noncomputable def c15_1 := cI10 f15 1
noncomputable def c15_2 := cI10 f15 2
def F15_q1 (R : Rt) : EQ := endQ prog f15.results.toList R
def F15_1 (R : Rt) (s0 : ByteArray) (ds : Ds) (w : World) : Prop :=
 Calls prog 31 #[.string s0, .int .i64 10] w fun e w1 =>
 ∃ b4 : Bool, e = .returned (.bool b4) /\
 runD prog ds w1 fun w2 =>
 R (.returned (.bool b4)) w2
theorem c15_l : flat (bodyOf f15) = [c15_0, c15_1, c15_2] := by kernel_rfl
theorem F15_1_ok (R : Rt) (s0 : ByteArray) (ds : Ds) (w : World) (E : Env) (e0 : E 0 = .string s0) (h : F15_1 R s0 ds w) :
    TrL prog f15.ntmps [c15_0, c15_1, c15_2] (F15_q1 R) E ds w :=
  TrL_leaf (X := F15_1 R s0 ds w) (setAll_cons e0 setAll_nil) (by kernel_rfl) (by kernel_rfl) h
theorem F15_calls (s0 : ByteArray) (w : World) (R : Rt) (h : F15_1 R s0 [] w) : Calls prog 15 #[.string s0] w R :=
  calls_of_L (l := [c15_0, c15_1, c15_2]) func15 (by kernel_rfl) (by rw [ntmps15]; exact Nat.le_of_ble_eq_true (by kernel_rfl)) c15_l
    (F15_1_ok R s0 [] w _ rfl h)
noncomputable def c22_0 := cI10 f22 0
noncomputable def c22_1 := cI10 f22 1
noncomputable def c22_2 := cI10 f22 2
noncomputable def c22_3 := cI10 f22 3
noncomputable def c22_4 := cI10 f22 4
noncomputable def c22_5 := cI10 f22 5
noncomputable def c22_3_0 := cJ10 c22_3 0
noncomputable def c22_3_0_0 := cJ10 c22_3_0 0
noncomputable def c22_3_0_1 := cJ10 c22_3_0 1
noncomputable def c22_3_0_2 := cJ10 c22_3_0 2
noncomputable def c22_3_0_3 := cJ10 c22_3_0 3
def F22_q1 (R : Rt) : EQ := endQ prog f22.results.toList R
def F22_1 (R : Rt) (l3 : SV) (ds : Ds) (w : World) : Prop :=
 ∃ s28 : ByteArray, ∃ w1 : World, (convert 61 9 (.slice l3.a l3.len l3.cap)).run prog w = .ok (.string s28) w1 /\
 runD prog ds w1 fun w2 =>
 R (.returned (.string s28)) w2
def F22_k2 (R : Rt) : EP := (fun E ds w => dSl (E 3) fun l3 => F22_1 R l3 ds w)
def F22_q3 (R : Rt) : EQ := (thenQ (F22_k2 R) (F22_q1 R))
def F22_q4 (R : Rt) : EQ := (blockQ 0 (F22_q3 R))
def F22_q5 (R : Rt) (J1 : (Int) -> World -> Prop) : EQ := (thenQ (fun E _ w => dInt .i64 (E 10) fun n10 => J1 n10 w) (F22_q4 R))
def F22_2 (R : Rt) (J1 : (Int) -> World -> Prop) (l3 l8 : SV) (n9 n10 : Int) (ds : Ds) (w : World) : Prop :=
 Br (decide (n10 < n9)) (
 ∃ a3 : Addr, l8.a = some a3 /\ 0 ≤ n10 /\ n10 < (l8.len : Int) /\
 ∃ n14 : Int, w.cell? (a3.add (n10.toNat * 1)) = some (.int .u8 n14) /\
 Br (decide (n14 ≥ 97)) (
 Br (decide (n14 ≤ 122)) (
 ∃ a4 : Addr, l3.a = some a4 /\ 0 ≤ n10 /\ n10 < (l3.len : Int) /\
 st1 (a4.add (n10.toNat * 1)) (.int .u8 (IntKind.u8.wrap (n14 - 32))) w fun w5 =>
 J1 (IntKind.i64.wrap (n10 + 1)) w5) (
 J1 (IntKind.i64.wrap (n10 + 1)) w)) (
 J1 (IntKind.i64.wrap (n10 + 1)) w)) (
 F22_1 R l3 ds w)
def F22_3 (R : Rt) (l3 l8 : SV) (n9 n10 : Int) (ds : Ds) (w : World) : Prop :=
 loopT (fun (J1 : (Int) -> World -> Prop) (s : Int) (w : World) => F22_2 R J1 l3 l8 n9 s ds w) n10 w
abbrev F22_4 (R : Rt) (l3 l8 : SV) (n9 n10 : Int) (ds : Ds) (w : World) : Prop := F22_3 R l3 l8 n9 n10 ds w
def F22_k6 (R : Rt) : EP := (fun E ds w => dSl (E 3) fun l3 => dSl (E 8) fun l8 => dInt .i64 (E 9) fun n9 => dInt .i64 (E 10) fun n10 => F22_4 R l3 l8 n9 n10 ds w)
def F22_5 (R : Rt) (s0 : ByteArray) (ds : Ds) (w : World) : Prop :=
 ∃ l7 : SV, ∃ w6 : World, (convert 9 61 (.string s0)).run prog w = .ok (.slice l7.a l7.len l7.cap) w6 /\
 F22_4 R l7 l7 (l7.len : Int) 0 ds w6
theorem c22_l : flat (bodyOf f22) = [c22_0, c22_1, c22_2, c22_3, c22_4, c22_5] := by kernel_rfl
theorem c22_3_l : flat (innerC c22_3) = [c22_3_0] := by kernel_rfl
theorem c22_3_0_l : flat (innerC c22_3_0) = [c22_3_0_0, c22_3_0_1, c22_3_0_2, c22_3_0_3] := by kernel_rfl
theorem F22_1_ok (R : Rt) (l3 : SV) (ds : Ds) (w : World) (E : Env) (e3 : E 3 = .slice l3.a l3.len l3.cap) (h : F22_1 R l3 ds w) :
    TrL prog f22.ntmps [c22_4, c22_5] (F22_q1 R) E ds w :=
  TrL_leaf (X := F22_1 R l3 ds w) (setAll_cons e3 setAll_nil) (by kernel_rfl) (by kernel_rfl) h
theorem F22_2_ok (R : Rt) (J1 : (Int) -> World -> Prop) (l3 l8 : SV) (n9 n10 : Int) (ds : Ds) (w : World) (E : Env) (e3 : E 3 = .slice l3.a l3.len l3.cap) (e8 : E 8 = .slice l8.a l8.len l8.cap) (e9 : E 9 = .int .i64 n9) (e10 : E 10 = .int .i64 n10) (h : F22_2 R J1 l3 l8 n9 n10 ds w) :
    TrL prog f22.ntmps [c22_3_0_0, c22_3_0_1, c22_3_0_2, c22_3_0_3] (F22_q5 R J1) E ds w :=
  TrL_leaf (X := F22_2 R J1 l3 l8 n9 n10 ds w) (setAll_cons e3 (setAll_cons e8 (setAll_cons e9 (setAll_cons e10 setAll_nil)))) (by kernel_rfl) (by kernel_rfl) h
theorem F22_3_ok (R : Rt) (l3 l8 : SV) (n9 n10 : Int) (ds : Ds) (w : World) (E : Env) (e3 : E 3 = .slice l3.a l3.len l3.cap) (e8 : E 8 = .slice l8.a l8.len l8.cap) (e9 : E 9 = .int .i64 n9) (e10 : E 10 = .int .i64 n10) (h : F22_3 R l3 l8 n9 n10 ds w) :
    TrL prog f22.ntmps [c22_3_0] (F22_q4 R) E ds w :=
  TrL_one (Tr_loop' (c := innerC c22_3_0) (σ := Int) (enc := (fun (s : Int) (E : Env) => E 10 = .int .i64 s)) (D := (fun E K => dInt .i64 (E 10) fun n10 => K n10)) (F := (fun (J1 : (Int) -> World -> Prop) (s : Int) (w : World) => F22_2 R J1 l3 l8 n9 s ds w)) (s0 := n10) (by kernel_rfl) c22_3_0_l e10 (by kernel_rfl) (fun E K hD => by obtain ⟨n10, e10, hD⟩ := dInt_elim hD; exact ⟨n10, e10, hD⟩)
      (fun J1 s E' w' he ha hF => by
      have e10' := he
      exact F22_2_ok R J1 l3 l8 n9 s ds w' E' ((ha 3 (by kernel_rfl)).trans e3) ((ha 8 (by kernel_rfl)).trans e8) ((ha 9 (by kernel_rfl)).trans e9) e10' hF) h)
theorem F22_4_ok (R : Rt) (l3 l8 : SV) (n9 n10 : Int) (ds : Ds) (w : World) (E : Env) (e3 : E 3 = .slice l3.a l3.len l3.cap) (e8 : E 8 = .slice l8.a l8.len l8.cap) (e9 : E 9 = .int .i64 n9) (e10 : E 10 = .int .i64 n10) (h : F22_4 R l3 l8 n9 n10 ds w) :
    TrL prog f22.ntmps [c22_3, c22_4, c22_5] (F22_q1 R) E ds w :=
  TrL_head (K := (F22_k2 R)) (Tr_block' (c := innerC c22_3) (by kernel_rfl) c22_3_l (F22_3_ok R l3 l8 n9 n10 ds w E e3 e8 e9 e10 h))
    (fun E' ds' w' hD => by
      obtain ⟨l3, e3, hD⟩ := dSl_elim hD; exact F22_1_ok R l3 ds' w' E' e3 hD)
theorem F22_5_ok (R : Rt) (s0 : ByteArray) (ds : Ds) (w : World) (E : Env) (e0 : E 0 = .string s0) (h : F22_5 R s0 ds w) :
    TrL prog f22.ntmps [c22_0, c22_1, c22_2, c22_3, c22_4, c22_5] (F22_q1 R) E ds w :=
  TrL_piece (pre := [c22_0, c22_1, c22_2]) (K := (F22_k6 R)) (X := F22_5 R s0 ds w) (setAll_cons e0 setAll_nil) (by kernel_rfl) (by kernel_rfl)
    (fun E' ds' w' hD => by
      obtain ⟨l3, e3, hD⟩ := dSl_elim hD; obtain ⟨l8, e8, hD⟩ := dSl_elim hD; obtain ⟨n9, e9, hD⟩ := dInt_elim hD; obtain ⟨n10, e10, hD⟩ := dInt_elim hD; exact F22_4_ok R l3 l8 n9 n10 ds' w' E' e3 e8 e9 e10 hD) h
theorem F22_calls (s0 : ByteArray) (w : World) (R : Rt) (h : F22_5 R s0 [] w) : Calls prog 22 #[.string s0] w R :=
  calls_of_L (l := [c22_0, c22_1, c22_2, c22_3, c22_4, c22_5]) func22 (by kernel_rfl) (by rw [ntmps22]; exact Nat.le_of_ble_eq_true (by kernel_rfl)) c22_l
    (F22_5_ok R s0 [] w _ rfl h)
noncomputable def c23_0 := cI10 f23 0
noncomputable def c23_1 := cI10 f23 1
noncomputable def c23_2 := cI10 f23 2
def F23_q1 (R : Rt) : EQ := endQ prog f23.results.toList R
def F23_1 (R : Rt) (l0 : SV) (s1 : ByteArray) (ds : Ds) (w : World) : Prop :=
 Calls prog 39 #[.slice l0.a l0.len l0.cap, .string s1] w fun e w1 =>
 ∃ n7 : Int, e = .returned (.int .i64 n7) /\
 runD prog ds w1 fun w2 =>
 R (.returned (.bool (decide (n7 ≥ 0)))) w2
theorem c23_l : flat (bodyOf f23) = [c23_0, c23_1, c23_2] := by kernel_rfl
theorem F23_1_ok (R : Rt) (l0 : SV) (s1 : ByteArray) (ds : Ds) (w : World) (E : Env) (e0 : E 0 = .slice l0.a l0.len l0.cap) (e1 : E 1 = .string s1) (h : F23_1 R l0 s1 ds w) :
    TrL prog f23.ntmps [c23_0, c23_1, c23_2] (F23_q1 R) E ds w :=
  TrL_leaf (X := F23_1 R l0 s1 ds w) (setAll_cons e0 (setAll_cons e1 setAll_nil)) (by kernel_rfl) (by kernel_rfl) h
theorem F23_calls (l0 : SV) (s1 : ByteArray) (w : World) (R : Rt) (h : F23_1 R l0 s1 [] w) : Calls prog 23 #[.slice l0.a l0.len l0.cap, .string s1] w R :=
  calls_of_L (l := [c23_0, c23_1, c23_2]) func23 (by kernel_rfl) (by rw [ntmps23]; exact Nat.le_of_ble_eq_true (by kernel_rfl)) c23_l
    (F23_1_ok R l0 s1 [] w _ rfl rfl h)
noncomputable def c24_0 := cI10 f24 0
noncomputable def c24_1 := cI10 f24 1
noncomputable def c24_2 := cI10 f24 2
noncomputable def c24_3 := cI10 f24 3
noncomputable def c24_4 := cI10 f24 4
noncomputable def c24_2_0 := cJ10 c24_2 0
noncomputable def c24_2_0_0 := cJ10 c24_2_0 0
noncomputable def c24_2_0_1 := cJ10 c24_2_0 1
noncomputable def c24_2_0_2 := cJ10 c24_2_0 2
noncomputable def c24_2_0_3 := cJ10 c24_2_0 3
def F24_q1 (R : Rt) : EQ := endQ prog f24.results.toList R
def F24_1 (R : Rt) (ds : Ds) (w : World) : Prop :=
 runD prog ds w fun w1 =>
 R (.returned (.int .i64 (-1))) w1
def F24_k2 (R : Rt) : EP := (fun E ds w => F24_1 R ds w)
def F24_q3 (R : Rt) : EQ := (thenQ (F24_k2 R) (F24_q1 R))
def F24_q4 (R : Rt) : EQ := (blockQ 0 (F24_q3 R))
def F24_q5 (R : Rt) (J1 : (Int) -> World -> Prop) : EQ := (thenQ (fun E _ w => dInt .i64 (E 8) fun n8 => J1 n8 w) (F24_q4 R))
def F24_2 (R : Rt) (J1 : (Int) -> World -> Prop) (l0 : SV) (v1 : Value) (n7 n8 : Int) (ds : Ds) (w : World) : Prop :=
 Br (decide (n8 < n7)) (
 ∃ a2 : Addr, l0.a = some a2 /\ 0 ≤ n8 /\ n8 < (l0.len : Int) /\
 ∃ s15 : ByteArray, w.cell? (a2.add (n8.toNat * 1)) = some (.string s15) /\
 fnE v1 fun f16 first16 cap16 =>
 hasBody prog f16 = true /\ Calls prog f16 (first16.toList ++ (([.string s15] : List Value) ++ cap16.toList)).toArray w fun e w3 =>
 ∃ b16 : Bool, e = .returned (.bool b16) /\
 Br b16 (
 runD prog ds w3 fun w4 =>
 R (.returned (.int .i64 n8)) w4) (
 J1 (IntKind.i64.wrap (n8 + 1)) w3)) (
 F24_1 R ds w)
def F24_3 (R : Rt) (l0 : SV) (v1 : Value) (n7 n8 : Int) (ds : Ds) (w : World) : Prop :=
 loopT (fun (J1 : (Int) -> World -> Prop) (s : Int) (w : World) => F24_2 R J1 l0 v1 n7 s ds w) n8 w
abbrev F24_4 (R : Rt) (l0 : SV) (v1 : Value) (n7 n8 : Int) (ds : Ds) (w : World) : Prop := F24_3 R l0 v1 n7 n8 ds w
def F24_k6 (R : Rt) : EP := (fun E ds w => dSl (E 0) fun l0 => dInt .i64 (E 7) fun n7 => dInt .i64 (E 8) fun n8 => F24_4 R l0 (E 1) n7 n8 ds w)
def F24_5 (R : Rt) (l0 : SV) (v1 : Value) (ds : Ds) (w : World) : Prop :=
 F24_4 R l0 (v1) (l0.len : Int) 0 ds w
theorem c24_l : flat (bodyOf f24) = [c24_0, c24_1, c24_2, c24_3, c24_4] := by kernel_rfl
theorem c24_2_l : flat (innerC c24_2) = [c24_2_0] := by kernel_rfl
theorem c24_2_0_l : flat (innerC c24_2_0) = [c24_2_0_0, c24_2_0_1, c24_2_0_2, c24_2_0_3] := by kernel_rfl
theorem F24_1_ok (R : Rt) (ds : Ds) (w : World) (E : Env) (h : F24_1 R ds w) :
    TrL prog f24.ntmps [c24_3, c24_4] (F24_q1 R) E ds w :=
  TrL_leaf (X := F24_1 R ds w) setAll_nil (by kernel_rfl) (by kernel_rfl) h
theorem F24_2_ok (R : Rt) (J1 : (Int) -> World -> Prop) (l0 : SV) (v1 : Value) (n7 n8 : Int) (ds : Ds) (w : World) (E : Env) (e0 : E 0 = .slice l0.a l0.len l0.cap) (e1 : E 1 = v1) (e7 : E 7 = .int .i64 n7) (e8 : E 8 = .int .i64 n8) (h : F24_2 R J1 l0 v1 n7 n8 ds w) :
    TrL prog f24.ntmps [c24_2_0_0, c24_2_0_1, c24_2_0_2, c24_2_0_3] (F24_q5 R J1) E ds w :=
  TrL_leaf (X := F24_2 R J1 l0 v1 n7 n8 ds w) (setAll_cons e0 (setAll_cons e1 (setAll_cons e7 (setAll_cons e8 setAll_nil)))) (by kernel_rfl) (by kernel_rfl) h
theorem F24_3_ok (R : Rt) (l0 : SV) (v1 : Value) (n7 n8 : Int) (ds : Ds) (w : World) (E : Env) (e0 : E 0 = .slice l0.a l0.len l0.cap) (e1 : E 1 = v1) (e7 : E 7 = .int .i64 n7) (e8 : E 8 = .int .i64 n8) (h : F24_3 R l0 v1 n7 n8 ds w) :
    TrL prog f24.ntmps [c24_2_0] (F24_q4 R) E ds w :=
  TrL_one (Tr_loop' (c := innerC c24_2_0) (σ := Int) (enc := (fun (s : Int) (E : Env) => E 8 = .int .i64 s)) (D := (fun E K => dInt .i64 (E 8) fun n8 => K n8)) (F := (fun (J1 : (Int) -> World -> Prop) (s : Int) (w : World) => F24_2 R J1 l0 v1 n7 s ds w)) (s0 := n8) (by kernel_rfl) c24_2_0_l e8 (by kernel_rfl) (fun E K hD => by obtain ⟨n8, e8, hD⟩ := dInt_elim hD; exact ⟨n8, e8, hD⟩)
      (fun J1 s E' w' he ha hF => by
      have e8' := he
      exact F24_2_ok R J1 l0 v1 n7 s ds w' E' ((ha 0 (by kernel_rfl)).trans e0) ((ha 1 (by kernel_rfl)).trans e1) ((ha 7 (by kernel_rfl)).trans e7) e8' hF) h)
theorem F24_4_ok (R : Rt) (l0 : SV) (v1 : Value) (n7 n8 : Int) (ds : Ds) (w : World) (E : Env) (e0 : E 0 = .slice l0.a l0.len l0.cap) (e1 : E 1 = v1) (e7 : E 7 = .int .i64 n7) (e8 : E 8 = .int .i64 n8) (h : F24_4 R l0 v1 n7 n8 ds w) :
    TrL prog f24.ntmps [c24_2, c24_3, c24_4] (F24_q1 R) E ds w :=
  TrL_head (K := (F24_k2 R)) (Tr_block' (c := innerC c24_2) (by kernel_rfl) c24_2_l (F24_3_ok R l0 v1 n7 n8 ds w E e0 e1 e7 e8 h))
    (fun E' ds' w' hD => by
      exact F24_1_ok R ds' w' E'  hD)
theorem F24_5_ok (R : Rt) (l0 : SV) (v1 : Value) (ds : Ds) (w : World) (E : Env) (e0 : E 0 = .slice l0.a l0.len l0.cap) (e1 : E 1 = v1) (h : F24_5 R l0 v1 ds w) :
    TrL prog f24.ntmps [c24_0, c24_1, c24_2, c24_3, c24_4] (F24_q1 R) E ds w :=
  TrL_piece (pre := [c24_0, c24_1]) (K := (F24_k6 R)) (X := F24_5 R l0 v1 ds w) (setAll_cons e0 (setAll_cons e1 setAll_nil)) (by kernel_rfl) (by kernel_rfl)
    (fun E' ds' w' hD => by
      obtain ⟨l0, e0, hD⟩ := dSl_elim hD; obtain ⟨n7, e7, hD⟩ := dInt_elim hD; obtain ⟨n8, e8, hD⟩ := dInt_elim hD; exact F24_4_ok R l0 (E' 1) n7 n8 ds' w' E' e0 rfl e7 e8 hD) h
theorem F24_calls (l0 : SV) (v1 : Value) (w : World) (R : Rt) (h : F24_5 R l0 v1 [] w) : Calls prog 24 #[.slice l0.a l0.len l0.cap, v1] w R :=
  calls_of_L (l := [c24_0, c24_1, c24_2, c24_3, c24_4]) func24 (by kernel_rfl) (by rw [ntmps24]; exact Nat.le_of_ble_eq_true (by kernel_rfl)) c24_l
    (F24_5_ok R l0 v1 [] w _ rfl rfl h)
noncomputable def c25_0 := cI10 f25 0
noncomputable def c25_1 := cI10 f25 1
noncomputable def c25_2 := cI10 f25 2
def F25_q1 (R : Rt) : EQ := endQ prog f25.results.toList R
def F25_1 (R : Rt) (s0 : ByteArray) (v1 : Value) (ds : Ds) (w : World) : Prop :=
 addrE v1 fun a1 =>
 ∃ s4 : ByteArray, w.cell? a1 = some (.string s4) /\
 Br (decide ((s4.size : Int) ≥ 4)) (
 addrE v1 fun a2 =>
 ∃ s9 : ByteArray, w.cell? a2 = some (.string s9) /\
 Calls prog 26 #[.string s0, .string s9] w fun e w3 =>
 ∃ b10 : Bool, e = .returned (.bool b10) /\
 runD prog ds w3 fun w4 =>
 R (.returned (.bool b10)) w4) (
 runD prog ds w fun w5 =>
 R (.returned (.bool false)) w5)
theorem c25_l : flat (bodyOf f25) = [c25_0, c25_1, c25_2] := by kernel_rfl
theorem F25_1_ok (R : Rt) (s0 : ByteArray) (v1 : Value) (ds : Ds) (w : World) (E : Env) (e0 : E 0 = .string s0) (e1 : E 1 = v1) (h : F25_1 R s0 v1 ds w) :
    TrL prog f25.ntmps [c25_0, c25_1, c25_2] (F25_q1 R) E ds w :=
  TrL_leaf (X := F25_1 R s0 v1 ds w) (setAll_cons e0 (setAll_cons e1 setAll_nil)) (by kernel_rfl) (by kernel_rfl) h
theorem F25_calls (s0 : ByteArray) (v1 : Value) (w : World) (R : Rt) (h : F25_1 R s0 v1 [] w) : Calls prog 25 #[.string s0, v1] w R :=
  calls_of_L (l := [c25_0, c25_1, c25_2]) func25 (by kernel_rfl) (by rw [ntmps25]; exact Nat.le_of_ble_eq_true (by kernel_rfl)) c25_l
    (F25_1_ok R s0 v1 [] w _ rfl rfl h)
noncomputable def c28_0 := cI10 f28 0
noncomputable def c28_1 := cI10 f28 1
noncomputable def c28_2 := cI10 f28 2
noncomputable def c28_3 := cI10 f28 3
noncomputable def c28_4 := cI10 f28 4
noncomputable def c28_2_0 := cJ10 c28_2 0
noncomputable def c28_2_0_0 := cJ10 c28_2_0 0
noncomputable def c28_2_0_1 := cJ10 c28_2_0 1
noncomputable def c28_2_0_2 := cJ10 c28_2_0 2
noncomputable def c28_2_0_3 := cJ10 c28_2_0 3
def F28_q1 (R : Rt) : EQ := endQ prog f28.results.toList R
def F28_1 (R : Rt) (ds : Ds) (w : World) : Prop :=
 runD prog ds w fun w1 =>
 R (.returned (.bool false)) w1
def F28_k2 (R : Rt) : EP := (fun E ds w => F28_1 R ds w)
def F28_q3 (R : Rt) : EQ := (thenQ (F28_k2 R) (F28_q1 R))
def F28_q4 (R : Rt) : EQ := (blockQ 0 (F28_q3 R))
def F28_q5 (R : Rt) (J1 : (Int) -> World -> Prop) : EQ := (thenQ (fun E _ w => dInt .i64 (E 5) fun n5 => J1 n5 w) (F28_q4 R))
def F28_2 (R : Rt) (J1 : (Int) -> World -> Prop) (l0 : SV) (s1 : ByteArray) (n5 : Int) (ds : Ds) (w : World) : Prop :=
 Br (decide (n5 < (l0.len : Int))) (
 ∃ a2 : Addr, l0.a = some a2 /\ 0 ≤ n5 /\ n5 < (l0.len : Int) /\
 ∃ s15 : ByteArray, w.cell? (a2.add (n5.toNat * 1)) = some (.string s15) /\
 Br (s15.toList == s1.toList) (
 runD prog ds w fun w3 =>
 R (.returned (.bool true)) w3) (
 J1 (IntKind.i64.wrap (n5 + 1)) w)) (
 F28_1 R ds w)
def F28_3 (R : Rt) (l0 : SV) (s1 : ByteArray) (n5 : Int) (ds : Ds) (w : World) : Prop :=
 loopT (fun (J1 : (Int) -> World -> Prop) (s : Int) (w : World) => F28_2 R J1 l0 s1 s ds w) n5 w
abbrev F28_4 (R : Rt) (l0 : SV) (s1 : ByteArray) (n5 : Int) (ds : Ds) (w : World) : Prop := F28_3 R l0 s1 n5 ds w
def F28_k6 (R : Rt) : EP := (fun E ds w => dSl (E 0) fun l0 => dStr (E 1) fun s1 => dInt .i64 (E 5) fun n5 => F28_4 R l0 s1 n5 ds w)
def F28_5 (R : Rt) (l0 : SV) (s1 : ByteArray) (ds : Ds) (w : World) : Prop :=
 F28_4 R l0 s1 0 ds w
theorem c28_l : flat (bodyOf f28) = [c28_0, c28_1, c28_2, c28_3, c28_4] := by kernel_rfl
theorem c28_2_l : flat (innerC c28_2) = [c28_2_0] := by kernel_rfl
theorem c28_2_0_l : flat (innerC c28_2_0) = [c28_2_0_0, c28_2_0_1, c28_2_0_2, c28_2_0_3] := by kernel_rfl
theorem F28_1_ok (R : Rt) (ds : Ds) (w : World) (E : Env) (h : F28_1 R ds w) :
    TrL prog f28.ntmps [c28_3, c28_4] (F28_q1 R) E ds w :=
  TrL_leaf (X := F28_1 R ds w) setAll_nil (by kernel_rfl) (by kernel_rfl) h
theorem F28_2_ok (R : Rt) (J1 : (Int) -> World -> Prop) (l0 : SV) (s1 : ByteArray) (n5 : Int) (ds : Ds) (w : World) (E : Env) (e0 : E 0 = .slice l0.a l0.len l0.cap) (e1 : E 1 = .string s1) (e5 : E 5 = .int .i64 n5) (h : F28_2 R J1 l0 s1 n5 ds w) :
    TrL prog f28.ntmps [c28_2_0_0, c28_2_0_1, c28_2_0_2, c28_2_0_3] (F28_q5 R J1) E ds w :=
  TrL_leaf (X := F28_2 R J1 l0 s1 n5 ds w) (setAll_cons e0 (setAll_cons e1 (setAll_cons e5 setAll_nil))) (by kernel_rfl) (by kernel_rfl) h
theorem F28_3_ok (R : Rt) (l0 : SV) (s1 : ByteArray) (n5 : Int) (ds : Ds) (w : World) (E : Env) (e0 : E 0 = .slice l0.a l0.len l0.cap) (e1 : E 1 = .string s1) (e5 : E 5 = .int .i64 n5) (h : F28_3 R l0 s1 n5 ds w) :
    TrL prog f28.ntmps [c28_2_0] (F28_q4 R) E ds w :=
  TrL_one (Tr_loop' (c := innerC c28_2_0) (σ := Int) (enc := (fun (s : Int) (E : Env) => E 5 = .int .i64 s)) (D := (fun E K => dInt .i64 (E 5) fun n5 => K n5)) (F := (fun (J1 : (Int) -> World -> Prop) (s : Int) (w : World) => F28_2 R J1 l0 s1 s ds w)) (s0 := n5) (by kernel_rfl) c28_2_0_l e5 (by kernel_rfl) (fun E K hD => by obtain ⟨n5, e5, hD⟩ := dInt_elim hD; exact ⟨n5, e5, hD⟩)
      (fun J1 s E' w' he ha hF => by
      have e5' := he
      exact F28_2_ok R J1 l0 s1 s ds w' E' ((ha 0 (by kernel_rfl)).trans e0) ((ha 1 (by kernel_rfl)).trans e1) e5' hF) h)
theorem F28_4_ok (R : Rt) (l0 : SV) (s1 : ByteArray) (n5 : Int) (ds : Ds) (w : World) (E : Env) (e0 : E 0 = .slice l0.a l0.len l0.cap) (e1 : E 1 = .string s1) (e5 : E 5 = .int .i64 n5) (h : F28_4 R l0 s1 n5 ds w) :
    TrL prog f28.ntmps [c28_2, c28_3, c28_4] (F28_q1 R) E ds w :=
  TrL_head (K := (F28_k2 R)) (Tr_block' (c := innerC c28_2) (by kernel_rfl) c28_2_l (F28_3_ok R l0 s1 n5 ds w E e0 e1 e5 h))
    (fun E' ds' w' hD => by
      exact F28_1_ok R ds' w' E'  hD)
theorem F28_5_ok (R : Rt) (l0 : SV) (s1 : ByteArray) (ds : Ds) (w : World) (E : Env) (e0 : E 0 = .slice l0.a l0.len l0.cap) (e1 : E 1 = .string s1) (h : F28_5 R l0 s1 ds w) :
    TrL prog f28.ntmps [c28_0, c28_1, c28_2, c28_3, c28_4] (F28_q1 R) E ds w :=
  TrL_piece (pre := [c28_0, c28_1]) (K := (F28_k6 R)) (X := F28_5 R l0 s1 ds w) (setAll_cons e0 (setAll_cons e1 setAll_nil)) (by kernel_rfl) (by kernel_rfl)
    (fun E' ds' w' hD => by
      obtain ⟨l0, e0, hD⟩ := dSl_elim hD; obtain ⟨s1, e1, hD⟩ := dStr_elim hD; obtain ⟨n5, e5, hD⟩ := dInt_elim hD; exact F28_4_ok R l0 s1 n5 ds' w' E' e0 e1 e5 hD) h
theorem F28_calls (l0 : SV) (s1 : ByteArray) (w : World) (R : Rt) (h : F28_5 R l0 s1 [] w) : Calls prog 28 #[.slice l0.a l0.len l0.cap, .string s1] w R :=
  calls_of_L (l := [c28_0, c28_1, c28_2, c28_3, c28_4]) func28 (by kernel_rfl) (by rw [ntmps28]; exact Nat.le_of_ble_eq_true (by kernel_rfl)) c28_l
    (F28_5_ok R l0 s1 [] w _ rfl rfl h)
noncomputable def c29_0 := cI10 f29 0
noncomputable def c29_1 := cI10 f29 1
noncomputable def c29_2 := cI10 f29 2
def F29_q1 (R : Rt) : EQ := endQ prog f29.results.toList R
def F29_1 (R : Rt) (s0 s1 : ByteArray) (ds : Ds) (w : World) : Prop :=
 Br (decide ((s0.size : Int) ≥ (s1.size : Int))) (
 0 ≤ (s1.size : Int) /\ (s1.size : Int).toNat ≤ s0.size /\ 0 ≤ (s1.size : Int).toNat /\
 runD prog ds w fun w1 =>
 R (.returned (.bool ((s0.extract 0 ((s1.size : Int).toNat)).toList == s1.toList))) w1) (
 runD prog ds w fun w2 =>
 R (.returned (.bool false)) w2)
theorem c29_l : flat (bodyOf f29) = [c29_0, c29_1, c29_2] := by kernel_rfl
theorem F29_1_ok (R : Rt) (s0 s1 : ByteArray) (ds : Ds) (w : World) (E : Env) (e0 : E 0 = .string s0) (e1 : E 1 = .string s1) (h : F29_1 R s0 s1 ds w) :
    TrL prog f29.ntmps [c29_0, c29_1, c29_2] (F29_q1 R) E ds w :=
  TrL_leaf (X := F29_1 R s0 s1 ds w) (setAll_cons e0 (setAll_cons e1 setAll_nil)) (by kernel_rfl) (by kernel_rfl) h
theorem F29_calls (s0 s1 : ByteArray) (w : World) (R : Rt) (h : F29_1 R s0 s1 [] w) : Calls prog 29 #[.string s0, .string s1] w R :=
  calls_of_L (l := [c29_0, c29_1, c29_2]) func29 (by kernel_rfl) (by rw [ntmps29]; exact Nat.le_of_ble_eq_true (by kernel_rfl)) c29_l
    (F29_1_ok R s0 s1 [] w _ rfl rfl h)
noncomputable def c31_0 := cI10 f31 0
noncomputable def c31_1 := cI10 f31 1
noncomputable def c31_2 := cI10 f31 2
noncomputable def c31_3 := cI10 f31 3
noncomputable def c31_4 := cI10 f31 4
noncomputable def c31_5 := cI10 f31 5
noncomputable def c31_6 := cI10 f31 6
noncomputable def c31_4_0 := cJ10 c31_4 0
noncomputable def c31_4_0_0 := cJ10 c31_4_0 0
noncomputable def c31_4_0_1 := cJ10 c31_4_0 1
noncomputable def c31_4_0_2 := cJ10 c31_4_0 2
noncomputable def c31_4_0_3 := cJ10 c31_4_0 3
def F31_q1 (R : Rt) : EQ := endQ prog f31.results.toList R
def F31_1 (R : Rt) (ds : Ds) (w : World) : Prop :=
 runD prog ds w fun w1 =>
 R (.returned (.bool true)) w1
def F31_k2 (R : Rt) : EP := (fun E ds w => F31_1 R ds w)
def F31_q3 (R : Rt) : EQ := (thenQ (F31_k2 R) (F31_q1 R))
def F31_q4 (R : Rt) : EQ := (blockQ 0 (F31_q3 R))
def F31_q5 (R : Rt) (J1 : (Int) -> World -> Prop) : EQ := (thenQ (fun E _ w => dInt .i64 (E 5) fun n5 => J1 n5 w) (F31_q4 R))
def F31_2 (R : Rt) (J1 : (Int) -> World -> Prop) (s0 : ByteArray) (n5 : Int) (ds : Ds) (w : World) : Prop :=
 J1 (IntKind.i64.wrap (n5 + 1)) w
def F31_k6 (R : Rt) (J1 : (Int) -> World -> Prop) : EP := (fun E ds w => dStr (E 0) fun s0 => dInt .i64 (E 5) fun n5 => F31_2 R J1 s0 n5 ds w)
def F31_3 (R : Rt) (J1 : (Int) -> World -> Prop) (s0 : ByteArray) (n5 : Int) (ds : Ds) (w : World) : Prop :=
 ∃ b23 : UInt8, 0 ≤ n5 /\ s0[n5.toNat]? = some b23 /\
 Calls prog 49 #[.int .u8 (b23.toNat : Int)] w fun e w2 =>
 ∃ b24 : Bool, e = .returned (.bool b24) /\
 Br b24 (
 ∃ b39 : UInt8, 0 ≤ n5 /\ s0[n5.toNat]? = some b39 /\
 Br (decide ((b39.toNat : Int) ≥ 97)) (
 ∃ b44 : UInt8, 0 ≤ n5 /\ s0[n5.toNat]? = some b44 /\
 Br (decide ((b44.toNat : Int) ≤ 122)) (
 runD prog ds w2 fun w3 =>
 R (.returned (.bool false)) w3) (
 F31_2 R J1 s0 n5 ds w2)) (
 F31_2 R J1 s0 n5 ds w2)) (
 Br (decide (n5 > 0)) (
 ∃ b31 : UInt8, 0 ≤ n5 /\ s0[n5.toNat]? = some b31 /\
 Calls prog 50 #[.int .u8 (b31.toNat : Int)] w2 fun e w4 =>
 ∃ b32 : Bool, e = .returned (.bool b32) /\
 Br (!b32) (
 runD prog ds w4 fun w5 =>
 R (.returned (.bool false)) w5) (
 ∃ b39 : UInt8, 0 ≤ n5 /\ s0[n5.toNat]? = some b39 /\
 Br (decide ((b39.toNat : Int) ≥ 97)) (
 ∃ b44 : UInt8, 0 ≤ n5 /\ s0[n5.toNat]? = some b44 /\
 Br (decide ((b44.toNat : Int) ≤ 122)) (
 runD prog ds w4 fun w6 =>
 R (.returned (.bool false)) w6) (
 F31_2 R J1 s0 n5 ds w4)) (
 F31_2 R J1 s0 n5 ds w4))) (
 runD prog ds w2 fun w7 =>
 R (.returned (.bool false)) w7))
def F31_k7 (R : Rt) (J1 : (Int) -> World -> Prop) : EP := (fun E ds w => dStr (E 0) fun s0 => dInt .i64 (E 5) fun n5 => F31_3 R J1 s0 n5 ds w)
def F31_4 (R : Rt) (J1 : (Int) -> World -> Prop) (s0 : ByteArray) (n5 : Int) (ds : Ds) (w : World) : Prop :=
 Br (decide (n5 < (s0.size : Int))) (
 F31_3 R J1 s0 n5 ds w) (
 F31_1 R ds w)
def F31_5 (R : Rt) (s0 : ByteArray) (n5 : Int) (ds : Ds) (w : World) : Prop :=
 loopT (fun (J1 : (Int) -> World -> Prop) (s : Int) (w : World) => F31_4 R J1 s0 s ds w) n5 w
abbrev F31_6 (R : Rt) (s0 : ByteArray) (n5 : Int) (ds : Ds) (w : World) : Prop := F31_5 R s0 n5 ds w
def F31_k8 (R : Rt) : EP := (fun E ds w => dStr (E 0) fun s0 => dInt .i64 (E 5) fun n5 => F31_6 R s0 n5 ds w)
def F31_7 (R : Rt) (s0 : ByteArray) (n1 : Int) (ds : Ds) (w : World) : Prop :=
 Br (decide ((s0.size : Int) < 1)) (
 runD prog ds w fun w8 =>
 R (.returned (.bool false)) w8) (
 Br (decide ((s0.size : Int) > n1)) (
 runD prog ds w fun w9 =>
 R (.returned (.bool false)) w9) (
 F31_6 R s0 0 ds w))
theorem c31_l : flat (bodyOf f31) = [c31_0, c31_1, c31_2, c31_3, c31_4, c31_5, c31_6] := by kernel_rfl
theorem c31_4_l : flat (innerC c31_4) = [c31_4_0] := by kernel_rfl
theorem c31_4_0_l : flat (innerC c31_4_0) = [c31_4_0_0, c31_4_0_1, c31_4_0_2, c31_4_0_3] := by kernel_rfl
theorem F31_1_ok (R : Rt) (ds : Ds) (w : World) (E : Env) (h : F31_1 R ds w) :
    TrL prog f31.ntmps [c31_5, c31_6] (F31_q1 R) E ds w :=
  TrL_leaf (X := F31_1 R ds w) setAll_nil (by kernel_rfl) (by kernel_rfl) h
theorem F31_2_ok (R : Rt) (J1 : (Int) -> World -> Prop) (s0 : ByteArray) (n5 : Int) (ds : Ds) (w : World) (E : Env) (e0 : E 0 = .string s0) (e5 : E 5 = .int .i64 n5) (h : F31_2 R J1 s0 n5 ds w) :
    TrL prog f31.ntmps [c31_4_0_3] (F31_q5 R J1) E ds w :=
  TrL_leaf (X := F31_2 R J1 s0 n5 ds w) (setAll_cons e0 (setAll_cons e5 setAll_nil)) (by kernel_rfl) (by kernel_rfl) h
theorem F31_3_ok (R : Rt) (J1 : (Int) -> World -> Prop) (s0 : ByteArray) (n5 : Int) (ds : Ds) (w : World) (E : Env) (e0 : E 0 = .string s0) (e5 : E 5 = .int .i64 n5) (h : F31_3 R J1 s0 n5 ds w) :
    TrL prog f31.ntmps [c31_4_0_2, c31_4_0_3] (F31_q5 R J1) E ds w :=
  TrL_piece (pre := [c31_4_0_2]) (K := (F31_k6 R J1)) (X := F31_3 R J1 s0 n5 ds w) (setAll_cons e0 (setAll_cons e5 setAll_nil)) (by kernel_rfl) (by kernel_rfl)
    (fun E' ds' w' hD => by
      obtain ⟨s0, e0, hD⟩ := dStr_elim hD; obtain ⟨n5, e5, hD⟩ := dInt_elim hD; exact F31_2_ok R J1 s0 n5 ds' w' E' e0 e5 hD) h
theorem F31_4_ok (R : Rt) (J1 : (Int) -> World -> Prop) (s0 : ByteArray) (n5 : Int) (ds : Ds) (w : World) (E : Env) (e0 : E 0 = .string s0) (e5 : E 5 = .int .i64 n5) (h : F31_4 R J1 s0 n5 ds w) :
    TrL prog f31.ntmps [c31_4_0_0, c31_4_0_1, c31_4_0_2, c31_4_0_3] (F31_q5 R J1) E ds w :=
  TrL_piece (pre := [c31_4_0_0, c31_4_0_1]) (K := (F31_k7 R J1)) (X := F31_4 R J1 s0 n5 ds w) (setAll_cons e0 (setAll_cons e5 setAll_nil)) (by kernel_rfl) (by kernel_rfl)
    (fun E' ds' w' hD => by
      obtain ⟨s0, e0, hD⟩ := dStr_elim hD; obtain ⟨n5, e5, hD⟩ := dInt_elim hD; exact F31_3_ok R J1 s0 n5 ds' w' E' e0 e5 hD) h
theorem F31_5_ok (R : Rt) (s0 : ByteArray) (n5 : Int) (ds : Ds) (w : World) (E : Env) (e0 : E 0 = .string s0) (e5 : E 5 = .int .i64 n5) (h : F31_5 R s0 n5 ds w) :
    TrL prog f31.ntmps [c31_4_0] (F31_q4 R) E ds w :=
  TrL_one (Tr_loop' (c := innerC c31_4_0) (σ := Int) (enc := (fun (s : Int) (E : Env) => E 5 = .int .i64 s)) (D := (fun E K => dInt .i64 (E 5) fun n5 => K n5)) (F := (fun (J1 : (Int) -> World -> Prop) (s : Int) (w : World) => F31_4 R J1 s0 s ds w)) (s0 := n5) (by kernel_rfl) c31_4_0_l e5 (by kernel_rfl) (fun E K hD => by obtain ⟨n5, e5, hD⟩ := dInt_elim hD; exact ⟨n5, e5, hD⟩)
      (fun J1 s E' w' he ha hF => by
      have e5' := he
      exact F31_4_ok R J1 s0 s ds w' E' ((ha 0 (by kernel_rfl)).trans e0) e5' hF) h)
theorem F31_6_ok (R : Rt) (s0 : ByteArray) (n5 : Int) (ds : Ds) (w : World) (E : Env) (e0 : E 0 = .string s0) (e5 : E 5 = .int .i64 n5) (h : F31_6 R s0 n5 ds w) :
    TrL prog f31.ntmps [c31_4, c31_5, c31_6] (F31_q1 R) E ds w :=
  TrL_head (K := (F31_k2 R)) (Tr_block' (c := innerC c31_4) (by kernel_rfl) c31_4_l (F31_5_ok R s0 n5 ds w E e0 e5 h))
    (fun E' ds' w' hD => by
      exact F31_1_ok R ds' w' E'  hD)
theorem F31_7_ok (R : Rt) (s0 : ByteArray) (n1 : Int) (ds : Ds) (w : World) (E : Env) (e0 : E 0 = .string s0) (e1 : E 1 = .int .i64 n1) (h : F31_7 R s0 n1 ds w) :
    TrL prog f31.ntmps [c31_0, c31_1, c31_2, c31_3, c31_4, c31_5, c31_6] (F31_q1 R) E ds w :=
  TrL_piece (pre := [c31_0, c31_1, c31_2, c31_3]) (K := (F31_k8 R)) (X := F31_7 R s0 n1 ds w) (setAll_cons e0 (setAll_cons e1 setAll_nil)) (by kernel_rfl) (by kernel_rfl)
    (fun E' ds' w' hD => by
      obtain ⟨s0, e0, hD⟩ := dStr_elim hD; obtain ⟨n5, e5, hD⟩ := dInt_elim hD; exact F31_6_ok R s0 n5 ds' w' E' e0 e5 hD) h
theorem F31_calls (s0 : ByteArray) (n1 : Int) (w : World) (R : Rt) (h : F31_7 R s0 n1 [] w) : Calls prog 31 #[.string s0, .int .i64 n1] w R :=
  calls_of_L (l := [c31_0, c31_1, c31_2, c31_3, c31_4, c31_5, c31_6]) func31 (by kernel_rfl) (by rw [ntmps31]; exact Nat.le_of_ble_eq_true (by kernel_rfl)) c31_l
    (F31_7_ok R s0 n1 [] w _ rfl rfl h)
noncomputable def c39_0 := cI10 f39 0
noncomputable def c39_1 := cI10 f39 1
noncomputable def c39_2 := cI10 f39 2
noncomputable def c39_3 := cI10 f39 3
noncomputable def c39_4 := cI10 f39 4
noncomputable def c39_2_0 := cJ10 c39_2 0
noncomputable def c39_2_0_0 := cJ10 c39_2_0 0
noncomputable def c39_2_0_1 := cJ10 c39_2_0 1
noncomputable def c39_2_0_2 := cJ10 c39_2_0 2
noncomputable def c39_2_0_3 := cJ10 c39_2_0 3
def F39_q1 (R : Rt) : EQ := endQ prog f39.results.toList R
def F39_1 (R : Rt) (ds : Ds) (w : World) : Prop :=
 runD prog ds w fun w1 =>
 R (.returned (.int .i64 (-1))) w1
def F39_k2 (R : Rt) : EP := (fun E ds w => F39_1 R ds w)
def F39_q3 (R : Rt) : EQ := (thenQ (F39_k2 R) (F39_q1 R))
def F39_q4 (R : Rt) : EQ := (blockQ 0 (F39_q3 R))
def F39_q5 (R : Rt) (J1 : (Int) -> World -> Prop) : EQ := (thenQ (fun E _ w => dInt .i64 (E 8) fun n8 => J1 n8 w) (F39_q4 R))
def F39_2 (R : Rt) (J1 : (Int) -> World -> Prop) (l0 : SV) (s1 : ByteArray) (n7 n8 : Int) (ds : Ds) (w : World) : Prop :=
 Br (decide (n8 < n7)) (
 ∃ a2 : Addr, l0.a = some a2 /\ 0 ≤ n8 /\ n8 < (l0.len : Int) /\
 ∃ s15 : ByteArray, w.cell? (a2.add (n8.toNat * 1)) = some (.string s15) /\
 Br (s1.toList == s15.toList) (
 runD prog ds w fun w3 =>
 R (.returned (.int .i64 n8)) w3) (
 J1 (IntKind.i64.wrap (n8 + 1)) w)) (
 F39_1 R ds w)
def F39_3 (R : Rt) (l0 : SV) (s1 : ByteArray) (n7 n8 : Int) (ds : Ds) (w : World) : Prop :=
 loopT (fun (J1 : (Int) -> World -> Prop) (s : Int) (w : World) => F39_2 R J1 l0 s1 n7 s ds w) n8 w
abbrev F39_4 (R : Rt) (l0 : SV) (s1 : ByteArray) (n7 n8 : Int) (ds : Ds) (w : World) : Prop := F39_3 R l0 s1 n7 n8 ds w
def F39_k6 (R : Rt) : EP := (fun E ds w => dSl (E 0) fun l0 => dStr (E 1) fun s1 => dInt .i64 (E 7) fun n7 => dInt .i64 (E 8) fun n8 => F39_4 R l0 s1 n7 n8 ds w)
def F39_5 (R : Rt) (l0 : SV) (s1 : ByteArray) (ds : Ds) (w : World) : Prop :=
 F39_4 R l0 s1 (l0.len : Int) 0 ds w
theorem c39_l : flat (bodyOf f39) = [c39_0, c39_1, c39_2, c39_3, c39_4] := by kernel_rfl
theorem c39_2_l : flat (innerC c39_2) = [c39_2_0] := by kernel_rfl
theorem c39_2_0_l : flat (innerC c39_2_0) = [c39_2_0_0, c39_2_0_1, c39_2_0_2, c39_2_0_3] := by kernel_rfl
theorem F39_1_ok (R : Rt) (ds : Ds) (w : World) (E : Env) (h : F39_1 R ds w) :
    TrL prog f39.ntmps [c39_3, c39_4] (F39_q1 R) E ds w :=
  TrL_leaf (X := F39_1 R ds w) setAll_nil (by kernel_rfl) (by kernel_rfl) h
theorem F39_2_ok (R : Rt) (J1 : (Int) -> World -> Prop) (l0 : SV) (s1 : ByteArray) (n7 n8 : Int) (ds : Ds) (w : World) (E : Env) (e0 : E 0 = .slice l0.a l0.len l0.cap) (e1 : E 1 = .string s1) (e7 : E 7 = .int .i64 n7) (e8 : E 8 = .int .i64 n8) (h : F39_2 R J1 l0 s1 n7 n8 ds w) :
    TrL prog f39.ntmps [c39_2_0_0, c39_2_0_1, c39_2_0_2, c39_2_0_3] (F39_q5 R J1) E ds w :=
  TrL_leaf (X := F39_2 R J1 l0 s1 n7 n8 ds w) (setAll_cons e0 (setAll_cons e1 (setAll_cons e7 (setAll_cons e8 setAll_nil)))) (by kernel_rfl) (by kernel_rfl) h
theorem F39_3_ok (R : Rt) (l0 : SV) (s1 : ByteArray) (n7 n8 : Int) (ds : Ds) (w : World) (E : Env) (e0 : E 0 = .slice l0.a l0.len l0.cap) (e1 : E 1 = .string s1) (e7 : E 7 = .int .i64 n7) (e8 : E 8 = .int .i64 n8) (h : F39_3 R l0 s1 n7 n8 ds w) :
    TrL prog f39.ntmps [c39_2_0] (F39_q4 R) E ds w :=
  TrL_one (Tr_loop' (c := innerC c39_2_0) (σ := Int) (enc := (fun (s : Int) (E : Env) => E 8 = .int .i64 s)) (D := (fun E K => dInt .i64 (E 8) fun n8 => K n8)) (F := (fun (J1 : (Int) -> World -> Prop) (s : Int) (w : World) => F39_2 R J1 l0 s1 n7 s ds w)) (s0 := n8) (by kernel_rfl) c39_2_0_l e8 (by kernel_rfl) (fun E K hD => by obtain ⟨n8, e8, hD⟩ := dInt_elim hD; exact ⟨n8, e8, hD⟩)
      (fun J1 s E' w' he ha hF => by
      have e8' := he
      exact F39_2_ok R J1 l0 s1 n7 s ds w' E' ((ha 0 (by kernel_rfl)).trans e0) ((ha 1 (by kernel_rfl)).trans e1) ((ha 7 (by kernel_rfl)).trans e7) e8' hF) h)
theorem F39_4_ok (R : Rt) (l0 : SV) (s1 : ByteArray) (n7 n8 : Int) (ds : Ds) (w : World) (E : Env) (e0 : E 0 = .slice l0.a l0.len l0.cap) (e1 : E 1 = .string s1) (e7 : E 7 = .int .i64 n7) (e8 : E 8 = .int .i64 n8) (h : F39_4 R l0 s1 n7 n8 ds w) :
    TrL prog f39.ntmps [c39_2, c39_3, c39_4] (F39_q1 R) E ds w :=
  TrL_head (K := (F39_k2 R)) (Tr_block' (c := innerC c39_2) (by kernel_rfl) c39_2_l (F39_3_ok R l0 s1 n7 n8 ds w E e0 e1 e7 e8 h))
    (fun E' ds' w' hD => by
      exact F39_1_ok R ds' w' E'  hD)
theorem F39_5_ok (R : Rt) (l0 : SV) (s1 : ByteArray) (ds : Ds) (w : World) (E : Env) (e0 : E 0 = .slice l0.a l0.len l0.cap) (e1 : E 1 = .string s1) (h : F39_5 R l0 s1 ds w) :
    TrL prog f39.ntmps [c39_0, c39_1, c39_2, c39_3, c39_4] (F39_q1 R) E ds w :=
  TrL_piece (pre := [c39_0, c39_1]) (K := (F39_k6 R)) (X := F39_5 R l0 s1 ds w) (setAll_cons e0 (setAll_cons e1 setAll_nil)) (by kernel_rfl) (by kernel_rfl)
    (fun E' ds' w' hD => by
      obtain ⟨l0, e0, hD⟩ := dSl_elim hD; obtain ⟨s1, e1, hD⟩ := dStr_elim hD; obtain ⟨n7, e7, hD⟩ := dInt_elim hD; obtain ⟨n8, e8, hD⟩ := dInt_elim hD; exact F39_4_ok R l0 s1 n7 n8 ds' w' E' e0 e1 e7 e8 hD) h
theorem F39_calls (l0 : SV) (s1 : ByteArray) (w : World) (R : Rt) (h : F39_5 R l0 s1 [] w) : Calls prog 39 #[.slice l0.a l0.len l0.cap, .string s1] w R :=
  calls_of_L (l := [c39_0, c39_1, c39_2, c39_3, c39_4]) func39 (by kernel_rfl) (by rw [ntmps39]; exact Nat.le_of_ble_eq_true (by kernel_rfl)) c39_l
    (F39_5_ok R l0 s1 [] w _ rfl rfl h)
end Go.Proofs.YtlogipcgejfnnaaDoor
