import Derived.Test.YtecmfdfhpldmmaaGreatDoorProg
import Derived.Test.YtecmfdfhpldmmaaGreatDoorShEight
/- Shallow texts of functions, printed by program, each checked by the kernel against the loaded code. No condition. -/
set_option maxRecDepth 100000
set_option linter.unusedVariables false
namespace Go.Proofs.YtecmfdfhpldmmaaGreatDoor
open Go.Sh
open Tryz
@[reducible] noncomputable def cI22 (f : Func) (i : Nat) : Code := itemAt (flat (bodyOf f)) i
@[reducible] noncomputable def cJ22 (c : Code) (i : Nat) : Code := itemAt (flat (innerC c)) i
noncomputable def c120_0 := cI22 f120 0
noncomputable def c120_1 := cI22 f120 1
noncomputable def c120_2 := cI22 f120 2
noncomputable def c120_3 := cI22 f120 3
noncomputable def c120_4 := cI22 f120 4
noncomputable def c120_5 := cI22 f120 5
noncomputable def c120_6 := cI22 f120 6
noncomputable def c120_7 := cI22 f120 7
noncomputable def c120_8 := cI22 f120 8
noncomputable def c120_9 := cI22 f120 9
noncomputable def c120_10 := cI22 f120 10
noncomputable def c120_11 := cI22 f120 11
noncomputable def c120_7_0 := cJ22 c120_7 0
noncomputable def c120_7_0_0 := cJ22 c120_7_0 0
noncomputable def c120_7_0_1 := cJ22 c120_7_0 1
noncomputable def c120_7_0_2 := cJ22 c120_7_0 2
noncomputable def c120_2_0 := cJ22 c120_2 0
noncomputable def c120_2_0_0 := cJ22 c120_2_0 0
noncomputable def c120_2_0_1 := cJ22 c120_2_0 1
noncomputable def c120_2_0_2 := cJ22 c120_2_0 2
def F120_q1 (R : Rt) : EQ := endQ prog f120.results.toList R
def F120_1 (R : Rt) (b4 : Bool) (n5 : Int) (ds : Ds) (w : World) : Prop :=
 Br b4 (
 runD prog ds w fun w1 =>
 R (.returned (.int .i64 (IntKind.i64.wrap (0 - n5)))) w1) (
 runD prog ds w fun w2 =>
 R (.returned (.int .i64 n5)) w2)
def F120_k2 (R : Rt) : EP := (fun E ds w => dBl (E 4) fun b4 => dInt .i64 (E 5) fun n5 => F120_1 R b4 n5 ds w)
def F120_q3 (R : Rt) : EQ := (thenQ (F120_k2 R) (F120_q1 R))
def F120_q4 (R : Rt) : EQ := (blockQ 2 (F120_q3 R))
def F120_q5 (R : Rt) (J1 : (Int × Int) -> World -> Prop) : EQ := (thenQ (fun E _ w => dInt .i64 (E 3) fun n3 => dInt .i64 (E 5) fun n5 => J1 (n3, n5) w) (F120_q4 R))
def F120_2 (R : Rt) (J1 : (Int × Int) -> World -> Prop) (s0 : ByteArray) (n3 : Int) (b4 : Bool) (n5 : Int) (ds : Ds) (w : World) : Prop :=
 Br (decide (n3 < (s0.size : Int))) (
 ∃ b47 : UInt8, 0 ≤ n3 /\ s0[n3.toNat]? = some b47 /\
 Calls prog 145 #[.int .u8 (b47.toNat : Int)] w fun e w3 =>
 ∃ b48 : Bool, e = .returned (.bool b48) /\
 Br b48 (
 ∃ b54 : UInt8, 0 ≤ n3 /\ s0[n3.toNat]? = some b54 /\
 ∃ n58 : Int, ∃ w4 : World, (Builtin.min_ #[3, 3] 3 #[.int .i64 (IntKind.i64.wrap ((IntKind.i64.wrap ((10 : Int) * n5)) + (IntKind.i64.wrap (IntKind.u8.wrap ((b54.toNat : Int) - 48))))), .int .i64 1000000000000000]).run prog w3 = .ok (.int .i64 n58) w4 /\
 J1 ((IntKind.i64.wrap (n3 + 1)), n58) w4) (
 F120_1 R b4 n5 ds w3)) (
 F120_1 R b4 n5 ds w)
def F120_3 (R : Rt) (s0 : ByteArray) (n3 : Int) (b4 : Bool) (n5 : Int) (ds : Ds) (w : World) : Prop :=
 loopT (fun (J1 : (Int × Int) -> World -> Prop) (s : Int × Int) (w : World) => F120_2 R J1 s0 s.1 b4 s.2 ds w) (n3, n5) w
abbrev F120_4 (R : Rt) (s0 : ByteArray) (n3 : Int) (b4 : Bool) (n5 : Int) (ds : Ds) (w : World) : Prop := F120_3 R s0 n3 b4 n5 ds w
def F120_k6 (R : Rt) : EP := (fun E ds w => dStr (E 0) fun s0 => dInt .i64 (E 3) fun n3 => dBl (E 4) fun b4 => dInt .i64 (E 5) fun n5 => F120_4 R s0 n3 b4 n5 ds w)
def F120_5 (R : Rt) (s0 : ByteArray) (n3 : Int) (ds : Ds) (w : World) : Prop :=
 Br (decide (n3 < (s0.size : Int))) (
 ∃ b25 : UInt8, 0 ≤ n3 /\ s0[n3.toNat]? = some b25 /\
 Br ((b25.toNat : Int) == 45) (
 ∃ b36 : UInt8, 0 ≤ n3 /\ s0[n3.toNat]? = some b36 /\
 F120_4 R s0 (IntKind.i64.wrap (n3 + 1)) ((b36.toNat : Int) == 45) 0 ds w) (
 ∃ b30 : UInt8, 0 ≤ n3 /\ s0[n3.toNat]? = some b30 /\
 Br ((b30.toNat : Int) == 43) (
 ∃ b36 : UInt8, 0 ≤ n3 /\ s0[n3.toNat]? = some b36 /\
 F120_4 R s0 (IntKind.i64.wrap (n3 + 1)) ((b36.toNat : Int) == 45) 0 ds w) (
 F120_4 R s0 n3 false 0 ds w))) (
 F120_4 R s0 n3 false 0 ds w)
def F120_k7 (R : Rt) : EP := (fun E ds w => dStr (E 0) fun s0 => dInt .i64 (E 3) fun n3 => F120_5 R s0 n3 ds w)
def F120_q8 (R : Rt) : EQ := (thenQ (F120_k7 R) (F120_q1 R))
def F120_q9 (R : Rt) : EQ := (blockQ 0 (F120_q8 R))
def F120_q10 (R : Rt) (J1 : (Int) -> World -> Prop) : EQ := (thenQ (fun E _ w => dInt .i64 (E 3) fun n3 => J1 n3 w) (F120_q9 R))
def F120_6 (R : Rt) (J1 : (Int) -> World -> Prop) (s0 : ByteArray) (n3 : Int) (ds : Ds) (w : World) : Prop :=
 Br (decide (n3 < (s0.size : Int))) (
 ∃ b13 : UInt8, 0 ≤ n3 /\ s0[n3.toNat]? = some b13 /\
 Br ((b13.toNat : Int) == 32) (
 J1 (IntKind.i64.wrap (n3 + 1)) w) (
 F120_5 R s0 n3 ds w)) (
 F120_5 R s0 n3 ds w)
def F120_7 (R : Rt) (s0 : ByteArray) (n3 : Int) (ds : Ds) (w : World) : Prop :=
 loopT (fun (J1 : (Int) -> World -> Prop) (s : Int) (w : World) => F120_6 R J1 s0 s ds w) n3 w
abbrev F120_8 (R : Rt) (s0 : ByteArray) (n3 : Int) (ds : Ds) (w : World) : Prop := F120_7 R s0 n3 ds w
def F120_k11 (R : Rt) : EP := (fun E ds w => dStr (E 0) fun s0 => dInt .i64 (E 3) fun n3 => F120_8 R s0 n3 ds w)
def F120_9 (R : Rt) (s0 : ByteArray) (ds : Ds) (w : World) : Prop :=
 F120_8 R s0 0 ds w
theorem c120_l : flat (bodyOf f120) = [c120_0, c120_1, c120_2, c120_3, c120_4, c120_5, c120_6, c120_7, c120_8, c120_9, c120_10, c120_11] := by kernel_rfl
theorem c120_7_l : flat (innerC c120_7) = [c120_7_0] := by kernel_rfl
theorem c120_7_0_l : flat (innerC c120_7_0) = [c120_7_0_0, c120_7_0_1, c120_7_0_2] := by kernel_rfl
theorem c120_2_l : flat (innerC c120_2) = [c120_2_0] := by kernel_rfl
theorem c120_2_0_l : flat (innerC c120_2_0) = [c120_2_0_0, c120_2_0_1, c120_2_0_2] := by kernel_rfl
theorem F120_1_ok (R : Rt) (b4 : Bool) (n5 : Int) (ds : Ds) (w : World) (E : Env) (e4 : E 4 = .bool b4) (e5 : E 5 = .int .i64 n5) (h : F120_1 R b4 n5 ds w) :
    TrL prog f120.ntmps [c120_8, c120_9, c120_10, c120_11] (F120_q1 R) E ds w :=
  TrL_leaf (X := F120_1 R b4 n5 ds w) (setAll_cons e4 (setAll_cons e5 setAll_nil)) (by kernel_rfl) (by kernel_rfl) h
theorem F120_2_ok (R : Rt) (J1 : (Int × Int) -> World -> Prop) (s0 : ByteArray) (n3 : Int) (b4 : Bool) (n5 : Int) (ds : Ds) (w : World) (E : Env) (e0 : E 0 = .string s0) (e3 : E 3 = .int .i64 n3) (e4 : E 4 = .bool b4) (e5 : E 5 = .int .i64 n5) (h : F120_2 R J1 s0 n3 b4 n5 ds w) :
    TrL prog f120.ntmps [c120_7_0_0, c120_7_0_1, c120_7_0_2] (F120_q5 R J1) E ds w :=
  TrL_leaf (X := F120_2 R J1 s0 n3 b4 n5 ds w) (setAll_cons e0 (setAll_cons e3 (setAll_cons e4 (setAll_cons e5 setAll_nil)))) (by kernel_rfl) (by kernel_rfl) h
theorem F120_3_ok (R : Rt) (s0 : ByteArray) (n3 : Int) (b4 : Bool) (n5 : Int) (ds : Ds) (w : World) (E : Env) (e0 : E 0 = .string s0) (e3 : E 3 = .int .i64 n3) (e4 : E 4 = .bool b4) (e5 : E 5 = .int .i64 n5) (h : F120_3 R s0 n3 b4 n5 ds w) :
    TrL prog f120.ntmps [c120_7_0] (F120_q4 R) E ds w :=
  TrL_one (Tr_loop' (c := innerC c120_7_0) (σ := Int × Int) (enc := (fun (s : Int × Int) (E : Env) => E 3 = .int .i64 s.1 /\ E 5 = .int .i64 s.2)) (D := (fun E K => dInt .i64 (E 3) fun n3 => dInt .i64 (E 5) fun n5 => K (n3, n5))) (F := (fun (J1 : (Int × Int) -> World -> Prop) (s : Int × Int) (w : World) => F120_2 R J1 s0 s.1 b4 s.2 ds w)) (s0 := (n3, n5)) (by kernel_rfl) c120_7_0_l ⟨e3, e5⟩ (by kernel_rfl) (fun E K hD => by obtain ⟨n3, e3, hD⟩ := dInt_elim hD; obtain ⟨n5, e5, hD⟩ := dInt_elim hD; exact ⟨(n3, n5), ⟨e3, e5⟩, hD⟩)
      (fun J1 s E' w' he ha hF => by
      obtain ⟨e3', e5'⟩ := he
      exact F120_2_ok R J1 s0 s.1 b4 s.2 ds w' E' ((ha 0 (by kernel_rfl)).trans e0) e3' ((ha 4 (by kernel_rfl)).trans e4) e5' hF) h)
theorem F120_4_ok (R : Rt) (s0 : ByteArray) (n3 : Int) (b4 : Bool) (n5 : Int) (ds : Ds) (w : World) (E : Env) (e0 : E 0 = .string s0) (e3 : E 3 = .int .i64 n3) (e4 : E 4 = .bool b4) (e5 : E 5 = .int .i64 n5) (h : F120_4 R s0 n3 b4 n5 ds w) :
    TrL prog f120.ntmps [c120_7, c120_8, c120_9, c120_10, c120_11] (F120_q1 R) E ds w :=
  TrL_head (K := (F120_k2 R)) (Tr_block' (c := innerC c120_7) (by kernel_rfl) c120_7_l (F120_3_ok R s0 n3 b4 n5 ds w E e0 e3 e4 e5 h))
    (fun E' ds' w' hD => by
      obtain ⟨b4, e4, hD⟩ := dBl_elim hD; obtain ⟨n5, e5, hD⟩ := dInt_elim hD; exact F120_1_ok R b4 n5 ds' w' E' e4 e5 hD)
theorem F120_5_ok (R : Rt) (s0 : ByteArray) (n3 : Int) (ds : Ds) (w : World) (E : Env) (e0 : E 0 = .string s0) (e3 : E 3 = .int .i64 n3) (h : F120_5 R s0 n3 ds w) :
    TrL prog f120.ntmps [c120_3, c120_4, c120_5, c120_6, c120_7, c120_8, c120_9, c120_10, c120_11] (F120_q1 R) E ds w :=
  TrL_piece (pre := [c120_3, c120_4, c120_5, c120_6]) (K := (F120_k6 R)) (X := F120_5 R s0 n3 ds w) (setAll_cons e0 (setAll_cons e3 setAll_nil)) (by kernel_rfl) (by kernel_rfl)
    (fun E' ds' w' hD => by
      obtain ⟨s0, e0, hD⟩ := dStr_elim hD; obtain ⟨n3, e3, hD⟩ := dInt_elim hD; obtain ⟨b4, e4, hD⟩ := dBl_elim hD; obtain ⟨n5, e5, hD⟩ := dInt_elim hD; exact F120_4_ok R s0 n3 b4 n5 ds' w' E' e0 e3 e4 e5 hD) h
theorem F120_6_ok (R : Rt) (J1 : (Int) -> World -> Prop) (s0 : ByteArray) (n3 : Int) (ds : Ds) (w : World) (E : Env) (e0 : E 0 = .string s0) (e3 : E 3 = .int .i64 n3) (h : F120_6 R J1 s0 n3 ds w) :
    TrL prog f120.ntmps [c120_2_0_0, c120_2_0_1, c120_2_0_2] (F120_q10 R J1) E ds w :=
  TrL_leaf (X := F120_6 R J1 s0 n3 ds w) (setAll_cons e0 (setAll_cons e3 setAll_nil)) (by kernel_rfl) (by kernel_rfl) h
theorem F120_7_ok (R : Rt) (s0 : ByteArray) (n3 : Int) (ds : Ds) (w : World) (E : Env) (e0 : E 0 = .string s0) (e3 : E 3 = .int .i64 n3) (h : F120_7 R s0 n3 ds w) :
    TrL prog f120.ntmps [c120_2_0] (F120_q9 R) E ds w :=
  TrL_one (Tr_loop' (c := innerC c120_2_0) (σ := Int) (enc := (fun (s : Int) (E : Env) => E 3 = .int .i64 s)) (D := (fun E K => dInt .i64 (E 3) fun n3 => K n3)) (F := (fun (J1 : (Int) -> World -> Prop) (s : Int) (w : World) => F120_6 R J1 s0 s ds w)) (s0 := n3) (by kernel_rfl) c120_2_0_l e3 (by kernel_rfl) (fun E K hD => by obtain ⟨n3, e3, hD⟩ := dInt_elim hD; exact ⟨n3, e3, hD⟩)
      (fun J1 s E' w' he ha hF => by
      have e3' := he
      exact F120_6_ok R J1 s0 s ds w' E' ((ha 0 (by kernel_rfl)).trans e0) e3' hF) h)
theorem F120_8_ok (R : Rt) (s0 : ByteArray) (n3 : Int) (ds : Ds) (w : World) (E : Env) (e0 : E 0 = .string s0) (e3 : E 3 = .int .i64 n3) (h : F120_8 R s0 n3 ds w) :
    TrL prog f120.ntmps [c120_2, c120_3, c120_4, c120_5, c120_6, c120_7, c120_8, c120_9, c120_10, c120_11] (F120_q1 R) E ds w :=
  TrL_head (K := (F120_k7 R)) (Tr_block' (c := innerC c120_2) (by kernel_rfl) c120_2_l (F120_7_ok R s0 n3 ds w E e0 e3 h))
    (fun E' ds' w' hD => by
      obtain ⟨s0, e0, hD⟩ := dStr_elim hD; obtain ⟨n3, e3, hD⟩ := dInt_elim hD; exact F120_5_ok R s0 n3 ds' w' E' e0 e3 hD)
theorem F120_9_ok (R : Rt) (s0 : ByteArray) (ds : Ds) (w : World) (E : Env) (e0 : E 0 = .string s0) (h : F120_9 R s0 ds w) :
    TrL prog f120.ntmps [c120_0, c120_1, c120_2, c120_3, c120_4, c120_5, c120_6, c120_7, c120_8, c120_9, c120_10, c120_11] (F120_q1 R) E ds w :=
  TrL_piece (pre := [c120_0, c120_1]) (K := (F120_k11 R)) (X := F120_9 R s0 ds w) (setAll_cons e0 setAll_nil) (by kernel_rfl) (by kernel_rfl)
    (fun E' ds' w' hD => by
      obtain ⟨s0, e0, hD⟩ := dStr_elim hD; obtain ⟨n3, e3, hD⟩ := dInt_elim hD; exact F120_8_ok R s0 n3 ds' w' E' e0 e3 hD) h
theorem F120_calls (s0 : ByteArray) (w : World) (R : Rt) (h : F120_9 R s0 [] w) : Calls prog 120 #[.string s0] w R :=
  calls_of_L (l := [c120_0, c120_1, c120_2, c120_3, c120_4, c120_5, c120_6, c120_7, c120_8, c120_9, c120_10, c120_11]) func120 (by kernel_rfl) (by rw [ntmps120]; exact Nat.le_of_ble_eq_true (by kernel_rfl)) c120_l
    (F120_9_ok R s0 [] w _ rfl h)
noncomputable def c122_0 := cI22 f122 0
noncomputable def c122_1 := cI22 f122 1
noncomputable def c122_2 := cI22 f122 2
noncomputable def c122_3 := cI22 f122 3
noncomputable def c122_4 := cI22 f122 4
noncomputable def c122_5 := cI22 f122 5
noncomputable def c122_6 := cI22 f122 6
noncomputable def c122_7 := cI22 f122 7
noncomputable def c122_8 := cI22 f122 8
noncomputable def c122_9 := cI22 f122 9
noncomputable def c122_6_0 := cJ22 c122_6 0
noncomputable def c122_6_0_0 := cJ22 c122_6_0 0
noncomputable def c122_6_0_1 := cJ22 c122_6_0 1
noncomputable def c122_6_0_2 := cJ22 c122_6_0 2
noncomputable def c122_6_0_3 := cJ22 c122_6_0 3
def F122_q1 (R : Rt) : EQ := endQ prog f122.results.toList R
def F122_1 (R : Rt) (s0 : ByteArray) (ds : Ds) (w : World) : Prop :=
 dwE w fun w1 =>
 0 ≤ (4 : Int) /\ (4 : Int).toNat ≤ s0.size /\ 0 ≤ (4 : Int).toNat /\
 0 ≤ (6 : Int) /\ (6 : Int).toNat ≤ s0.size /\ 0 ≤ (4 : Int) /\ (4 : Int).toNat ≤ (6 : Int).toNat /\
 s0.size ≤ s0.size /\ 0 ≤ (6 : Int) /\ (6 : Int).toNat ≤ s0.size /\
 Calls prog 120 #[.string (s0.extract 0 ((4 : Int).toNat))] w1 fun e w2 =>
 ∃ n24 : Int, e = .returned (.int .i64 n24) /\
 Calls prog 120 #[.string (s0.extract ((4 : Int).toNat) ((6 : Int).toNat))] w2 fun e w3 =>
 ∃ n27 : Int, e = .returned (.int .i64 n27) /\
 Calls prog 120 #[.string (s0.extract ((6 : Int).toNat) s0.size)] w3 fun e w4 =>
 ∃ n30 : Int, e = .returned (.int .i64 n30) /\
 Calls prog 155 #[.int .i64 n24, .int .i64 n27, .int .i64 n30] w4 fun e w5 =>
 ∃ n31_0 : Int, ∃ n31_1 : Int, e = .returned (.tuple #[.int .i64 n31_0, .int .i64 n31_1]) /\
 runD prog ds w5 fun w6 =>
 R (.returned (.tuple #[.int .i64 n31_0, .bool (n31_1 == 0)])) w6
def F122_k2 (R : Rt) : EP := (fun E ds w => dStr (E 0) fun s0 => F122_1 R s0 ds w)
def F122_q3 (R : Rt) : EQ := (thenQ (F122_k2 R) (F122_q1 R))
def F122_q4 (R : Rt) : EQ := (blockQ 0 (F122_q3 R))
def F122_q5 (R : Rt) (J1 : (Int) -> World -> Prop) : EQ := (thenQ (fun E _ w => dInt .i64 (E 4) fun n4 => J1 n4 w) (F122_q4 R))
def F122_2 (R : Rt) (J1 : (Int) -> World -> Prop) (s0 : ByteArray) (n4 : Int) (ds : Ds) (w : World) : Prop :=
 Br (decide (n4 < 8)) (
 ∃ b18 : UInt8, 0 ≤ n4 /\ s0[n4.toNat]? = some b18 /\
 Calls prog 145 #[.int .u8 (b18.toNat : Int)] w fun e w7 =>
 ∃ b19 : Bool, e = .returned (.bool b19) /\
 Br (!b19) (
 runD prog ds w7 fun w8 =>
 R (.returned (.tuple #[.int .i64 0, .bool false])) w8) (
 J1 (IntKind.i64.wrap (n4 + 1)) w7)) (
 F122_1 R s0 ds w)
def F122_3 (R : Rt) (s0 : ByteArray) (n4 : Int) (ds : Ds) (w : World) : Prop :=
 loopT (fun (J1 : (Int) -> World -> Prop) (s : Int) (w : World) => F122_2 R J1 s0 s ds w) n4 w
abbrev F122_4 (R : Rt) (s0 : ByteArray) (n4 : Int) (ds : Ds) (w : World) : Prop := F122_3 R s0 n4 ds w
def F122_k6 (R : Rt) : EP := (fun E ds w => dStr (E 0) fun s0 => dInt .i64 (E 4) fun n4 => F122_4 R s0 n4 ds w)
def F122_5 (R : Rt) (s0 : ByteArray) (ds : Ds) (w : World) : Prop :=
 Br (s0.toList == (⟨#[32, 32, 32, 32, 32, 32, 32, 32]⟩ : ByteArray).toList) (
 runD prog ds w fun w9 =>
 R (.returned (.tuple #[.int .i64 0, .bool true])) w9) (
 Br ((s0.size : Int) != 8) (
 runD prog ds w fun w10 =>
 R (.returned (.tuple #[.int .i64 0, .bool false])) w10) (
 F122_4 R s0 0 ds w))
theorem c122_l : flat (bodyOf f122) = [c122_0, c122_1, c122_2, c122_3, c122_4, c122_5, c122_6, c122_7, c122_8, c122_9] := by kernel_rfl
theorem c122_6_l : flat (innerC c122_6) = [c122_6_0] := by kernel_rfl
theorem c122_6_0_l : flat (innerC c122_6_0) = [c122_6_0_0, c122_6_0_1, c122_6_0_2, c122_6_0_3] := by kernel_rfl
theorem F122_1_ok (R : Rt) (s0 : ByteArray) (ds : Ds) (w : World) (E : Env) (e0 : E 0 = .string s0) (h : F122_1 R s0 ds w) :
    TrL prog f122.ntmps [c122_7, c122_8, c122_9] (F122_q1 R) E ds w :=
  TrL_leaf (X := F122_1 R s0 ds w) (setAll_cons e0 setAll_nil) (by kernel_rfl) (by kernel_rfl) h
theorem F122_2_ok (R : Rt) (J1 : (Int) -> World -> Prop) (s0 : ByteArray) (n4 : Int) (ds : Ds) (w : World) (E : Env) (e0 : E 0 = .string s0) (e4 : E 4 = .int .i64 n4) (h : F122_2 R J1 s0 n4 ds w) :
    TrL prog f122.ntmps [c122_6_0_0, c122_6_0_1, c122_6_0_2, c122_6_0_3] (F122_q5 R J1) E ds w :=
  TrL_leaf (X := F122_2 R J1 s0 n4 ds w) (setAll_cons e0 (setAll_cons e4 setAll_nil)) (by kernel_rfl) (by kernel_rfl) h
theorem F122_3_ok (R : Rt) (s0 : ByteArray) (n4 : Int) (ds : Ds) (w : World) (E : Env) (e0 : E 0 = .string s0) (e4 : E 4 = .int .i64 n4) (h : F122_3 R s0 n4 ds w) :
    TrL prog f122.ntmps [c122_6_0] (F122_q4 R) E ds w :=
  TrL_one (Tr_loop' (c := innerC c122_6_0) (σ := Int) (enc := (fun (s : Int) (E : Env) => E 4 = .int .i64 s)) (D := (fun E K => dInt .i64 (E 4) fun n4 => K n4)) (F := (fun (J1 : (Int) -> World -> Prop) (s : Int) (w : World) => F122_2 R J1 s0 s ds w)) (s0 := n4) (by kernel_rfl) c122_6_0_l e4 (by kernel_rfl) (fun E K hD => by obtain ⟨n4, e4, hD⟩ := dInt_elim hD; exact ⟨n4, e4, hD⟩)
      (fun J1 s E' w' he ha hF => by
      have e4' := he
      exact F122_2_ok R J1 s0 s ds w' E' ((ha 0 (by kernel_rfl)).trans e0) e4' hF) h)
theorem F122_4_ok (R : Rt) (s0 : ByteArray) (n4 : Int) (ds : Ds) (w : World) (E : Env) (e0 : E 0 = .string s0) (e4 : E 4 = .int .i64 n4) (h : F122_4 R s0 n4 ds w) :
    TrL prog f122.ntmps [c122_6, c122_7, c122_8, c122_9] (F122_q1 R) E ds w :=
  TrL_head (K := (F122_k2 R)) (Tr_block' (c := innerC c122_6) (by kernel_rfl) c122_6_l (F122_3_ok R s0 n4 ds w E e0 e4 h))
    (fun E' ds' w' hD => by
      obtain ⟨s0, e0, hD⟩ := dStr_elim hD; exact F122_1_ok R s0 ds' w' E' e0 hD)
theorem F122_5_ok (R : Rt) (s0 : ByteArray) (ds : Ds) (w : World) (E : Env) (e0 : E 0 = .string s0) (h : F122_5 R s0 ds w) :
    TrL prog f122.ntmps [c122_0, c122_1, c122_2, c122_3, c122_4, c122_5, c122_6, c122_7, c122_8, c122_9] (F122_q1 R) E ds w :=
  TrL_piece (pre := [c122_0, c122_1, c122_2, c122_3, c122_4, c122_5]) (K := (F122_k6 R)) (X := F122_5 R s0 ds w) (setAll_cons e0 setAll_nil) (by kernel_rfl) (by kernel_rfl)
    (fun E' ds' w' hD => by
      obtain ⟨s0, e0, hD⟩ := dStr_elim hD; obtain ⟨n4, e4, hD⟩ := dInt_elim hD; exact F122_4_ok R s0 n4 ds' w' E' e0 e4 hD) h
theorem F122_calls (s0 : ByteArray) (w : World) (R : Rt) (h : F122_5 R s0 [] w) : Calls prog 122 #[.string s0] w R :=
  calls_of_L (l := [c122_0, c122_1, c122_2, c122_3, c122_4, c122_5, c122_6, c122_7, c122_8, c122_9]) func122 (by kernel_rfl) (by rw [ntmps122]; exact Nat.le_of_ble_eq_true (by kernel_rfl)) c122_l
    (F122_5_ok R s0 [] w _ rfl h)
noncomputable def c123_0 := cI22 f123 0
noncomputable def c123_1 := cI22 f123 1
noncomputable def c123_2 := cI22 f123 2
def F123_q1 (R : Rt) : EQ := endQ prog f123.results.toList R
def F123_1 (R : Rt) (n0 : Int) (ds : Ds) (w : World) : Prop :=
 alE (.cells #[.int .i64 0, .int .i64 0, .string (⟨#[]⟩ : ByteArray)] 25) w fun r2 w1 =>
 stA prog 25 (⟨r2, 0, none⟩ : Addr) #[.int .i64 3, .int .i64 n0, .string (⟨#[]⟩ : ByteArray)] w1 fun w2 =>
 runD prog ds w2 fun w3 =>
 ∃ nR0_0 : Int, w3.cell? ((⟨r2, 0, none⟩ : Addr).add 0) = some (.int .i64 nR0_0) /\
 ∃ nR0_1 : Int, w3.cell? ((⟨r2, 0, none⟩ : Addr).add 1) = some (.int .i64 nR0_1) /\
 ∃ sR0_2 : ByteArray, w3.cell? ((⟨r2, 0, none⟩ : Addr).add 2) = some (.string sR0_2) /\
 R (.returned (.agg #[.int .i64 nR0_0, .int .i64 nR0_1, .string sR0_2])) w3
theorem c123_l : flat (bodyOf f123) = [c123_0, c123_1, c123_2] := by kernel_rfl
theorem F123_1_ok (R : Rt) (n0 : Int) (ds : Ds) (w : World) (E : Env) (e0 : E 0 = .int .i64 n0) (h : F123_1 R n0 ds w) :
    TrL prog f123.ntmps [c123_0, c123_1, c123_2] (F123_q1 R) E ds w :=
  TrL_leaf (X := F123_1 R n0 ds w) (setAll_cons e0 setAll_nil) (by kernel_rfl) (by kernel_rfl) h
theorem F123_calls (n0 : Int) (w : World) (R : Rt) (h : F123_1 R n0 [] w) : Calls prog 123 #[.int .i64 n0] w R :=
  calls_of_L (l := [c123_0, c123_1, c123_2]) func123 (by kernel_rfl) (by rw [ntmps123]; exact Nat.le_of_ble_eq_true (by kernel_rfl)) c123_l
    (F123_1_ok R n0 [] w _ rfl h)
noncomputable def c124_0 := cI22 f124 0
noncomputable def c124_1 := cI22 f124 1
noncomputable def c124_2 := cI22 f124 2
noncomputable def c124_3 := cI22 f124 3
noncomputable def c124_4 := cI22 f124 4
def F124_q1 (R : Rt) : EQ := endQ prog f124.results.toList R
def F124_1 (R : Rt) (b0 : Bool) (ds : Ds) (w : World) : Prop :=
 alE (.cells #[.int .i64 0, .int .i64 0, .string (⟨#[]⟩ : ByteArray)] 25) w fun r2 w1 =>
 Br b0 (
 stA prog 25 (⟨r2, 0, none⟩ : Addr) #[.int .i64 1, .int .i64 1, .string (⟨#[]⟩ : ByteArray)] w1 fun w2 =>
 runD prog ds w2 fun w3 =>
 ∃ nR0_0 : Int, w3.cell? ((⟨r2, 0, none⟩ : Addr).add 0) = some (.int .i64 nR0_0) /\
 ∃ nR0_1 : Int, w3.cell? ((⟨r2, 0, none⟩ : Addr).add 1) = some (.int .i64 nR0_1) /\
 ∃ sR0_2 : ByteArray, w3.cell? ((⟨r2, 0, none⟩ : Addr).add 2) = some (.string sR0_2) /\
 R (.returned (.agg #[.int .i64 nR0_0, .int .i64 nR0_1, .string sR0_2])) w3) (
 stA prog 25 (⟨r2, 0, none⟩ : Addr) #[.int .i64 1, .int .i64 0, .string (⟨#[]⟩ : ByteArray)] w1 fun w4 =>
 runD prog ds w4 fun w5 =>
 ∃ nR0_0 : Int, w5.cell? ((⟨r2, 0, none⟩ : Addr).add 0) = some (.int .i64 nR0_0) /\
 ∃ nR0_1 : Int, w5.cell? ((⟨r2, 0, none⟩ : Addr).add 1) = some (.int .i64 nR0_1) /\
 ∃ sR0_2 : ByteArray, w5.cell? ((⟨r2, 0, none⟩ : Addr).add 2) = some (.string sR0_2) /\
 R (.returned (.agg #[.int .i64 nR0_0, .int .i64 nR0_1, .string sR0_2])) w5)
theorem c124_l : flat (bodyOf f124) = [c124_0, c124_1, c124_2, c124_3, c124_4] := by kernel_rfl
theorem F124_1_ok (R : Rt) (b0 : Bool) (ds : Ds) (w : World) (E : Env) (e0 : E 0 = .bool b0) (h : F124_1 R b0 ds w) :
    TrL prog f124.ntmps [c124_0, c124_1, c124_2, c124_3, c124_4] (F124_q1 R) E ds w :=
  TrL_leaf (X := F124_1 R b0 ds w) (setAll_cons e0 setAll_nil) (by kernel_rfl) (by kernel_rfl) h
theorem F124_calls (b0 : Bool) (w : World) (R : Rt) (h : F124_1 R b0 [] w) : Calls prog 124 #[.bool b0] w R :=
  calls_of_L (l := [c124_0, c124_1, c124_2, c124_3, c124_4]) func124 (by kernel_rfl) (by rw [ntmps124]; exact Nat.le_of_ble_eq_true (by kernel_rfl)) c124_l
    (F124_1_ok R b0 [] w _ rfl h)
end Go.Proofs.YtecmfdfhpldmmaaGreatDoor

/- Shallow texts of functions, printed by program, each checked by the kernel against the loaded code. No condition. -/
set_option maxRecDepth 100000
set_option linter.unusedVariables false
namespace Go.Proofs.YtecmfdfhpldmmaaGreatDoor
open Go.Sh
open Tryz
@[reducible] noncomputable def cI23 (f : Func) (i : Nat) : Code := itemAt (flat (bodyOf f)) i
@[reducible] noncomputable def cJ23 (c : Code) (i : Nat) : Code := itemAt (flat (innerC c)) i
noncomputable def c43_0 := cI23 f43 0
noncomputable def c43_1 := cI23 f43 1
noncomputable def c43_2 := cI23 f43 2
noncomputable def c43_3 := cI23 f43 3
noncomputable def c43_4 := cI23 f43 4
noncomputable def c43_5 := cI23 f43 5
noncomputable def c43_6 := cI23 f43 6
noncomputable def c43_4_0 := cJ23 c43_4 0
noncomputable def c43_4_0_0 := cJ23 c43_4_0 0
noncomputable def c43_4_0_1 := cJ23 c43_4_0 1
noncomputable def c43_4_0_2 := cJ23 c43_4_0 2
noncomputable def c43_4_0_3 := cJ23 c43_4_0 3
def F43_q1 (R : Rt) : EQ := endQ prog f43.results.toList R
def F43_1 (R : Rt) (ds : Ds) (w : World) : Prop :=
 runD prog ds w fun w1 =>
 R (.returned (.bool true)) w1
def F43_k2 (R : Rt) : EP := (fun E ds w => F43_1 R ds w)
def F43_q3 (R : Rt) : EQ := (thenQ (F43_k2 R) (F43_q1 R))
def F43_q4 (R : Rt) : EQ := (blockQ 0 (F43_q3 R))
def F43_q5 (R : Rt) (J1 : (Int) -> World -> Prop) : EQ := (thenQ (fun E _ w => dInt .i64 (E 5) fun n5 => J1 n5 w) (F43_q4 R))
def F43_2 (R : Rt) (J1 : (Int) -> World -> Prop) (p2 p3 : Option Addr) (n5 : Int) (ds : Ds) (w : World) : Prop :=
 ptrE p2 fun a2 =>
 ∃ l30 : SV, w.cell? (a2.add 2) = some (.slice l30.a l30.len l30.cap) /\
 Br (decide (n5 < (l30.len : Int))) (
 dwE w fun w3 =>
 ptrE p2 fun a4 =>
 ∃ l36 : SV, w3.cell? (a4.add 2) = some (.slice l36.a l36.len l36.cap) /\
 ∃ a5 : Addr, l36.a = some a5 /\ 0 ≤ n5 /\ n5 < (l36.len : Int) /\
 ∃ b39_0 : Bool, w3.cell? ((a5.add (n5.toNat * 2)).add 0) = some (.bool b39_0) /\
 ∃ l39_1 : SV, w3.cell? ((a5.add (n5.toNat * 2)).add 1) = some (.slice l39_1.a l39_1.len l39_1.cap) /\
 ptrE p3 fun a6 =>
 ∃ l41 : SV, w3.cell? (a6.add 2) = some (.slice l41.a l41.len l41.cap) /\
 ∃ a7 : Addr, l41.a = some a7 /\ 0 ≤ n5 /\ n5 < (l41.len : Int) /\
 ∃ b44_0 : Bool, w3.cell? ((a7.add (n5.toNat * 2)).add 0) = some (.bool b44_0) /\
 ∃ l44_1 : SV, w3.cell? ((a7.add (n5.toNat * 2)).add 1) = some (.slice l44_1.a l44_1.len l44_1.cap) /\
 Calls prog 29 #[.agg #[.bool b39_0, .slice l39_1.a l39_1.len l39_1.cap], .agg #[.bool b44_0, .slice l44_1.a l44_1.len l44_1.cap]] w3 fun e w8 =>
 ∃ b45 : Bool, e = .returned (.bool b45) /\
 Br (!b45) (
 runD prog ds w8 fun w9 =>
 R (.returned (.bool false)) w9) (
 J1 (IntKind.i64.wrap (n5 + 1)) w8)) (
 F43_1 R ds w)
def F43_3 (R : Rt) (p2 p3 : Option Addr) (n5 : Int) (ds : Ds) (w : World) : Prop :=
 loopT (fun (J1 : (Int) -> World -> Prop) (s : Int) (w : World) => F43_2 R J1 p2 p3 s ds w) n5 w
abbrev F43_4 (R : Rt) (p2 p3 : Option Addr) (n5 : Int) (ds : Ds) (w : World) : Prop := F43_3 R p2 p3 n5 ds w
def F43_k6 (R : Rt) : EP := (fun E ds w => dPtr (E 2) fun p2 => dPtr (E 3) fun p3 => dInt .i64 (E 5) fun n5 => F43_4 R p2 p3 n5 ds w)
def F43_5 (R : Rt) (n0_0 : Int) (l0_1 l0_2 : SV) (n1_0 : Int) (l1_1 l1_2 : SV) (ds : Ds) (w : World) : Prop :=
 alE (.cells #[.int .i64 n0_0, .slice l0_1.a l0_1.len l0_1.cap, .slice l0_2.a l0_2.len l0_2.cap] 35) w fun r2 w10 =>
 alE (.cells #[.int .i64 n1_0, .slice l1_1.a l1_1.len l1_1.cap, .slice l1_2.a l1_2.len l1_2.cap] 35) w10 fun r3 w11 =>
 ∃ n7 : Int, w11.cell? (⟨r2, 0, none⟩ : Addr) = some (.int .i64 n7) /\
 ∃ n9 : Int, w11.cell? (⟨r3, 0, none⟩ : Addr) = some (.int .i64 n9) /\
 Br (n7 != n9) (
 runD prog ds w11 fun w12 =>
 R (.returned (.bool false)) w12) (
 ∃ l13 : SV, w11.cell? ((⟨r2, 0, none⟩ : Addr).add 1) = some (.slice l13.a l13.len l13.cap) /\
 ∃ l15 : SV, w11.cell? ((⟨r3, 0, none⟩ : Addr).add 1) = some (.slice l15.a l15.len l15.cap) /\
 Calls prog 79 #[.slice l13.a l13.len l13.cap, .slice l15.a l15.len l15.cap] w11 fun e w13 =>
 ∃ b16 : Bool, e = .returned (.bool b16) /\
 Br (!b16) (
 runD prog ds w13 fun w14 =>
 R (.returned (.bool false)) w14) (
 ∃ l21 : SV, w13.cell? ((⟨r2, 0, none⟩ : Addr).add 2) = some (.slice l21.a l21.len l21.cap) /\
 ∃ l24 : SV, w13.cell? ((⟨r3, 0, none⟩ : Addr).add 2) = some (.slice l24.a l24.len l24.cap) /\
 Br ((l21.len : Int) != (l24.len : Int)) (
 runD prog ds w13 fun w15 =>
 R (.returned (.bool false)) w15) (
 F43_4 R (some (⟨r2, 0, none⟩ : Addr)) (some (⟨r3, 0, none⟩ : Addr)) 0 ds w13)))
theorem c43_l : flat (bodyOf f43) = [c43_0, c43_1, c43_2, c43_3, c43_4, c43_5, c43_6] := by kernel_rfl
theorem c43_4_l : flat (innerC c43_4) = [c43_4_0] := by kernel_rfl
theorem c43_4_0_l : flat (innerC c43_4_0) = [c43_4_0_0, c43_4_0_1, c43_4_0_2, c43_4_0_3] := by kernel_rfl
theorem F43_1_ok (R : Rt) (ds : Ds) (w : World) (E : Env) (h : F43_1 R ds w) :
    TrL prog f43.ntmps [c43_5, c43_6] (F43_q1 R) E ds w :=
  TrL_leaf (X := F43_1 R ds w) setAll_nil (by kernel_rfl) (by kernel_rfl) h
theorem F43_2_ok (R : Rt) (J1 : (Int) -> World -> Prop) (p2 p3 : Option Addr) (n5 : Int) (ds : Ds) (w : World) (E : Env) (e2 : E 2 = .pointer p2) (e3 : E 3 = .pointer p3) (e5 : E 5 = .int .i64 n5) (h : F43_2 R J1 p2 p3 n5 ds w) :
    TrL prog f43.ntmps [c43_4_0_0, c43_4_0_1, c43_4_0_2, c43_4_0_3] (F43_q5 R J1) E ds w :=
  TrL_leaf (X := F43_2 R J1 p2 p3 n5 ds w) (setAll_cons e2 (setAll_cons e3 (setAll_cons e5 setAll_nil))) (by kernel_rfl) (by kernel_rfl) h
theorem F43_3_ok (R : Rt) (p2 p3 : Option Addr) (n5 : Int) (ds : Ds) (w : World) (E : Env) (e2 : E 2 = .pointer p2) (e3 : E 3 = .pointer p3) (e5 : E 5 = .int .i64 n5) (h : F43_3 R p2 p3 n5 ds w) :
    TrL prog f43.ntmps [c43_4_0] (F43_q4 R) E ds w :=
  TrL_one (Tr_loop' (c := innerC c43_4_0) (σ := Int) (enc := (fun (s : Int) (E : Env) => E 5 = .int .i64 s)) (D := (fun E K => dInt .i64 (E 5) fun n5 => K n5)) (F := (fun (J1 : (Int) -> World -> Prop) (s : Int) (w : World) => F43_2 R J1 p2 p3 s ds w)) (s0 := n5) (by kernel_rfl) c43_4_0_l e5 (by kernel_rfl) (fun E K hD => by obtain ⟨n5, e5, hD⟩ := dInt_elim hD; exact ⟨n5, e5, hD⟩)
      (fun J1 s E' w' he ha hF => by
      have e5' := he
      exact F43_2_ok R J1 p2 p3 s ds w' E' ((ha 2 (by kernel_rfl)).trans e2) ((ha 3 (by kernel_rfl)).trans e3) e5' hF) h)
theorem F43_4_ok (R : Rt) (p2 p3 : Option Addr) (n5 : Int) (ds : Ds) (w : World) (E : Env) (e2 : E 2 = .pointer p2) (e3 : E 3 = .pointer p3) (e5 : E 5 = .int .i64 n5) (h : F43_4 R p2 p3 n5 ds w) :
    TrL prog f43.ntmps [c43_4, c43_5, c43_6] (F43_q1 R) E ds w :=
  TrL_head (K := (F43_k2 R)) (Tr_block' (c := innerC c43_4) (by kernel_rfl) c43_4_l (F43_3_ok R p2 p3 n5 ds w E e2 e3 e5 h))
    (fun E' ds' w' hD => by
      exact F43_1_ok R ds' w' E'  hD)
theorem F43_5_ok (R : Rt) (n0_0 : Int) (l0_1 l0_2 : SV) (n1_0 : Int) (l1_1 l1_2 : SV) (ds : Ds) (w : World) (E : Env) (e0 : E 0 = .agg #[.int .i64 n0_0, .slice l0_1.a l0_1.len l0_1.cap, .slice l0_2.a l0_2.len l0_2.cap]) (e1 : E 1 = .agg #[.int .i64 n1_0, .slice l1_1.a l1_1.len l1_1.cap, .slice l1_2.a l1_2.len l1_2.cap]) (h : F43_5 R n0_0 l0_1 l0_2 n1_0 l1_1 l1_2 ds w) :
    TrL prog f43.ntmps [c43_0, c43_1, c43_2, c43_3, c43_4, c43_5, c43_6] (F43_q1 R) E ds w :=
  TrL_piece (pre := [c43_0, c43_1, c43_2, c43_3]) (K := (F43_k6 R)) (X := F43_5 R n0_0 l0_1 l0_2 n1_0 l1_1 l1_2 ds w) (setAll_cons e0 (setAll_cons e1 setAll_nil)) (by kernel_rfl) (by kernel_rfl)
    (fun E' ds' w' hD => by
      obtain ⟨p2, e2, hD⟩ := dPtr_elim hD; obtain ⟨p3, e3, hD⟩ := dPtr_elim hD; obtain ⟨n5, e5, hD⟩ := dInt_elim hD; exact F43_4_ok R p2 p3 n5 ds' w' E' e2 e3 e5 hD) h
theorem F43_calls (n0_0 : Int) (l0_1 l0_2 : SV) (n1_0 : Int) (l1_1 l1_2 : SV) (w : World) (R : Rt) (h : F43_5 R n0_0 l0_1 l0_2 n1_0 l1_1 l1_2 [] w) : Calls prog 43 #[.agg #[.int .i64 n0_0, .slice l0_1.a l0_1.len l0_1.cap, .slice l0_2.a l0_2.len l0_2.cap], .agg #[.int .i64 n1_0, .slice l1_1.a l1_1.len l1_1.cap, .slice l1_2.a l1_2.len l1_2.cap]] w R :=
  calls_of_L (l := [c43_0, c43_1, c43_2, c43_3, c43_4, c43_5, c43_6]) func43 (by kernel_rfl) (by rw [ntmps43]; exact Nat.le_of_ble_eq_true (by kernel_rfl)) c43_l
    (F43_5_ok R n0_0 l0_1 l0_2 n1_0 l1_1 l1_2 [] w _ rfl rfl h)
end Go.Proofs.YtecmfdfhpldmmaaGreatDoor

/- Shallow texts of functions, printed by program, each checked by the kernel against the loaded code. No condition. -/
set_option maxRecDepth 100000
set_option linter.unusedVariables false
namespace Go.Proofs.YtecmfdfhpldmmaaGreatDoor
open Go.Sh
open Tryz
end Go.Proofs.YtecmfdfhpldmmaaGreatDoor

/- Shallow texts of functions, printed by program, each checked by the kernel against the loaded code. No condition. -/
set_option maxRecDepth 100000
set_option linter.unusedVariables false
namespace Go.Proofs.YtecmfdfhpldmmaaGreatDoor
open Go.Sh
open Tryz
end Go.Proofs.YtecmfdfhpldmmaaGreatDoor

/- Shallow texts of functions, printed by program, each checked by the kernel against the loaded code. No condition. -/
set_option maxRecDepth 100000
set_option linter.unusedVariables false
namespace Go.Proofs.YtecmfdfhpldmmaaGreatDoor
open Go.Sh
open Tryz
@[reducible] noncomputable def cI26 (f : Func) (i : Nat) : Code := itemAt (flat (bodyOf f)) i
@[reducible] noncomputable def cJ26 (c : Code) (i : Nat) : Code := itemAt (flat (innerC c)) i
noncomputable def c44_0 := cI26 f44 0
noncomputable def c44_1 := cI26 f44 1
noncomputable def c44_2 := cI26 f44 2
noncomputable def c44_3 := cI26 f44 3
noncomputable def c44_4 := cI26 f44 4
noncomputable def c44_5 := cI26 f44 5
noncomputable def c44_6 := cI26 f44 6
noncomputable def c44_7 := cI26 f44 7
noncomputable def c44_8 := cI26 f44 8
noncomputable def c44_9 := cI26 f44 9
noncomputable def c44_10 := cI26 f44 10
noncomputable def c44_11 := cI26 f44 11
noncomputable def c44_9_0 := cJ26 c44_9 0
noncomputable def c44_9_0_0 := cJ26 c44_9_0 0
noncomputable def c44_9_0_1 := cJ26 c44_9_0 1
noncomputable def c44_9_0_2 := cJ26 c44_9_0 2
noncomputable def c44_9_0_3 := cJ26 c44_9_0 3
noncomputable def c44_9_0_2_0 := cJ26 c44_9_0_2 0
noncomputable def c44_9_0_2_1 := cJ26 c44_9_0_2 1
noncomputable def c44_9_0_2_2 := cJ26 c44_9_0_2 2
noncomputable def c44_9_0_2_3 := cJ26 c44_9_0_2 3
noncomputable def c44_9_0_2_4 := cJ26 c44_9_0_2 4
noncomputable def c44_9_0_2_3_0 := cJ26 c44_9_0_2_3 0
noncomputable def c44_9_0_2_3_0_0 := cJ26 c44_9_0_2_3_0 0
noncomputable def c44_9_0_2_3_0_1 := cJ26 c44_9_0_2_3_0 1
noncomputable def c44_9_0_2_3_0_2 := cJ26 c44_9_0_2_3_0 2
noncomputable def c44_9_0_2_3_0_3 := cJ26 c44_9_0_2_3_0 3
def F44_q1 (R : Rt) : EQ := endQ prog f44.results.toList R
def F44_1 (R : Rt) (p4 p8 : Option Addr) (ds : Ds) (w : World) : Prop :=
 ptrE p8 fun a1 =>
 ∃ n64_0 : Int, w.cell? (a1.add 0) = some (.int .i64 n64_0) /\
 ∃ l64_1 : SV, w.cell? (a1.add 1) = some (.slice l64_1.a l64_1.len l64_1.cap) /\
 ∃ l64_2 : SV, w.cell? (a1.add 2) = some (.slice l64_2.a l64_2.len l64_2.cap) /\
 ptrE p4 fun a2 =>
 stA prog 35 a2 #[.int .i64 n64_0, .slice l64_1.a l64_1.len l64_1.cap, .slice l64_2.a l64_2.len l64_2.cap] w fun w3 =>
 runD prog ds w3 fun w4 =>
 ptrE p4 fun a5 =>
 ∃ nR0_0 : Int, w4.cell? (a5.add 0) = some (.int .i64 nR0_0) /\
 ∃ lR0_1 : SV, w4.cell? (a5.add 1) = some (.slice lR0_1.a lR0_1.len lR0_1.cap) /\
 ∃ lR0_2 : SV, w4.cell? (a5.add 2) = some (.slice lR0_2.a lR0_2.len lR0_2.cap) /\
 R (.returned (.tuple #[.agg #[.int .i64 nR0_0, .slice lR0_1.a lR0_1.len lR0_1.cap, .slice lR0_2.a lR0_2.len lR0_2.cap], .int .i64 0])) w4
def F44_k2 (R : Rt) : EP := (fun E ds w => dPtr (E 4) fun p4 => dPtr (E 8) fun p8 => F44_1 R p4 p8 ds w)
def F44_q3 (R : Rt) : EQ := (thenQ (F44_k2 R) (F44_q1 R))
def F44_q4 (R : Rt) : EQ := (blockQ 0 (F44_q3 R))
def F44_q5 (R : Rt) (J1 : (Int) -> World -> Prop) : EQ := (thenQ (fun E _ w => dInt .i64 (E 34) fun n34 => J1 n34 w) (F44_q4 R))
def F44_2 (R : Rt) (J1 : (Int) -> World -> Prop) (l1 : SV) (p2 p4 p8 : Option Addr) (l32 : SV) (n33 n34 : Int) (ds : Ds) (w : World) : Prop :=
 J1 (IntKind.i64.wrap (n34 + 1)) w
def F44_k6 (R : Rt) (J1 : (Int) -> World -> Prop) : EP := (fun E ds w => dSl (E 1) fun l1 => dPtr (E 2) fun p2 => dPtr (E 4) fun p4 => dPtr (E 8) fun p8 => dSl (E 32) fun l32 => dInt .i64 (E 33) fun n33 => dInt .i64 (E 34) fun n34 => F44_2 R J1 l1 p2 p4 p8 l32 n33 n34 ds w)
def F44_q7 (R : Rt) (J1 : (Int) -> World -> Prop) : EQ := (thenQ (F44_k6 R J1) (F44_q5 R J1))
def F44_q8 (R : Rt) (J1 : (Int) -> World -> Prop) : EQ := (blockQ 1 (F44_q7 R J1))
def F44_3 (R : Rt) (J1 : (Int) -> World -> Prop) (l1 : SV) (p2 p4 p8 p11 : Option Addr) (l32 : SV) (n33 n34 : Int) (ds : Ds) (w : World) : Prop :=
 ptrE p8 fun a6 =>
 ∃ l58 : SV, w.cell? (a6.add 2) = some (.slice l58.a l58.len l58.cap) /\
 ptrE p11 fun a7 =>
 ∃ b59_0 : Bool, w.cell? (a7.add 0) = some (.bool b59_0) /\
 ∃ l59_1 : SV, w.cell? (a7.add 1) = some (.slice l59_1.a l59_1.len l59_1.cap) /\
 alE (.cells #[.bool b59_0, .slice l59_1.a l59_1.len l59_1.cap] 46) w fun r60 w8 =>
 ∃ l61 : SV, ∃ w9 : World, (Builtin.append_ #[33, 33] 33 #[.slice l58.a l58.len l58.cap, .slice (some ⟨r60, 0, none⟩) 1 1]).run prog w8 = .ok (.slice l61.a l61.len l61.cap) w9 /\
 ptrE p8 fun a10 =>
 st1 (a10.add 2) (.slice l61.a l61.len l61.cap) w9 fun w11 =>
 F44_2 R J1 l1 p2 p4 p8 l32 n33 n34 ds w11
def F44_k9 (R : Rt) (J1 : (Int) -> World -> Prop) : EP := (fun E ds w => dSl (E 1) fun l1 => dPtr (E 2) fun p2 => dPtr (E 4) fun p4 => dPtr (E 8) fun p8 => dPtr (E 11) fun p11 => dSl (E 32) fun l32 => dInt .i64 (E 33) fun n33 => dInt .i64 (E 34) fun n34 => F44_3 R J1 l1 p2 p4 p8 p11 l32 n33 n34 ds w)
def F44_q10 (R : Rt) (J1 : (Int) -> World -> Prop) : EQ := (thenQ (F44_k9 R J1) (F44_q8 R J1))
def F44_q11 (R : Rt) (J1 : (Int) -> World -> Prop) : EQ := (blockQ 2 (F44_q10 R J1))
def F44_q12 (R : Rt) (J1 : (Int) -> World -> Prop) (J2 : (Int) -> World -> Prop) : EQ := (thenQ (fun E _ w => dInt .i64 (E 43) fun n43 => J2 n43 w) (F44_q11 R J1))
def F44_4 (R : Rt) (J1 : (Int) -> World -> Prop) (J2 : (Int) -> World -> Prop) (l1 : SV) (p2 p4 p8 p10 p11 : Option Addr) (l32 : SV) (n33 n34 : Int) (l41 : SV) (n42 n43 : Int) (ds : Ds) (w : World) : Prop :=
 Br (decide (n43 < n42)) (
 ∃ a12 : Addr, l41.a = some a12 /\ 0 ≤ n43 /\ n43 < (l41.len : Int) /\
 ∃ s46_0 : ByteArray, w.cell? ((a12.add (n43.toNat * 4)).add 0) = some (.string s46_0) /\
 ∃ n46_1 : Int, w.cell? ((a12.add (n43.toNat * 4)).add 1) = some (.int .i64 n46_1) /\
 ∃ n46_2 : Int, w.cell? ((a12.add (n43.toNat * 4)).add 2) = some (.int .i64 n46_2) /\
 ∃ b46_3 : Bool, w.cell? ((a12.add (n43.toNat * 4)).add 3) = some (.bool b46_3) /\
 alE (.cells #[.string (⟨#[]⟩ : ByteArray), .int .i64 0, .int .i64 0, .bool false] 23) w fun r13 w13 =>
 stA prog 23 (⟨r13, 0, none⟩ : Addr) #[.string s46_0, .int .i64 n46_1, .int .i64 n46_2, .bool b46_3] w13 fun w14 =>
 dwE w14 fun w15 =>
 ∃ S1 : World -> Prop, S1 w15 /\
 ptrE p11 fun a16 =>
 ∃ l48 : SV, (∀ w', S1 w' -> w'.cell? (a16.add 1) = some (.slice l48.a l48.len l48.cap)) /\
 ptrE p2 fun a17 =>
 ∃ n49_0 : Int, (∀ w', S1 w' -> w'.cell? (a17.add 0) = some (.int .i64 n49_0)) /\
 ∃ l49_1 : SV, (∀ w', S1 w' -> w'.cell? (a17.add 1) = some (.slice l49_1.a l49_1.len l49_1.cap)) /\
 ∃ l49_2 : SV, (∀ w', S1 w' -> w'.cell? (a17.add 2) = some (.slice l49_2.a l49_2.len l49_2.cap)) /\
 ptrE p10 fun a18 =>
 ∃ b50_0 : Bool, (∀ w', S1 w' -> w'.cell? (a18.add 0) = some (.bool b50_0)) /\
 ∃ l50_1 : SV, (∀ w', S1 w' -> w'.cell? (a18.add 1) = some (.slice l50_1.a l50_1.len l50_1.cap)) /\
 ∃ s51_0 : ByteArray, (∀ w', S1 w' -> w'.cell? ((⟨r13, 0, none⟩ : Addr).add 0) = some (.string s51_0)) /\
 ∃ n51_1 : Int, (∀ w', S1 w' -> w'.cell? ((⟨r13, 0, none⟩ : Addr).add 1) = some (.int .i64 n51_1)) /\
 ∃ n51_2 : Int, (∀ w', S1 w' -> w'.cell? ((⟨r13, 0, none⟩ : Addr).add 2) = some (.int .i64 n51_2)) /\
 ∃ b51_3 : Bool, (∀ w', S1 w' -> w'.cell? ((⟨r13, 0, none⟩ : Addr).add 3) = some (.bool b51_3)) /\
 Calls prog 86 #[.agg #[.int .i64 n49_0, .slice l49_1.a l49_1.len l49_1.cap, .slice l49_2.a l49_2.len l49_2.cap], .agg #[.bool b50_0, .slice l50_1.a l50_1.len l50_1.cap], .agg #[.string s51_0, .int .i64 n51_1, .int .i64 n51_2, .bool b51_3]] w15 fun e w19 =>
 ∃ n52_0 : Int, ∃ n52_1 : Int, ∃ s52_2 : ByteArray, e = .returned (.agg #[.int .i64 n52_0, .int .i64 n52_1, .string s52_2]) /\
 S1 w19 /\
 alE (.cells #[.int .i64 n52_0, .int .i64 n52_1, .string s52_2] 25) w19 fun r53 w20 =>
 S1 w20 /\
 ∃ l54 : SV, ∃ w21 : World, (Builtin.append_ #[44, 44] 44 #[.slice l48.a l48.len l48.cap, .slice (some ⟨r53, 0, none⟩) 1 1]).run prog w20 = .ok (.slice l54.a l54.len l54.cap) w21 /\
 ptrE p11 fun a22 =>
 st1 (a22.add 1) (.slice l54.a l54.len l54.cap) w21 fun w23 =>
 J2 (IntKind.i64.wrap (n43 + 1)) w23) (
 F44_3 R J1 l1 p2 p4 p8 p11 l32 n33 n34 ds w)
def F44_5 (R : Rt) (J1 : (Int) -> World -> Prop) (l1 : SV) (p2 p4 p8 p10 p11 : Option Addr) (l32 : SV) (n33 n34 : Int) (l41 : SV) (n42 n43 : Int) (ds : Ds) (w : World) : Prop :=
 loopT (fun (J2 : (Int) -> World -> Prop) (s : Int) (w : World) => F44_4 R J1 J2 l1 p2 p4 p8 p10 p11 l32 n33 n34 l41 n42 s ds w) n43 w
abbrev F44_6 (R : Rt) (J1 : (Int) -> World -> Prop) (l1 : SV) (p2 p4 p8 p10 p11 : Option Addr) (l32 : SV) (n33 n34 : Int) (l41 : SV) (n42 n43 : Int) (ds : Ds) (w : World) : Prop := F44_5 R J1 l1 p2 p4 p8 p10 p11 l32 n33 n34 l41 n42 n43 ds w
def F44_k13 (R : Rt) (J1 : (Int) -> World -> Prop) : EP := (fun E ds w => dSl (E 1) fun l1 => dPtr (E 2) fun p2 => dPtr (E 4) fun p4 => dPtr (E 8) fun p8 => dPtr (E 10) fun p10 => dPtr (E 11) fun p11 => dSl (E 32) fun l32 => dInt .i64 (E 33) fun n33 => dInt .i64 (E 34) fun n34 => dSl (E 41) fun l41 => dInt .i64 (E 42) fun n42 => dInt .i64 (E 43) fun n43 => F44_6 R J1 l1 p2 p4 p8 p10 p11 l32 n33 n34 l41 n42 n43 ds w)
def F44_7 (R : Rt) (J1 : (Int) -> World -> Prop) (l1 : SV) (p2 p4 p8 : Option Addr) (l32 : SV) (n33 n34 : Int) (ds : Ds) (w : World) : Prop :=
 ∃ a24 : Addr, l32.a = some a24 /\ 0 ≤ n34 /\ n34 < (l32.len : Int) /\
 ∃ b37_0 : Bool, w.cell? ((a24.add (n34.toNat * 2)).add 0) = some (.bool b37_0) /\
 ∃ l37_1 : SV, w.cell? ((a24.add (n34.toNat * 2)).add 1) = some (.slice l37_1.a l37_1.len l37_1.cap) /\
 alE (.cells #[.bool false, .slice none 0 0] 46) w fun r10 w25 =>
 stA prog 46 (⟨r10, 0, none⟩ : Addr) #[.bool b37_0, .slice l37_1.a l37_1.len l37_1.cap] w25 fun w26 =>
 ∃ b39 : Bool, w26.cell? (⟨r10, 0, none⟩ : Addr) = some (.bool b39) /\
 alE (.cells #[.bool false, .slice none 0 0] 46) w26 fun r11 w27 =>
 stA prog 46 (⟨r11, 0, none⟩ : Addr) #[.bool b39, .slice none 0 0] w27 fun w28 =>
 F44_6 R J1 l1 p2 p4 p8 (some (⟨r10, 0, none⟩ : Addr)) (some (⟨r11, 0, none⟩ : Addr)) l32 n33 n34 l1 (l1.len : Int) 0 ds w28
abbrev F44_8 (R : Rt) (J1 : (Int) -> World -> Prop) (l1 : SV) (p2 p4 p8 : Option Addr) (l32 : SV) (n33 n34 : Int) (ds : Ds) (w : World) : Prop := F44_7 R J1 l1 p2 p4 p8 l32 n33 n34 ds w
def F44_k14 (R : Rt) (J1 : (Int) -> World -> Prop) : EP := (fun E ds w => dSl (E 1) fun l1 => dPtr (E 2) fun p2 => dPtr (E 4) fun p4 => dPtr (E 8) fun p8 => dSl (E 32) fun l32 => dInt .i64 (E 33) fun n33 => dInt .i64 (E 34) fun n34 => F44_8 R J1 l1 p2 p4 p8 l32 n33 n34 ds w)
def F44_9 (R : Rt) (J1 : (Int) -> World -> Prop) (l1 : SV) (p2 p4 p8 : Option Addr) (l32 : SV) (n33 n34 : Int) (ds : Ds) (w : World) : Prop :=
 Br (decide (n34 < n33)) (
 F44_8 R J1 l1 p2 p4 p8 l32 n33 n34 ds w) (
 F44_1 R p4 p8 ds w)
def F44_10 (R : Rt) (l1 : SV) (p2 p4 p8 : Option Addr) (l32 : SV) (n33 n34 : Int) (ds : Ds) (w : World) : Prop :=
 loopT (fun (J1 : (Int) -> World -> Prop) (s : Int) (w : World) => F44_9 R J1 l1 p2 p4 p8 l32 n33 s ds w) n34 w
abbrev F44_11 (R : Rt) (l1 : SV) (p2 p4 p8 : Option Addr) (l32 : SV) (n33 n34 : Int) (ds : Ds) (w : World) : Prop := F44_10 R l1 p2 p4 p8 l32 n33 n34 ds w
def F44_k15 (R : Rt) : EP := (fun E ds w => dSl (E 1) fun l1 => dPtr (E 2) fun p2 => dPtr (E 4) fun p4 => dPtr (E 8) fun p8 => dSl (E 32) fun l32 => dInt .i64 (E 33) fun n33 => dInt .i64 (E 34) fun n34 => F44_11 R l1 p2 p4 p8 l32 n33 n34 ds w)
def F44_12 (R : Rt) (n0_0 : Int) (l0_1 l0_2 l1 : SV) (ds : Ds) (w : World) : Prop :=
 alE (.cells #[.int .i64 n0_0, .slice l0_1.a l0_1.len l0_1.cap, .slice l0_2.a l0_2.len l0_2.cap] 35) w fun r2 w29 =>
 alE (.cells #[.int .i64 0, .slice none 0 0, .slice none 0 0] 35) w29 fun r4 w30 =>
 ∃ n14_0 : Int, w30.cell? ((⟨r2, 0, none⟩ : Addr).add 0) = some (.int .i64 n14_0) /\
 ∃ l14_1 : SV, w30.cell? ((⟨r2, 0, none⟩ : Addr).add 1) = some (.slice l14_1.a l14_1.len l14_1.cap) /\
 ∃ l14_2 : SV, w30.cell? ((⟨r2, 0, none⟩ : Addr).add 2) = some (.slice l14_2.a l14_2.len l14_2.cap) /\
 Calls prog 34 #[.agg #[.int .i64 n14_0, .slice l14_1.a l14_1.len l14_1.cap, .slice l14_2.a l14_2.len l14_2.cap]] w30 fun e w31 =>
 ∃ n15 : Int, e = .returned (.int .i64 n15) /\
 Br (n15 != 0) (
 stA prog 35 (⟨r4, 0, none⟩ : Addr) #[.int .i64 0, .slice none 0 0, .slice none 0 0] w31 fun w32 =>
 runD prog ds w32 fun w33 =>
 ∃ nR0_0 : Int, w33.cell? ((⟨r4, 0, none⟩ : Addr).add 0) = some (.int .i64 nR0_0) /\
 ∃ lR0_1 : SV, w33.cell? ((⟨r4, 0, none⟩ : Addr).add 1) = some (.slice lR0_1.a lR0_1.len lR0_1.cap) /\
 ∃ lR0_2 : SV, w33.cell? ((⟨r4, 0, none⟩ : Addr).add 2) = some (.slice lR0_2.a lR0_2.len lR0_2.cap) /\
 R (.returned (.tuple #[.agg #[.int .i64 nR0_0, .slice lR0_1.a lR0_1.len lR0_1.cap, .slice lR0_2.a lR0_2.len lR0_2.cap], .int .i64 n15])) w33) (
 Calls prog 36 #[.slice l1.a l1.len l1.cap] w31 fun e w34 =>
 ∃ n21 : Int, e = .returned (.int .i64 n21) /\
 Br (n21 != 0) (
 stA prog 35 (⟨r4, 0, none⟩ : Addr) #[.int .i64 0, .slice none 0 0, .slice none 0 0] w34 fun w35 =>
 runD prog ds w35 fun w36 =>
 ∃ nR0_0 : Int, w36.cell? ((⟨r4, 0, none⟩ : Addr).add 0) = some (.int .i64 nR0_0) /\
 ∃ lR0_1 : SV, w36.cell? ((⟨r4, 0, none⟩ : Addr).add 1) = some (.slice lR0_1.a lR0_1.len lR0_1.cap) /\
 ∃ lR0_2 : SV, w36.cell? ((⟨r4, 0, none⟩ : Addr).add 2) = some (.slice lR0_2.a lR0_2.len lR0_2.cap) /\
 R (.returned (.tuple #[.agg #[.int .i64 nR0_0, .slice lR0_1.a lR0_1.len lR0_1.cap, .slice lR0_2.a lR0_2.len lR0_2.cap], .int .i64 n21])) w36) (
 dwE w34 fun w37 =>
 ∃ S2 : World -> Prop, S2 w37 /\
 ∃ n27 : Int, (∀ w', S2 w' -> w'.cell? (⟨r2, 0, none⟩ : Addr) = some (.int .i64 n27)) /\
 (
 Calls prog 85 #[.slice l1.a l1.len l1.cap] w37 fun e w38 =>
 ∃ l29 : SV, e = .returned (.slice l29.a l29.len l29.cap) /\
 S2 w38 /\
 alE (.cells #[.int .i64 0, .slice none 0 0, .slice none 0 0] 35) w38 fun r8 w39 =>
 S2 w39 /\
 stA prog 35 (⟨r8, 0, none⟩ : Addr) #[.int .i64 n27, .slice l29.a l29.len l29.cap, .slice none 0 0] w39 fun w40 =>
 ∃ l32 : SV, w40.cell? ((⟨r2, 0, none⟩ : Addr).add 2) = some (.slice l32.a l32.len l32.cap) /\
 F44_11 R l1 (some (⟨r2, 0, none⟩ : Addr)) (some (⟨r4, 0, none⟩ : Addr)) (some (⟨r8, 0, none⟩ : Addr)) l32 (l32.len : Int) 0 ds w40) /\ (
 alE (.cells #[.int .i64 0, .slice none 0 0, .slice none 0 0] 35) w37 fun r8 w41 =>
 S2 w41 /\
 Calls prog 85 #[.slice l1.a l1.len l1.cap] w41 fun e w42 =>
 ∃ l29 : SV, e = .returned (.slice l29.a l29.len l29.cap) /\
 S2 w42 /\
 stA prog 35 (⟨r8, 0, none⟩ : Addr) #[.int .i64 n27, .slice l29.a l29.len l29.cap, .slice none 0 0] w42 fun w43 =>
 ∃ l32 : SV, w43.cell? ((⟨r2, 0, none⟩ : Addr).add 2) = some (.slice l32.a l32.len l32.cap) /\
 F44_11 R l1 (some (⟨r2, 0, none⟩ : Addr)) (some (⟨r4, 0, none⟩ : Addr)) (some (⟨r8, 0, none⟩ : Addr)) l32 (l32.len : Int) 0 ds w43)))
theorem c44_l : flat (bodyOf f44) = [c44_0, c44_1, c44_2, c44_3, c44_4, c44_5, c44_6, c44_7, c44_8, c44_9, c44_10, c44_11] := by kernel_rfl
theorem c44_9_l : flat (innerC c44_9) = [c44_9_0] := by kernel_rfl
theorem c44_9_0_l : flat (innerC c44_9_0) = [c44_9_0_0, c44_9_0_1, c44_9_0_2, c44_9_0_3] := by kernel_rfl
theorem c44_9_0_2_l : flat (innerC c44_9_0_2) = [c44_9_0_2_0, c44_9_0_2_1, c44_9_0_2_2, c44_9_0_2_3, c44_9_0_2_4] := by kernel_rfl
theorem c44_9_0_2_3_l : flat (innerC c44_9_0_2_3) = [c44_9_0_2_3_0] := by kernel_rfl
theorem c44_9_0_2_3_0_l : flat (innerC c44_9_0_2_3_0) = [c44_9_0_2_3_0_0, c44_9_0_2_3_0_1, c44_9_0_2_3_0_2, c44_9_0_2_3_0_3] := by kernel_rfl
theorem F44_1_ok (R : Rt) (p4 p8 : Option Addr) (ds : Ds) (w : World) (E : Env) (e4 : E 4 = .pointer p4) (e8 : E 8 = .pointer p8) (h : F44_1 R p4 p8 ds w) :
    TrL prog f44.ntmps [c44_10, c44_11] (F44_q1 R) E ds w :=
  TrL_leaf (X := F44_1 R p4 p8 ds w) (setAll_cons e4 (setAll_cons e8 setAll_nil)) (by kernel_rfl) (by kernel_rfl) h
theorem F44_2_ok (R : Rt) (J1 : (Int) -> World -> Prop) (l1 : SV) (p2 p4 p8 : Option Addr) (l32 : SV) (n33 n34 : Int) (ds : Ds) (w : World) (E : Env) (e1 : E 1 = .slice l1.a l1.len l1.cap) (e2 : E 2 = .pointer p2) (e4 : E 4 = .pointer p4) (e8 : E 8 = .pointer p8) (e32 : E 32 = .slice l32.a l32.len l32.cap) (e33 : E 33 = .int .i64 n33) (e34 : E 34 = .int .i64 n34) (h : F44_2 R J1 l1 p2 p4 p8 l32 n33 n34 ds w) :
    TrL prog f44.ntmps [c44_9_0_3] (F44_q5 R J1) E ds w :=
  TrL_leaf (X := F44_2 R J1 l1 p2 p4 p8 l32 n33 n34 ds w) (setAll_cons e1 (setAll_cons e2 (setAll_cons e4 (setAll_cons e8 (setAll_cons e32 (setAll_cons e33 (setAll_cons e34 setAll_nil))))))) (by kernel_rfl) (by kernel_rfl) h
theorem F44_3_ok (R : Rt) (J1 : (Int) -> World -> Prop) (l1 : SV) (p2 p4 p8 p11 : Option Addr) (l32 : SV) (n33 n34 : Int) (ds : Ds) (w : World) (E : Env) (e1 : E 1 = .slice l1.a l1.len l1.cap) (e2 : E 2 = .pointer p2) (e4 : E 4 = .pointer p4) (e8 : E 8 = .pointer p8) (e11 : E 11 = .pointer p11) (e32 : E 32 = .slice l32.a l32.len l32.cap) (e33 : E 33 = .int .i64 n33) (e34 : E 34 = .int .i64 n34) (h : F44_3 R J1 l1 p2 p4 p8 p11 l32 n33 n34 ds w) :
    TrL prog f44.ntmps [c44_9_0_2_4] (F44_q8 R J1) E ds w :=
  TrL_leaf (X := F44_3 R J1 l1 p2 p4 p8 p11 l32 n33 n34 ds w) (setAll_cons e1 (setAll_cons e2 (setAll_cons e4 (setAll_cons e8 (setAll_cons e11 (setAll_cons e32 (setAll_cons e33 (setAll_cons e34 setAll_nil)))))))) (by kernel_rfl) (by kernel_rfl) h
theorem F44_4_ok (R : Rt) (J1 : (Int) -> World -> Prop) (J2 : (Int) -> World -> Prop) (l1 : SV) (p2 p4 p8 p10 p11 : Option Addr) (l32 : SV) (n33 n34 : Int) (l41 : SV) (n42 n43 : Int) (ds : Ds) (w : World) (E : Env) (e1 : E 1 = .slice l1.a l1.len l1.cap) (e2 : E 2 = .pointer p2) (e4 : E 4 = .pointer p4) (e8 : E 8 = .pointer p8) (e10 : E 10 = .pointer p10) (e11 : E 11 = .pointer p11) (e32 : E 32 = .slice l32.a l32.len l32.cap) (e33 : E 33 = .int .i64 n33) (e34 : E 34 = .int .i64 n34) (e41 : E 41 = .slice l41.a l41.len l41.cap) (e42 : E 42 = .int .i64 n42) (e43 : E 43 = .int .i64 n43) (h : F44_4 R J1 J2 l1 p2 p4 p8 p10 p11 l32 n33 n34 l41 n42 n43 ds w) :
    TrL prog f44.ntmps [c44_9_0_2_3_0_0, c44_9_0_2_3_0_1, c44_9_0_2_3_0_2, c44_9_0_2_3_0_3] (F44_q12 R J1 J2) E ds w :=
  TrL_leaf (X := F44_4 R J1 J2 l1 p2 p4 p8 p10 p11 l32 n33 n34 l41 n42 n43 ds w) (setAll_cons e1 (setAll_cons e2 (setAll_cons e4 (setAll_cons e8 (setAll_cons e10 (setAll_cons e11 (setAll_cons e32 (setAll_cons e33 (setAll_cons e34 (setAll_cons e41 (setAll_cons e42 (setAll_cons e43 setAll_nil)))))))))))) (by kernel_rfl) (by kernel_rfl) h
theorem F44_5_ok (R : Rt) (J1 : (Int) -> World -> Prop) (l1 : SV) (p2 p4 p8 p10 p11 : Option Addr) (l32 : SV) (n33 n34 : Int) (l41 : SV) (n42 n43 : Int) (ds : Ds) (w : World) (E : Env) (e1 : E 1 = .slice l1.a l1.len l1.cap) (e2 : E 2 = .pointer p2) (e4 : E 4 = .pointer p4) (e8 : E 8 = .pointer p8) (e10 : E 10 = .pointer p10) (e11 : E 11 = .pointer p11) (e32 : E 32 = .slice l32.a l32.len l32.cap) (e33 : E 33 = .int .i64 n33) (e34 : E 34 = .int .i64 n34) (e41 : E 41 = .slice l41.a l41.len l41.cap) (e42 : E 42 = .int .i64 n42) (e43 : E 43 = .int .i64 n43) (h : F44_5 R J1 l1 p2 p4 p8 p10 p11 l32 n33 n34 l41 n42 n43 ds w) :
    TrL prog f44.ntmps [c44_9_0_2_3_0] (F44_q11 R J1) E ds w :=
  TrL_one (Tr_loop' (c := innerC c44_9_0_2_3_0) (σ := Int) (enc := (fun (s : Int) (E : Env) => E 43 = .int .i64 s)) (D := (fun E K => dInt .i64 (E 43) fun n43 => K n43)) (F := (fun (J2 : (Int) -> World -> Prop) (s : Int) (w : World) => F44_4 R J1 J2 l1 p2 p4 p8 p10 p11 l32 n33 n34 l41 n42 s ds w)) (s0 := n43) (by kernel_rfl) c44_9_0_2_3_0_l e43 (by kernel_rfl) (fun E K hD => by obtain ⟨n43, e43, hD⟩ := dInt_elim hD; exact ⟨n43, e43, hD⟩)
      (fun J2 s E' w' he ha hF => by
      have e43' := he
      exact F44_4_ok R J1 J2 l1 p2 p4 p8 p10 p11 l32 n33 n34 l41 n42 s ds w' E' ((ha 1 (by kernel_rfl)).trans e1) ((ha 2 (by kernel_rfl)).trans e2) ((ha 4 (by kernel_rfl)).trans e4) ((ha 8 (by kernel_rfl)).trans e8) ((ha 10 (by kernel_rfl)).trans e10) ((ha 11 (by kernel_rfl)).trans e11) ((ha 32 (by kernel_rfl)).trans e32) ((ha 33 (by kernel_rfl)).trans e33) ((ha 34 (by kernel_rfl)).trans e34) ((ha 41 (by kernel_rfl)).trans e41) ((ha 42 (by kernel_rfl)).trans e42) e43' hF) h)
theorem F44_6_ok (R : Rt) (J1 : (Int) -> World -> Prop) (l1 : SV) (p2 p4 p8 p10 p11 : Option Addr) (l32 : SV) (n33 n34 : Int) (l41 : SV) (n42 n43 : Int) (ds : Ds) (w : World) (E : Env) (e1 : E 1 = .slice l1.a l1.len l1.cap) (e2 : E 2 = .pointer p2) (e4 : E 4 = .pointer p4) (e8 : E 8 = .pointer p8) (e10 : E 10 = .pointer p10) (e11 : E 11 = .pointer p11) (e32 : E 32 = .slice l32.a l32.len l32.cap) (e33 : E 33 = .int .i64 n33) (e34 : E 34 = .int .i64 n34) (e41 : E 41 = .slice l41.a l41.len l41.cap) (e42 : E 42 = .int .i64 n42) (e43 : E 43 = .int .i64 n43) (h : F44_6 R J1 l1 p2 p4 p8 p10 p11 l32 n33 n34 l41 n42 n43 ds w) :
    TrL prog f44.ntmps [c44_9_0_2_3, c44_9_0_2_4] (F44_q8 R J1) E ds w :=
  TrL_head (K := (F44_k9 R J1)) (Tr_block' (c := innerC c44_9_0_2_3) (by kernel_rfl) c44_9_0_2_3_l (F44_5_ok R J1 l1 p2 p4 p8 p10 p11 l32 n33 n34 l41 n42 n43 ds w E e1 e2 e4 e8 e10 e11 e32 e33 e34 e41 e42 e43 h))
    (fun E' ds' w' hD => by
      obtain ⟨l1, e1, hD⟩ := dSl_elim hD; obtain ⟨p2, e2, hD⟩ := dPtr_elim hD; obtain ⟨p4, e4, hD⟩ := dPtr_elim hD; obtain ⟨p8, e8, hD⟩ := dPtr_elim hD; obtain ⟨p11, e11, hD⟩ := dPtr_elim hD; obtain ⟨l32, e32, hD⟩ := dSl_elim hD; obtain ⟨n33, e33, hD⟩ := dInt_elim hD; obtain ⟨n34, e34, hD⟩ := dInt_elim hD; exact F44_3_ok R J1 l1 p2 p4 p8 p11 l32 n33 n34 ds' w' E' e1 e2 e4 e8 e11 e32 e33 e34 hD)
theorem F44_7_ok (R : Rt) (J1 : (Int) -> World -> Prop) (l1 : SV) (p2 p4 p8 : Option Addr) (l32 : SV) (n33 n34 : Int) (ds : Ds) (w : World) (E : Env) (e1 : E 1 = .slice l1.a l1.len l1.cap) (e2 : E 2 = .pointer p2) (e4 : E 4 = .pointer p4) (e8 : E 8 = .pointer p8) (e32 : E 32 = .slice l32.a l32.len l32.cap) (e33 : E 33 = .int .i64 n33) (e34 : E 34 = .int .i64 n34) (h : F44_7 R J1 l1 p2 p4 p8 l32 n33 n34 ds w) :
    TrL prog f44.ntmps [c44_9_0_2_0, c44_9_0_2_1, c44_9_0_2_2, c44_9_0_2_3, c44_9_0_2_4] (F44_q8 R J1) E ds w :=
  TrL_piece (pre := [c44_9_0_2_0, c44_9_0_2_1, c44_9_0_2_2]) (K := (F44_k13 R J1)) (X := F44_7 R J1 l1 p2 p4 p8 l32 n33 n34 ds w) (setAll_cons e1 (setAll_cons e2 (setAll_cons e4 (setAll_cons e8 (setAll_cons e32 (setAll_cons e33 (setAll_cons e34 setAll_nil))))))) (by kernel_rfl) (by kernel_rfl)
    (fun E' ds' w' hD => by
      obtain ⟨l1, e1, hD⟩ := dSl_elim hD; obtain ⟨p2, e2, hD⟩ := dPtr_elim hD; obtain ⟨p4, e4, hD⟩ := dPtr_elim hD; obtain ⟨p8, e8, hD⟩ := dPtr_elim hD; obtain ⟨p10, e10, hD⟩ := dPtr_elim hD; obtain ⟨p11, e11, hD⟩ := dPtr_elim hD; obtain ⟨l32, e32, hD⟩ := dSl_elim hD; obtain ⟨n33, e33, hD⟩ := dInt_elim hD; obtain ⟨n34, e34, hD⟩ := dInt_elim hD; obtain ⟨l41, e41, hD⟩ := dSl_elim hD; obtain ⟨n42, e42, hD⟩ := dInt_elim hD; obtain ⟨n43, e43, hD⟩ := dInt_elim hD; exact F44_6_ok R J1 l1 p2 p4 p8 p10 p11 l32 n33 n34 l41 n42 n43 ds' w' E' e1 e2 e4 e8 e10 e11 e32 e33 e34 e41 e42 e43 hD) h
theorem F44_8_ok (R : Rt) (J1 : (Int) -> World -> Prop) (l1 : SV) (p2 p4 p8 : Option Addr) (l32 : SV) (n33 n34 : Int) (ds : Ds) (w : World) (E : Env) (e1 : E 1 = .slice l1.a l1.len l1.cap) (e2 : E 2 = .pointer p2) (e4 : E 4 = .pointer p4) (e8 : E 8 = .pointer p8) (e32 : E 32 = .slice l32.a l32.len l32.cap) (e33 : E 33 = .int .i64 n33) (e34 : E 34 = .int .i64 n34) (h : F44_8 R J1 l1 p2 p4 p8 l32 n33 n34 ds w) :
    TrL prog f44.ntmps [c44_9_0_2, c44_9_0_3] (F44_q5 R J1) E ds w :=
  TrL_head (K := (F44_k6 R J1)) (Tr_block' (c := innerC c44_9_0_2) (by kernel_rfl) c44_9_0_2_l (F44_7_ok R J1 l1 p2 p4 p8 l32 n33 n34 ds w E e1 e2 e4 e8 e32 e33 e34 h))
    (fun E' ds' w' hD => by
      obtain ⟨l1, e1, hD⟩ := dSl_elim hD; obtain ⟨p2, e2, hD⟩ := dPtr_elim hD; obtain ⟨p4, e4, hD⟩ := dPtr_elim hD; obtain ⟨p8, e8, hD⟩ := dPtr_elim hD; obtain ⟨l32, e32, hD⟩ := dSl_elim hD; obtain ⟨n33, e33, hD⟩ := dInt_elim hD; obtain ⟨n34, e34, hD⟩ := dInt_elim hD; exact F44_2_ok R J1 l1 p2 p4 p8 l32 n33 n34 ds' w' E' e1 e2 e4 e8 e32 e33 e34 hD)
theorem F44_9_ok (R : Rt) (J1 : (Int) -> World -> Prop) (l1 : SV) (p2 p4 p8 : Option Addr) (l32 : SV) (n33 n34 : Int) (ds : Ds) (w : World) (E : Env) (e1 : E 1 = .slice l1.a l1.len l1.cap) (e2 : E 2 = .pointer p2) (e4 : E 4 = .pointer p4) (e8 : E 8 = .pointer p8) (e32 : E 32 = .slice l32.a l32.len l32.cap) (e33 : E 33 = .int .i64 n33) (e34 : E 34 = .int .i64 n34) (h : F44_9 R J1 l1 p2 p4 p8 l32 n33 n34 ds w) :
    TrL prog f44.ntmps [c44_9_0_0, c44_9_0_1, c44_9_0_2, c44_9_0_3] (F44_q5 R J1) E ds w :=
  TrL_piece (pre := [c44_9_0_0, c44_9_0_1]) (K := (F44_k14 R J1)) (X := F44_9 R J1 l1 p2 p4 p8 l32 n33 n34 ds w) (setAll_cons e1 (setAll_cons e2 (setAll_cons e4 (setAll_cons e8 (setAll_cons e32 (setAll_cons e33 (setAll_cons e34 setAll_nil))))))) (by kernel_rfl) (by kernel_rfl)
    (fun E' ds' w' hD => by
      obtain ⟨l1, e1, hD⟩ := dSl_elim hD; obtain ⟨p2, e2, hD⟩ := dPtr_elim hD; obtain ⟨p4, e4, hD⟩ := dPtr_elim hD; obtain ⟨p8, e8, hD⟩ := dPtr_elim hD; obtain ⟨l32, e32, hD⟩ := dSl_elim hD; obtain ⟨n33, e33, hD⟩ := dInt_elim hD; obtain ⟨n34, e34, hD⟩ := dInt_elim hD; exact F44_8_ok R J1 l1 p2 p4 p8 l32 n33 n34 ds' w' E' e1 e2 e4 e8 e32 e33 e34 hD) h
theorem F44_10_ok (R : Rt) (l1 : SV) (p2 p4 p8 : Option Addr) (l32 : SV) (n33 n34 : Int) (ds : Ds) (w : World) (E : Env) (e1 : E 1 = .slice l1.a l1.len l1.cap) (e2 : E 2 = .pointer p2) (e4 : E 4 = .pointer p4) (e8 : E 8 = .pointer p8) (e32 : E 32 = .slice l32.a l32.len l32.cap) (e33 : E 33 = .int .i64 n33) (e34 : E 34 = .int .i64 n34) (h : F44_10 R l1 p2 p4 p8 l32 n33 n34 ds w) :
    TrL prog f44.ntmps [c44_9_0] (F44_q4 R) E ds w :=
  TrL_one (Tr_loop' (c := innerC c44_9_0) (σ := Int) (enc := (fun (s : Int) (E : Env) => E 34 = .int .i64 s)) (D := (fun E K => dInt .i64 (E 34) fun n34 => K n34)) (F := (fun (J1 : (Int) -> World -> Prop) (s : Int) (w : World) => F44_9 R J1 l1 p2 p4 p8 l32 n33 s ds w)) (s0 := n34) (by kernel_rfl) c44_9_0_l e34 (by kernel_rfl) (fun E K hD => by obtain ⟨n34, e34, hD⟩ := dInt_elim hD; exact ⟨n34, e34, hD⟩)
      (fun J1 s E' w' he ha hF => by
      have e34' := he
      exact F44_9_ok R J1 l1 p2 p4 p8 l32 n33 s ds w' E' ((ha 1 (by kernel_rfl)).trans e1) ((ha 2 (by kernel_rfl)).trans e2) ((ha 4 (by kernel_rfl)).trans e4) ((ha 8 (by kernel_rfl)).trans e8) ((ha 32 (by kernel_rfl)).trans e32) ((ha 33 (by kernel_rfl)).trans e33) e34' hF) h)
theorem F44_11_ok (R : Rt) (l1 : SV) (p2 p4 p8 : Option Addr) (l32 : SV) (n33 n34 : Int) (ds : Ds) (w : World) (E : Env) (e1 : E 1 = .slice l1.a l1.len l1.cap) (e2 : E 2 = .pointer p2) (e4 : E 4 = .pointer p4) (e8 : E 8 = .pointer p8) (e32 : E 32 = .slice l32.a l32.len l32.cap) (e33 : E 33 = .int .i64 n33) (e34 : E 34 = .int .i64 n34) (h : F44_11 R l1 p2 p4 p8 l32 n33 n34 ds w) :
    TrL prog f44.ntmps [c44_9, c44_10, c44_11] (F44_q1 R) E ds w :=
  TrL_head (K := (F44_k2 R)) (Tr_block' (c := innerC c44_9) (by kernel_rfl) c44_9_l (F44_10_ok R l1 p2 p4 p8 l32 n33 n34 ds w E e1 e2 e4 e8 e32 e33 e34 h))
    (fun E' ds' w' hD => by
      obtain ⟨p4, e4, hD⟩ := dPtr_elim hD; obtain ⟨p8, e8, hD⟩ := dPtr_elim hD; exact F44_1_ok R p4 p8 ds' w' E' e4 e8 hD)
theorem F44_12_ok (R : Rt) (n0_0 : Int) (l0_1 l0_2 l1 : SV) (ds : Ds) (w : World) (E : Env) (e0 : E 0 = .agg #[.int .i64 n0_0, .slice l0_1.a l0_1.len l0_1.cap, .slice l0_2.a l0_2.len l0_2.cap]) (e1 : E 1 = .slice l1.a l1.len l1.cap) (h : F44_12 R n0_0 l0_1 l0_2 l1 ds w) :
    TrL prog f44.ntmps [c44_0, c44_1, c44_2, c44_3, c44_4, c44_5, c44_6, c44_7, c44_8, c44_9, c44_10, c44_11] (F44_q1 R) E ds w :=
  TrL_piece (pre := [c44_0, c44_1, c44_2, c44_3, c44_4, c44_5, c44_6, c44_7, c44_8]) (K := (F44_k15 R)) (X := F44_12 R n0_0 l0_1 l0_2 l1 ds w) (setAll_cons e0 (setAll_cons e1 setAll_nil)) (by kernel_rfl) (by kernel_rfl)
    (fun E' ds' w' hD => by
      obtain ⟨l1, e1, hD⟩ := dSl_elim hD; obtain ⟨p2, e2, hD⟩ := dPtr_elim hD; obtain ⟨p4, e4, hD⟩ := dPtr_elim hD; obtain ⟨p8, e8, hD⟩ := dPtr_elim hD; obtain ⟨l32, e32, hD⟩ := dSl_elim hD; obtain ⟨n33, e33, hD⟩ := dInt_elim hD; obtain ⟨n34, e34, hD⟩ := dInt_elim hD; exact F44_11_ok R l1 p2 p4 p8 l32 n33 n34 ds' w' E' e1 e2 e4 e8 e32 e33 e34 hD) h
theorem F44_calls (n0_0 : Int) (l0_1 l0_2 l1 : SV) (w : World) (R : Rt) (h : F44_12 R n0_0 l0_1 l0_2 l1 [] w) : Calls prog 44 #[.agg #[.int .i64 n0_0, .slice l0_1.a l0_1.len l0_1.cap, .slice l0_2.a l0_2.len l0_2.cap], .slice l1.a l1.len l1.cap] w R :=
  calls_of_L (l := [c44_0, c44_1, c44_2, c44_3, c44_4, c44_5, c44_6, c44_7, c44_8, c44_9, c44_10, c44_11]) func44 (by kernel_rfl) (by rw [ntmps44]; exact Nat.le_of_ble_eq_true (by kernel_rfl)) c44_l
    (F44_12_ok R n0_0 l0_1 l0_2 l1 [] w _ rfl rfl h)
noncomputable def c45_0 := cI26 f45 0
noncomputable def c45_1 := cI26 f45 1
noncomputable def c45_2 := cI26 f45 2
noncomputable def c45_3 := cI26 f45 3
noncomputable def c45_4 := cI26 f45 4
noncomputable def c45_5 := cI26 f45 5
noncomputable def c45_6 := cI26 f45 6
noncomputable def c45_7 := cI26 f45 7
noncomputable def c45_8 := cI26 f45 8
noncomputable def c45_9 := cI26 f45 9
noncomputable def c45_10 := cI26 f45 10
noncomputable def c45_11 := cI26 f45 11
noncomputable def c45_9_0 := cJ26 c45_9 0
noncomputable def c45_9_0_0 := cJ26 c45_9_0 0
noncomputable def c45_9_0_1 := cJ26 c45_9_0 1
noncomputable def c45_9_0_2 := cJ26 c45_9_0 2
noncomputable def c45_9_0_3 := cJ26 c45_9_0 3
noncomputable def c45_9_0_2_0 := cJ26 c45_9_0_2 0
noncomputable def c45_9_0_2_1 := cJ26 c45_9_0_2 1
noncomputable def c45_9_0_2_2 := cJ26 c45_9_0_2 2
noncomputable def c45_9_0_2_3 := cJ26 c45_9_0_2 3
noncomputable def c45_9_0_2_2_0 := cJ26 c45_9_0_2_2 0
noncomputable def c45_9_0_2_2_0_0 := cJ26 c45_9_0_2_2_0 0
noncomputable def c45_9_0_2_2_0_1 := cJ26 c45_9_0_2_2_0 1
noncomputable def c45_9_0_2_2_0_2 := cJ26 c45_9_0_2_2_0 2
noncomputable def c45_9_0_2_2_0_3 := cJ26 c45_9_0_2_2_0 3
def F45_q1 (R : Rt) : EQ := endQ prog f45.results.toList R
def F45_1 (R : Rt) (p4 p8 : Option Addr) (ds : Ds) (w : World) : Prop :=
 ptrE p8 fun a1 =>
 ∃ n124_0 : Int, w.cell? (a1.add 0) = some (.int .i64 n124_0) /\
 ∃ l124_1 : SV, w.cell? (a1.add 1) = some (.slice l124_1.a l124_1.len l124_1.cap) /\
 ∃ l124_2 : SV, w.cell? (a1.add 2) = some (.slice l124_2.a l124_2.len l124_2.cap) /\
 ptrE p4 fun a2 =>
 stA prog 35 a2 #[.int .i64 n124_0, .slice l124_1.a l124_1.len l124_1.cap, .slice l124_2.a l124_2.len l124_2.cap] w fun w3 =>
 runD prog ds w3 fun w4 =>
 ptrE p4 fun a5 =>
 ∃ nR0_0 : Int, w4.cell? (a5.add 0) = some (.int .i64 nR0_0) /\
 ∃ lR0_1 : SV, w4.cell? (a5.add 1) = some (.slice lR0_1.a lR0_1.len lR0_1.cap) /\
 ∃ lR0_2 : SV, w4.cell? (a5.add 2) = some (.slice lR0_2.a lR0_2.len lR0_2.cap) /\
 R (.returned (.tuple #[.agg #[.int .i64 nR0_0, .slice lR0_1.a lR0_1.len lR0_1.cap, .slice lR0_2.a lR0_2.len lR0_2.cap], .int .i64 0])) w4
def F45_k2 (R : Rt) : EP := (fun E ds w => dPtr (E 4) fun p4 => dPtr (E 8) fun p8 => F45_1 R p4 p8 ds w)
def F45_q3 (R : Rt) : EQ := (thenQ (F45_k2 R) (F45_q1 R))
def F45_q4 (R : Rt) : EQ := (blockQ 0 (F45_q3 R))
def F45_q5 (R : Rt) (J1 : (Int) -> World -> Prop) : EQ := (thenQ (fun E _ w => dInt .i64 (E 9) fun n9 => J1 n9 w) (F45_q4 R))
def F45_2 (R : Rt) (J1 : (Int) -> World -> Prop) (l1 : SV) (p2 p4 p8 : Option Addr) (n9 : Int) (ds : Ds) (w : World) : Prop :=
 J1 (IntKind.i64.wrap (n9 + 1)) w
def F45_k6 (R : Rt) (J1 : (Int) -> World -> Prop) : EP := (fun E ds w => dSl (E 1) fun l1 => dPtr (E 2) fun p2 => dPtr (E 4) fun p4 => dPtr (E 8) fun p8 => dInt .i64 (E 9) fun n9 => F45_2 R J1 l1 p2 p4 p8 n9 ds w)
def F45_q7 (R : Rt) (J1 : (Int) -> World -> Prop) : EQ := (thenQ (F45_k6 R J1) (F45_q5 R J1))
def F45_q8 (R : Rt) (J1 : (Int) -> World -> Prop) : EQ := (blockQ 1 (F45_q7 R J1))
def F45_3 (R : Rt) (J1 : (Int) -> World -> Prop) (l1 : SV) (p2 p4 p8 : Option Addr) (n9 : Int) (p10 : Option Addr) (ds : Ds) (w : World) : Prop :=
 ptrE p8 fun a6 =>
 ∃ l119 : SV, w.cell? (a6.add 2) = some (.slice l119.a l119.len l119.cap) /\
 ptrE p10 fun a7 =>
 ∃ b120_0 : Bool, w.cell? (a7.add 0) = some (.bool b120_0) /\
 ∃ l120_1 : SV, w.cell? (a7.add 1) = some (.slice l120_1.a l120_1.len l120_1.cap) /\
 alE (.cells #[.bool b120_0, .slice l120_1.a l120_1.len l120_1.cap] 46) w fun r121 w8 =>
 ∃ l122 : SV, ∃ w9 : World, (Builtin.append_ #[33, 33] 33 #[.slice l119.a l119.len l119.cap, .slice (some ⟨r121, 0, none⟩) 1 1]).run prog w8 = .ok (.slice l122.a l122.len l122.cap) w9 /\
 ptrE p8 fun a10 =>
 st1 (a10.add 2) (.slice l122.a l122.len l122.cap) w9 fun w11 =>
 F45_2 R J1 l1 p2 p4 p8 n9 ds w11
def F45_k9 (R : Rt) (J1 : (Int) -> World -> Prop) : EP := (fun E ds w => dSl (E 1) fun l1 => dPtr (E 2) fun p2 => dPtr (E 4) fun p4 => dPtr (E 8) fun p8 => dInt .i64 (E 9) fun n9 => dPtr (E 10) fun p10 => F45_3 R J1 l1 p2 p4 p8 n9 p10 ds w)
def F45_q10 (R : Rt) (J1 : (Int) -> World -> Prop) : EQ := (thenQ (F45_k9 R J1) (F45_q8 R J1))
def F45_q11 (R : Rt) (J1 : (Int) -> World -> Prop) : EQ := (blockQ 2 (F45_q10 R J1))
def F45_q12 (R : Rt) (J1 : (Int) -> World -> Prop) (J2 : (Int) -> World -> Prop) : EQ := (thenQ (fun E _ w => dInt .i64 (E 11) fun n11 => J2 n11 w) (F45_q11 R J1))
def F45_4 (R : Rt) (J1 : (Int) -> World -> Prop) (J2 : (Int) -> World -> Prop) (l1 : SV) (p2 p4 p8 : Option Addr) (n9 : Int) (p10 : Option Addr) (n11 : Int) (ds : Ds) (w : World) : Prop :=
 J2 (IntKind.i64.wrap (n11 + 1)) w
def F45_k13 (R : Rt) (J1 : (Int) -> World -> Prop) (J2 : (Int) -> World -> Prop) : EP := (fun E ds w => dSl (E 1) fun l1 => dPtr (E 2) fun p2 => dPtr (E 4) fun p4 => dPtr (E 8) fun p8 => dInt .i64 (E 9) fun n9 => dPtr (E 10) fun p10 => dInt .i64 (E 11) fun n11 => F45_4 R J1 J2 l1 p2 p4 p8 n9 p10 n11 ds w)
def F45_5 (R : Rt) (J1 : (Int) -> World -> Prop) (J2 : (Int) -> World -> Prop) (l1 : SV) (p2 p4 p8 : Option Addr) (n9 : Int) (p10 : Option Addr) (n11 : Int) (ds : Ds) (w : World) : Prop :=
 ∃ a12 : Addr, l1.a = some a12 /\ 0 ≤ n11 /\ n11 < (l1.len : Int) /\
 ∃ s59_0 : ByteArray, w.cell? ((a12.add (n11.toNat * 4)).add 0) = some (.string s59_0) /\
 ∃ n59_1 : Int, w.cell? ((a12.add (n11.toNat * 4)).add 1) = some (.int .i64 n59_1) /\
 ∃ n59_2 : Int, w.cell? ((a12.add (n11.toNat * 4)).add 2) = some (.int .i64 n59_2) /\
 ∃ b59_3 : Bool, w.cell? ((a12.add (n11.toNat * 4)).add 3) = some (.bool b59_3) /\
 Calls prog 87 #[.agg #[.string s59_0, .int .i64 n59_1, .int .i64 n59_2, .bool b59_3]] w fun e w13 =>
 ∃ n60_0 : Int, ∃ n60_1 : Int, ∃ s60_2 : ByteArray, e = .returned (.agg #[.int .i64 n60_0, .int .i64 n60_1, .string s60_2]) /\
 alE (.cells #[.int .i64 0, .int .i64 0, .string (⟨#[]⟩ : ByteArray)] 25) w13 fun r12 w14 =>
 stA prog 25 (⟨r12, 0, none⟩ : Addr) #[.int .i64 n60_0, .int .i64 n60_1, .string s60_2] w14 fun w15 =>
 dwE w15 fun w16 =>
 ptrE p2 fun a17 =>
 ∃ l63 : SV, w16.cell? (a17.add 1) = some (.slice l63.a l63.len l63.cap) /\
 ∃ a18 : Addr, l1.a = some a18 /\ 0 ≤ n11 /\ n11 < (l1.len : Int) /\
 ∃ s68 : ByteArray, w16.cell? (a18.add (n11.toNat * 4)) = some (.string s68) /\
 Calls prog 28 #[.slice l63.a l63.len l63.cap, .string s68] w16 fun e w19 =>
 ∃ n69_0 : Int, ∃ b69_1 : Bool, e = .returned (.tuple #[.int .i64 n69_0, .bool b69_1]) /\
 Br b69_1 (
 dwE w19 fun w20 =>
 ∃ S2 : World -> Prop, S2 w20 /\
 ptrE p2 fun a21 =>
 ∃ l75 : SV, (∀ w', S2 w' -> w'.cell? (a21.add 1) = some (.slice l75.a l75.len l75.cap)) /\
 ∃ a22 : Addr, l75.a = some a22 /\ 0 ≤ n69_0 /\ n69_0 < (l75.len : Int) /\
 ∃ n79 : Int, (∀ w', S2 w' -> w'.cell? ((a22.add (n69_0.toNat * 4)).add 1) = some (.int .i64 n79)) /\
 ∃ a23 : Addr, l1.a = some a23 /\ 0 ≤ n11 /\ n11 < (l1.len : Int) /\
 ∃ n84 : Int, (∀ w', S2 w' -> w'.cell? ((a23.add (n11.toNat * 4)).add 1) = some (.int .i64 n84)) /\
 ptrE p2 fun a24 =>
 ∃ l86 : SV, (∀ w', S2 w' -> w'.cell? (a24.add 2) = some (.slice l86.a l86.len l86.cap)) /\
 ∃ a25 : Addr, l86.a = some a25 /\ 0 ≤ n9 /\ n9 < (l86.len : Int) /\
 ∃ l90 : SV, (∀ w', S2 w' -> w'.cell? ((a25.add (n9.toNat * 2)).add 1) = some (.slice l90.a l90.len l90.cap)) /\
 ∃ a26 : Addr, l90.a = some a26 /\ 0 ≤ n69_0 /\ n69_0 < (l90.len : Int) /\
 ∃ n93_0 : Int, (∀ w', S2 w' -> w'.cell? ((a26.add (n69_0.toNat * 3)).add 0) = some (.int .i64 n93_0)) /\
 ∃ n93_1 : Int, (∀ w', S2 w' -> w'.cell? ((a26.add (n69_0.toNat * 3)).add 1) = some (.int .i64 n93_1)) /\
 ∃ s93_2 : ByteArray, (∀ w', S2 w' -> w'.cell? ((a26.add (n69_0.toNat * 3)).add 2) = some (.string s93_2)) /\
 (
 Calls prog 88 #[.int .i64 n79, .int .i64 n84, .agg #[.int .i64 n93_0, .int .i64 n93_1, .string s93_2]] w20 fun e w27 =>
 ∃ n94_0_0 : Int, ∃ n94_0_1 : Int, ∃ s94_0_2 : ByteArray, ∃ b94_1 : Bool, e = .returned (.tuple #[.agg #[.int .i64 n94_0_0, .int .i64 n94_0_1, .string s94_0_2], .bool b94_1]) /\
 alE (.cells #[.int .i64 0, .int .i64 0, .string (⟨#[]⟩ : ByteArray)] 25) w27 fun r15 w28 =>
 stA prog 25 (⟨r15, 0, none⟩ : Addr) #[.int .i64 n94_0_0, .int .i64 n94_0_1, .string s94_0_2] w28 fun w29 =>
 Br b94_1 (
 dwE w29 fun w30 =>
 ∃ S3 : World -> Prop, S3 w30 /\
 ∃ a31 : Addr, l1.a = some a31 /\ 0 ≤ n11 /\ n11 < (l1.len : Int) /\
 ∃ s102_0 : ByteArray, (∀ w', S3 w' -> w'.cell? ((a31.add (n11.toNat * 4)).add 0) = some (.string s102_0)) /\
 ∃ n102_1 : Int, (∀ w', S3 w' -> w'.cell? ((a31.add (n11.toNat * 4)).add 1) = some (.int .i64 n102_1)) /\
 ∃ n102_2 : Int, (∀ w', S3 w' -> w'.cell? ((a31.add (n11.toNat * 4)).add 2) = some (.int .i64 n102_2)) /\
 ∃ b102_3 : Bool, (∀ w', S3 w' -> w'.cell? ((a31.add (n11.toNat * 4)).add 3) = some (.bool b102_3)) /\
 ptrE p2 fun a32 =>
 ∃ n104 : Int, (∀ w', S3 w' -> w'.cell? a32 = some (.int .i64 n104)) /\
 ∃ n105_0 : Int, (∀ w', S3 w' -> w'.cell? ((⟨r15, 0, none⟩ : Addr).add 0) = some (.int .i64 n105_0)) /\
 ∃ n105_1 : Int, (∀ w', S3 w' -> w'.cell? ((⟨r15, 0, none⟩ : Addr).add 1) = some (.int .i64 n105_1)) /\
 ∃ s105_2 : ByteArray, (∀ w', S3 w' -> w'.cell? ((⟨r15, 0, none⟩ : Addr).add 2) = some (.string s105_2)) /\
 (
 Calls prog 58 #[.agg #[.string s102_0, .int .i64 n102_1, .int .i64 n102_2, .bool b102_3], .int .i64 n104, .agg #[.int .i64 n105_0, .int .i64 n105_1, .string s105_2]] w30 fun e w33 =>
 ∃ n106_0_0 : Int, ∃ n106_0_1 : Int, ∃ s106_0_2 : ByteArray, ∃ n106_1 : Int, e = .returned (.tuple #[.agg #[.int .i64 n106_0_0, .int .i64 n106_0_1, .string s106_0_2], .int .i64 n106_1]) /\
 alE (.cells #[.int .i64 0, .int .i64 0, .string (⟨#[]⟩ : ByteArray)] 25) w33 fun r17 w34 =>
 stA prog 25 (⟨r17, 0, none⟩ : Addr) #[.int .i64 n106_0_0, .int .i64 n106_0_1, .string s106_0_2] w34 fun w35 =>
 Br (n106_1 == 0) (
 ∃ n111_0 : Int, w35.cell? ((⟨r17, 0, none⟩ : Addr).add 0) = some (.int .i64 n111_0) /\
 ∃ n111_1 : Int, w35.cell? ((⟨r17, 0, none⟩ : Addr).add 1) = some (.int .i64 n111_1) /\
 ∃ s111_2 : ByteArray, w35.cell? ((⟨r17, 0, none⟩ : Addr).add 2) = some (.string s111_2) /\
 stA prog 25 (⟨r12, 0, none⟩ : Addr) #[.int .i64 n111_0, .int .i64 n111_1, .string s111_2] w35 fun w36 =>
 ptrE p10 fun a37 =>
 ∃ l113 : SV, w36.cell? (a37.add 1) = some (.slice l113.a l113.len l113.cap) /\
 ∃ n114_0 : Int, w36.cell? ((⟨r12, 0, none⟩ : Addr).add 0) = some (.int .i64 n114_0) /\
 ∃ n114_1 : Int, w36.cell? ((⟨r12, 0, none⟩ : Addr).add 1) = some (.int .i64 n114_1) /\
 ∃ s114_2 : ByteArray, w36.cell? ((⟨r12, 0, none⟩ : Addr).add 2) = some (.string s114_2) /\
 alE (.cells #[.int .i64 n114_0, .int .i64 n114_1, .string s114_2] 25) w36 fun r115 w38 =>
 ∃ l116 : SV, ∃ w39 : World, (Builtin.append_ #[44, 44] 44 #[.slice l113.a l113.len l113.cap, .slice (some ⟨r115, 0, none⟩) 1 1]).run prog w38 = .ok (.slice l116.a l116.len l116.cap) w39 /\
 ptrE p10 fun a40 =>
 st1 (a40.add 1) (.slice l116.a l116.len l116.cap) w39 fun w41 =>
 F45_4 R J1 J2 l1 p2 p4 p8 n9 p10 n11 ds w41) (
 ptrE p10 fun a42 =>
 ∃ l113 : SV, w35.cell? (a42.add 1) = some (.slice l113.a l113.len l113.cap) /\
 ∃ n114_0 : Int, w35.cell? ((⟨r12, 0, none⟩ : Addr).add 0) = some (.int .i64 n114_0) /\
 ∃ n114_1 : Int, w35.cell? ((⟨r12, 0, none⟩ : Addr).add 1) = some (.int .i64 n114_1) /\
 ∃ s114_2 : ByteArray, w35.cell? ((⟨r12, 0, none⟩ : Addr).add 2) = some (.string s114_2) /\
 alE (.cells #[.int .i64 n114_0, .int .i64 n114_1, .string s114_2] 25) w35 fun r115 w43 =>
 ∃ l116 : SV, ∃ w44 : World, (Builtin.append_ #[44, 44] 44 #[.slice l113.a l113.len l113.cap, .slice (some ⟨r115, 0, none⟩) 1 1]).run prog w43 = .ok (.slice l116.a l116.len l116.cap) w44 /\
 ptrE p10 fun a45 =>
 st1 (a45.add 1) (.slice l116.a l116.len l116.cap) w44 fun w46 =>
 F45_4 R J1 J2 l1 p2 p4 p8 n9 p10 n11 ds w46)) /\ (
 alE (.cells #[.int .i64 0, .int .i64 0, .string (⟨#[]⟩ : ByteArray)] 25) w30 fun r17 w47 =>
 S3 w47 /\
 Calls prog 58 #[.agg #[.string s102_0, .int .i64 n102_1, .int .i64 n102_2, .bool b102_3], .int .i64 n104, .agg #[.int .i64 n105_0, .int .i64 n105_1, .string s105_2]] w47 fun e w48 =>
 ∃ n106_0_0 : Int, ∃ n106_0_1 : Int, ∃ s106_0_2 : ByteArray, ∃ n106_1 : Int, e = .returned (.tuple #[.agg #[.int .i64 n106_0_0, .int .i64 n106_0_1, .string s106_0_2], .int .i64 n106_1]) /\
 stA prog 25 (⟨r17, 0, none⟩ : Addr) #[.int .i64 n106_0_0, .int .i64 n106_0_1, .string s106_0_2] w48 fun w49 =>
 Br (n106_1 == 0) (
 ∃ n111_0 : Int, w49.cell? ((⟨r17, 0, none⟩ : Addr).add 0) = some (.int .i64 n111_0) /\
 ∃ n111_1 : Int, w49.cell? ((⟨r17, 0, none⟩ : Addr).add 1) = some (.int .i64 n111_1) /\
 ∃ s111_2 : ByteArray, w49.cell? ((⟨r17, 0, none⟩ : Addr).add 2) = some (.string s111_2) /\
 stA prog 25 (⟨r12, 0, none⟩ : Addr) #[.int .i64 n111_0, .int .i64 n111_1, .string s111_2] w49 fun w50 =>
 ptrE p10 fun a51 =>
 ∃ l113 : SV, w50.cell? (a51.add 1) = some (.slice l113.a l113.len l113.cap) /\
 ∃ n114_0 : Int, w50.cell? ((⟨r12, 0, none⟩ : Addr).add 0) = some (.int .i64 n114_0) /\
 ∃ n114_1 : Int, w50.cell? ((⟨r12, 0, none⟩ : Addr).add 1) = some (.int .i64 n114_1) /\
 ∃ s114_2 : ByteArray, w50.cell? ((⟨r12, 0, none⟩ : Addr).add 2) = some (.string s114_2) /\
 alE (.cells #[.int .i64 n114_0, .int .i64 n114_1, .string s114_2] 25) w50 fun r115 w52 =>
 ∃ l116 : SV, ∃ w53 : World, (Builtin.append_ #[44, 44] 44 #[.slice l113.a l113.len l113.cap, .slice (some ⟨r115, 0, none⟩) 1 1]).run prog w52 = .ok (.slice l116.a l116.len l116.cap) w53 /\
 ptrE p10 fun a54 =>
 st1 (a54.add 1) (.slice l116.a l116.len l116.cap) w53 fun w55 =>
 F45_4 R J1 J2 l1 p2 p4 p8 n9 p10 n11 ds w55) (
 ptrE p10 fun a56 =>
 ∃ l113 : SV, w49.cell? (a56.add 1) = some (.slice l113.a l113.len l113.cap) /\
 ∃ n114_0 : Int, w49.cell? ((⟨r12, 0, none⟩ : Addr).add 0) = some (.int .i64 n114_0) /\
 ∃ n114_1 : Int, w49.cell? ((⟨r12, 0, none⟩ : Addr).add 1) = some (.int .i64 n114_1) /\
 ∃ s114_2 : ByteArray, w49.cell? ((⟨r12, 0, none⟩ : Addr).add 2) = some (.string s114_2) /\
 alE (.cells #[.int .i64 n114_0, .int .i64 n114_1, .string s114_2] 25) w49 fun r115 w57 =>
 ∃ l116 : SV, ∃ w58 : World, (Builtin.append_ #[44, 44] 44 #[.slice l113.a l113.len l113.cap, .slice (some ⟨r115, 0, none⟩) 1 1]).run prog w57 = .ok (.slice l116.a l116.len l116.cap) w58 /\
 ptrE p10 fun a59 =>
 st1 (a59.add 1) (.slice l116.a l116.len l116.cap) w58 fun w60 =>
 F45_4 R J1 J2 l1 p2 p4 p8 n9 p10 n11 ds w60))) (
 ptrE p10 fun a61 =>
 ∃ l113 : SV, w29.cell? (a61.add 1) = some (.slice l113.a l113.len l113.cap) /\
 ∃ n114_0 : Int, w29.cell? ((⟨r12, 0, none⟩ : Addr).add 0) = some (.int .i64 n114_0) /\
 ∃ n114_1 : Int, w29.cell? ((⟨r12, 0, none⟩ : Addr).add 1) = some (.int .i64 n114_1) /\
 ∃ s114_2 : ByteArray, w29.cell? ((⟨r12, 0, none⟩ : Addr).add 2) = some (.string s114_2) /\
 alE (.cells #[.int .i64 n114_0, .int .i64 n114_1, .string s114_2] 25) w29 fun r115 w62 =>
 ∃ l116 : SV, ∃ w63 : World, (Builtin.append_ #[44, 44] 44 #[.slice l113.a l113.len l113.cap, .slice (some ⟨r115, 0, none⟩) 1 1]).run prog w62 = .ok (.slice l116.a l116.len l116.cap) w63 /\
 ptrE p10 fun a64 =>
 st1 (a64.add 1) (.slice l116.a l116.len l116.cap) w63 fun w65 =>
 F45_4 R J1 J2 l1 p2 p4 p8 n9 p10 n11 ds w65)) /\ (
 alE (.cells #[.int .i64 0, .int .i64 0, .string (⟨#[]⟩ : ByteArray)] 25) w20 fun r15 w66 =>
 S2 w66 /\
 Calls prog 88 #[.int .i64 n79, .int .i64 n84, .agg #[.int .i64 n93_0, .int .i64 n93_1, .string s93_2]] w66 fun e w67 =>
 ∃ n94_0_0 : Int, ∃ n94_0_1 : Int, ∃ s94_0_2 : ByteArray, ∃ b94_1 : Bool, e = .returned (.tuple #[.agg #[.int .i64 n94_0_0, .int .i64 n94_0_1, .string s94_0_2], .bool b94_1]) /\
 stA prog 25 (⟨r15, 0, none⟩ : Addr) #[.int .i64 n94_0_0, .int .i64 n94_0_1, .string s94_0_2] w67 fun w68 =>
 Br b94_1 (
 dwE w68 fun w69 =>
 ∃ S4 : World -> Prop, S4 w69 /\
 ∃ a70 : Addr, l1.a = some a70 /\ 0 ≤ n11 /\ n11 < (l1.len : Int) /\
 ∃ s102_0 : ByteArray, (∀ w', S4 w' -> w'.cell? ((a70.add (n11.toNat * 4)).add 0) = some (.string s102_0)) /\
 ∃ n102_1 : Int, (∀ w', S4 w' -> w'.cell? ((a70.add (n11.toNat * 4)).add 1) = some (.int .i64 n102_1)) /\
 ∃ n102_2 : Int, (∀ w', S4 w' -> w'.cell? ((a70.add (n11.toNat * 4)).add 2) = some (.int .i64 n102_2)) /\
 ∃ b102_3 : Bool, (∀ w', S4 w' -> w'.cell? ((a70.add (n11.toNat * 4)).add 3) = some (.bool b102_3)) /\
 ptrE p2 fun a71 =>
 ∃ n104 : Int, (∀ w', S4 w' -> w'.cell? a71 = some (.int .i64 n104)) /\
 ∃ n105_0 : Int, (∀ w', S4 w' -> w'.cell? ((⟨r15, 0, none⟩ : Addr).add 0) = some (.int .i64 n105_0)) /\
 ∃ n105_1 : Int, (∀ w', S4 w' -> w'.cell? ((⟨r15, 0, none⟩ : Addr).add 1) = some (.int .i64 n105_1)) /\
 ∃ s105_2 : ByteArray, (∀ w', S4 w' -> w'.cell? ((⟨r15, 0, none⟩ : Addr).add 2) = some (.string s105_2)) /\
 (
 Calls prog 58 #[.agg #[.string s102_0, .int .i64 n102_1, .int .i64 n102_2, .bool b102_3], .int .i64 n104, .agg #[.int .i64 n105_0, .int .i64 n105_1, .string s105_2]] w69 fun e w72 =>
 ∃ n106_0_0 : Int, ∃ n106_0_1 : Int, ∃ s106_0_2 : ByteArray, ∃ n106_1 : Int, e = .returned (.tuple #[.agg #[.int .i64 n106_0_0, .int .i64 n106_0_1, .string s106_0_2], .int .i64 n106_1]) /\
 alE (.cells #[.int .i64 0, .int .i64 0, .string (⟨#[]⟩ : ByteArray)] 25) w72 fun r17 w73 =>
 stA prog 25 (⟨r17, 0, none⟩ : Addr) #[.int .i64 n106_0_0, .int .i64 n106_0_1, .string s106_0_2] w73 fun w74 =>
 Br (n106_1 == 0) (
 ∃ n111_0 : Int, w74.cell? ((⟨r17, 0, none⟩ : Addr).add 0) = some (.int .i64 n111_0) /\
 ∃ n111_1 : Int, w74.cell? ((⟨r17, 0, none⟩ : Addr).add 1) = some (.int .i64 n111_1) /\
 ∃ s111_2 : ByteArray, w74.cell? ((⟨r17, 0, none⟩ : Addr).add 2) = some (.string s111_2) /\
 stA prog 25 (⟨r12, 0, none⟩ : Addr) #[.int .i64 n111_0, .int .i64 n111_1, .string s111_2] w74 fun w75 =>
 ptrE p10 fun a76 =>
 ∃ l113 : SV, w75.cell? (a76.add 1) = some (.slice l113.a l113.len l113.cap) /\
 ∃ n114_0 : Int, w75.cell? ((⟨r12, 0, none⟩ : Addr).add 0) = some (.int .i64 n114_0) /\
 ∃ n114_1 : Int, w75.cell? ((⟨r12, 0, none⟩ : Addr).add 1) = some (.int .i64 n114_1) /\
 ∃ s114_2 : ByteArray, w75.cell? ((⟨r12, 0, none⟩ : Addr).add 2) = some (.string s114_2) /\
 alE (.cells #[.int .i64 n114_0, .int .i64 n114_1, .string s114_2] 25) w75 fun r115 w77 =>
 ∃ l116 : SV, ∃ w78 : World, (Builtin.append_ #[44, 44] 44 #[.slice l113.a l113.len l113.cap, .slice (some ⟨r115, 0, none⟩) 1 1]).run prog w77 = .ok (.slice l116.a l116.len l116.cap) w78 /\
 ptrE p10 fun a79 =>
 st1 (a79.add 1) (.slice l116.a l116.len l116.cap) w78 fun w80 =>
 F45_4 R J1 J2 l1 p2 p4 p8 n9 p10 n11 ds w80) (
 ptrE p10 fun a81 =>
 ∃ l113 : SV, w74.cell? (a81.add 1) = some (.slice l113.a l113.len l113.cap) /\
 ∃ n114_0 : Int, w74.cell? ((⟨r12, 0, none⟩ : Addr).add 0) = some (.int .i64 n114_0) /\
 ∃ n114_1 : Int, w74.cell? ((⟨r12, 0, none⟩ : Addr).add 1) = some (.int .i64 n114_1) /\
 ∃ s114_2 : ByteArray, w74.cell? ((⟨r12, 0, none⟩ : Addr).add 2) = some (.string s114_2) /\
 alE (.cells #[.int .i64 n114_0, .int .i64 n114_1, .string s114_2] 25) w74 fun r115 w82 =>
 ∃ l116 : SV, ∃ w83 : World, (Builtin.append_ #[44, 44] 44 #[.slice l113.a l113.len l113.cap, .slice (some ⟨r115, 0, none⟩) 1 1]).run prog w82 = .ok (.slice l116.a l116.len l116.cap) w83 /\
 ptrE p10 fun a84 =>
 st1 (a84.add 1) (.slice l116.a l116.len l116.cap) w83 fun w85 =>
 F45_4 R J1 J2 l1 p2 p4 p8 n9 p10 n11 ds w85)) /\ (
 alE (.cells #[.int .i64 0, .int .i64 0, .string (⟨#[]⟩ : ByteArray)] 25) w69 fun r17 w86 =>
 S4 w86 /\
 Calls prog 58 #[.agg #[.string s102_0, .int .i64 n102_1, .int .i64 n102_2, .bool b102_3], .int .i64 n104, .agg #[.int .i64 n105_0, .int .i64 n105_1, .string s105_2]] w86 fun e w87 =>
 ∃ n106_0_0 : Int, ∃ n106_0_1 : Int, ∃ s106_0_2 : ByteArray, ∃ n106_1 : Int, e = .returned (.tuple #[.agg #[.int .i64 n106_0_0, .int .i64 n106_0_1, .string s106_0_2], .int .i64 n106_1]) /\
 stA prog 25 (⟨r17, 0, none⟩ : Addr) #[.int .i64 n106_0_0, .int .i64 n106_0_1, .string s106_0_2] w87 fun w88 =>
 Br (n106_1 == 0) (
 ∃ n111_0 : Int, w88.cell? ((⟨r17, 0, none⟩ : Addr).add 0) = some (.int .i64 n111_0) /\
 ∃ n111_1 : Int, w88.cell? ((⟨r17, 0, none⟩ : Addr).add 1) = some (.int .i64 n111_1) /\
 ∃ s111_2 : ByteArray, w88.cell? ((⟨r17, 0, none⟩ : Addr).add 2) = some (.string s111_2) /\
 stA prog 25 (⟨r12, 0, none⟩ : Addr) #[.int .i64 n111_0, .int .i64 n111_1, .string s111_2] w88 fun w89 =>
 ptrE p10 fun a90 =>
 ∃ l113 : SV, w89.cell? (a90.add 1) = some (.slice l113.a l113.len l113.cap) /\
 ∃ n114_0 : Int, w89.cell? ((⟨r12, 0, none⟩ : Addr).add 0) = some (.int .i64 n114_0) /\
 ∃ n114_1 : Int, w89.cell? ((⟨r12, 0, none⟩ : Addr).add 1) = some (.int .i64 n114_1) /\
 ∃ s114_2 : ByteArray, w89.cell? ((⟨r12, 0, none⟩ : Addr).add 2) = some (.string s114_2) /\
 alE (.cells #[.int .i64 n114_0, .int .i64 n114_1, .string s114_2] 25) w89 fun r115 w91 =>
 ∃ l116 : SV, ∃ w92 : World, (Builtin.append_ #[44, 44] 44 #[.slice l113.a l113.len l113.cap, .slice (some ⟨r115, 0, none⟩) 1 1]).run prog w91 = .ok (.slice l116.a l116.len l116.cap) w92 /\
 ptrE p10 fun a93 =>
 st1 (a93.add 1) (.slice l116.a l116.len l116.cap) w92 fun w94 =>
 F45_4 R J1 J2 l1 p2 p4 p8 n9 p10 n11 ds w94) (
 ptrE p10 fun a95 =>
 ∃ l113 : SV, w88.cell? (a95.add 1) = some (.slice l113.a l113.len l113.cap) /\
 ∃ n114_0 : Int, w88.cell? ((⟨r12, 0, none⟩ : Addr).add 0) = some (.int .i64 n114_0) /\
 ∃ n114_1 : Int, w88.cell? ((⟨r12, 0, none⟩ : Addr).add 1) = some (.int .i64 n114_1) /\
 ∃ s114_2 : ByteArray, w88.cell? ((⟨r12, 0, none⟩ : Addr).add 2) = some (.string s114_2) /\
 alE (.cells #[.int .i64 n114_0, .int .i64 n114_1, .string s114_2] 25) w88 fun r115 w96 =>
 ∃ l116 : SV, ∃ w97 : World, (Builtin.append_ #[44, 44] 44 #[.slice l113.a l113.len l113.cap, .slice (some ⟨r115, 0, none⟩) 1 1]).run prog w96 = .ok (.slice l116.a l116.len l116.cap) w97 /\
 ptrE p10 fun a98 =>
 st1 (a98.add 1) (.slice l116.a l116.len l116.cap) w97 fun w99 =>
 F45_4 R J1 J2 l1 p2 p4 p8 n9 p10 n11 ds w99))) (
 ptrE p10 fun a100 =>
 ∃ l113 : SV, w68.cell? (a100.add 1) = some (.slice l113.a l113.len l113.cap) /\
 ∃ n114_0 : Int, w68.cell? ((⟨r12, 0, none⟩ : Addr).add 0) = some (.int .i64 n114_0) /\
 ∃ n114_1 : Int, w68.cell? ((⟨r12, 0, none⟩ : Addr).add 1) = some (.int .i64 n114_1) /\
 ∃ s114_2 : ByteArray, w68.cell? ((⟨r12, 0, none⟩ : Addr).add 2) = some (.string s114_2) /\
 alE (.cells #[.int .i64 n114_0, .int .i64 n114_1, .string s114_2] 25) w68 fun r115 w101 =>
 ∃ l116 : SV, ∃ w102 : World, (Builtin.append_ #[44, 44] 44 #[.slice l113.a l113.len l113.cap, .slice (some ⟨r115, 0, none⟩) 1 1]).run prog w101 = .ok (.slice l116.a l116.len l116.cap) w102 /\
 ptrE p10 fun a103 =>
 st1 (a103.add 1) (.slice l116.a l116.len l116.cap) w102 fun w104 =>
 F45_4 R J1 J2 l1 p2 p4 p8 n9 p10 n11 ds w104))) (
 ptrE p10 fun a105 =>
 ∃ l113 : SV, w19.cell? (a105.add 1) = some (.slice l113.a l113.len l113.cap) /\
 ∃ n114_0 : Int, w19.cell? ((⟨r12, 0, none⟩ : Addr).add 0) = some (.int .i64 n114_0) /\
 ∃ n114_1 : Int, w19.cell? ((⟨r12, 0, none⟩ : Addr).add 1) = some (.int .i64 n114_1) /\
 ∃ s114_2 : ByteArray, w19.cell? ((⟨r12, 0, none⟩ : Addr).add 2) = some (.string s114_2) /\
 alE (.cells #[.int .i64 n114_0, .int .i64 n114_1, .string s114_2] 25) w19 fun r115 w106 =>
 ∃ l116 : SV, ∃ w107 : World, (Builtin.append_ #[44, 44] 44 #[.slice l113.a l113.len l113.cap, .slice (some ⟨r115, 0, none⟩) 1 1]).run prog w106 = .ok (.slice l116.a l116.len l116.cap) w107 /\
 ptrE p10 fun a108 =>
 st1 (a108.add 1) (.slice l116.a l116.len l116.cap) w107 fun w109 =>
 F45_4 R J1 J2 l1 p2 p4 p8 n9 p10 n11 ds w109)
def F45_k14 (R : Rt) (J1 : (Int) -> World -> Prop) (J2 : (Int) -> World -> Prop) : EP := (fun E ds w => dSl (E 1) fun l1 => dPtr (E 2) fun p2 => dPtr (E 4) fun p4 => dPtr (E 8) fun p8 => dInt .i64 (E 9) fun n9 => dPtr (E 10) fun p10 => dInt .i64 (E 11) fun n11 => F45_5 R J1 J2 l1 p2 p4 p8 n9 p10 n11 ds w)
def F45_6 (R : Rt) (J1 : (Int) -> World -> Prop) (J2 : (Int) -> World -> Prop) (l1 : SV) (p2 p4 p8 : Option Addr) (n9 : Int) (p10 : Option Addr) (n11 : Int) (ds : Ds) (w : World) : Prop :=
 Br (decide (n11 < (l1.len : Int))) (
 F45_5 R J1 J2 l1 p2 p4 p8 n9 p10 n11 ds w) (
 F45_3 R J1 l1 p2 p4 p8 n9 p10 ds w)
def F45_7 (R : Rt) (J1 : (Int) -> World -> Prop) (l1 : SV) (p2 p4 p8 : Option Addr) (n9 : Int) (p10 : Option Addr) (n11 : Int) (ds : Ds) (w : World) : Prop :=
 loopT (fun (J2 : (Int) -> World -> Prop) (s : Int) (w : World) => F45_6 R J1 J2 l1 p2 p4 p8 n9 p10 s ds w) n11 w
abbrev F45_8 (R : Rt) (J1 : (Int) -> World -> Prop) (l1 : SV) (p2 p4 p8 : Option Addr) (n9 : Int) (p10 : Option Addr) (n11 : Int) (ds : Ds) (w : World) : Prop := F45_7 R J1 l1 p2 p4 p8 n9 p10 n11 ds w
def F45_k15 (R : Rt) (J1 : (Int) -> World -> Prop) : EP := (fun E ds w => dSl (E 1) fun l1 => dPtr (E 2) fun p2 => dPtr (E 4) fun p4 => dPtr (E 8) fun p8 => dInt .i64 (E 9) fun n9 => dPtr (E 10) fun p10 => dInt .i64 (E 11) fun n11 => F45_8 R J1 l1 p2 p4 p8 n9 p10 n11 ds w)
def F45_9 (R : Rt) (J1 : (Int) -> World -> Prop) (l1 : SV) (p2 p4 p8 : Option Addr) (n9 : Int) (ds : Ds) (w : World) : Prop :=
 ptrE p2 fun a110 =>
 ∃ l44 : SV, w.cell? (a110.add 2) = some (.slice l44.a l44.len l44.cap) /\
 ∃ a111 : Addr, l44.a = some a111 /\ 0 ≤ n9 /\ n9 < (l44.len : Int) /\
 ∃ b48 : Bool, w.cell? (a111.add (n9.toNat * 2)) = some (.bool b48) /\
 alE (.cells #[.bool false, .slice none 0 0] 46) w fun r10 w112 =>
 stA prog 46 (⟨r10, 0, none⟩ : Addr) #[.bool b48, .slice none 0 0] w112 fun w113 =>
 F45_8 R J1 l1 p2 p4 p8 n9 (some (⟨r10, 0, none⟩ : Addr)) 0 ds w113
abbrev F45_10 (R : Rt) (J1 : (Int) -> World -> Prop) (l1 : SV) (p2 p4 p8 : Option Addr) (n9 : Int) (ds : Ds) (w : World) : Prop := F45_9 R J1 l1 p2 p4 p8 n9 ds w
def F45_k16 (R : Rt) (J1 : (Int) -> World -> Prop) : EP := (fun E ds w => dSl (E 1) fun l1 => dPtr (E 2) fun p2 => dPtr (E 4) fun p4 => dPtr (E 8) fun p8 => dInt .i64 (E 9) fun n9 => F45_10 R J1 l1 p2 p4 p8 n9 ds w)
def F45_11 (R : Rt) (J1 : (Int) -> World -> Prop) (l1 : SV) (p2 p4 p8 : Option Addr) (n9 : Int) (ds : Ds) (w : World) : Prop :=
 ptrE p2 fun a114 =>
 ∃ l38 : SV, w.cell? (a114.add 2) = some (.slice l38.a l38.len l38.cap) /\
 Br (decide (n9 < (l38.len : Int))) (
 F45_10 R J1 l1 p2 p4 p8 n9 ds w) (
 F45_1 R p4 p8 ds w)
def F45_12 (R : Rt) (l1 : SV) (p2 p4 p8 : Option Addr) (n9 : Int) (ds : Ds) (w : World) : Prop :=
 loopT (fun (J1 : (Int) -> World -> Prop) (s : Int) (w : World) => F45_11 R J1 l1 p2 p4 p8 s ds w) n9 w
abbrev F45_13 (R : Rt) (l1 : SV) (p2 p4 p8 : Option Addr) (n9 : Int) (ds : Ds) (w : World) : Prop := F45_12 R l1 p2 p4 p8 n9 ds w
def F45_k17 (R : Rt) : EP := (fun E ds w => dSl (E 1) fun l1 => dPtr (E 2) fun p2 => dPtr (E 4) fun p4 => dPtr (E 8) fun p8 => dInt .i64 (E 9) fun n9 => F45_13 R l1 p2 p4 p8 n9 ds w)
def F45_14 (R : Rt) (n0_0 : Int) (l0_1 l0_2 l1 : SV) (ds : Ds) (w : World) : Prop :=
 alE (.cells #[.int .i64 n0_0, .slice l0_1.a l0_1.len l0_1.cap, .slice l0_2.a l0_2.len l0_2.cap] 35) w fun r2 w115 =>
 alE (.cells #[.int .i64 0, .slice none 0 0, .slice none 0 0] 35) w115 fun r4 w116 =>
 ∃ n19_0 : Int, w116.cell? ((⟨r2, 0, none⟩ : Addr).add 0) = some (.int .i64 n19_0) /\
 ∃ l19_1 : SV, w116.cell? ((⟨r2, 0, none⟩ : Addr).add 1) = some (.slice l19_1.a l19_1.len l19_1.cap) /\
 ∃ l19_2 : SV, w116.cell? ((⟨r2, 0, none⟩ : Addr).add 2) = some (.slice l19_2.a l19_2.len l19_2.cap) /\
 Calls prog 35 #[.agg #[.int .i64 n19_0, .slice l19_1.a l19_1.len l19_1.cap, .slice l19_2.a l19_2.len l19_2.cap]] w116 fun e w117 =>
 ∃ n20 : Int, e = .returned (.int .i64 n20) /\
 Br (n20 != 0) (
 stA prog 35 (⟨r4, 0, none⟩ : Addr) #[.int .i64 0, .slice none 0 0, .slice none 0 0] w117 fun w118 =>
 runD prog ds w118 fun w119 =>
 ∃ nR0_0 : Int, w119.cell? ((⟨r4, 0, none⟩ : Addr).add 0) = some (.int .i64 nR0_0) /\
 ∃ lR0_1 : SV, w119.cell? ((⟨r4, 0, none⟩ : Addr).add 1) = some (.slice lR0_1.a lR0_1.len lR0_1.cap) /\
 ∃ lR0_2 : SV, w119.cell? ((⟨r4, 0, none⟩ : Addr).add 2) = some (.slice lR0_2.a lR0_2.len lR0_2.cap) /\
 R (.returned (.tuple #[.agg #[.int .i64 nR0_0, .slice lR0_1.a lR0_1.len lR0_1.cap, .slice lR0_2.a lR0_2.len lR0_2.cap], .int .i64 n20])) w119) (
 Calls prog 37 #[.slice l1.a l1.len l1.cap] w117 fun e w120 =>
 ∃ n26 : Int, e = .returned (.int .i64 n26) /\
 Br (n26 != 0) (
 stA prog 35 (⟨r4, 0, none⟩ : Addr) #[.int .i64 0, .slice none 0 0, .slice none 0 0] w120 fun w121 =>
 runD prog ds w121 fun w122 =>
 ∃ nR0_0 : Int, w122.cell? ((⟨r4, 0, none⟩ : Addr).add 0) = some (.int .i64 nR0_0) /\
 ∃ lR0_1 : SV, w122.cell? ((⟨r4, 0, none⟩ : Addr).add 1) = some (.slice lR0_1.a lR0_1.len lR0_1.cap) /\
 ∃ lR0_2 : SV, w122.cell? ((⟨r4, 0, none⟩ : Addr).add 2) = some (.slice lR0_2.a lR0_2.len lR0_2.cap) /\
 R (.returned (.tuple #[.agg #[.int .i64 nR0_0, .slice lR0_1.a lR0_1.len lR0_1.cap, .slice lR0_2.a lR0_2.len lR0_2.cap], .int .i64 n26])) w122) (
 dwE w120 fun w123 =>
 ∃ S5 : World -> Prop, S5 w123 /\
 ∃ n32 : Int, (∀ w', S5 w' -> w'.cell? (⟨r2, 0, none⟩ : Addr) = some (.int .i64 n32)) /\
 (
 ∃ l34 : SV, ∃ w124 : World, (Builtin.append_ #[32, 32] 32 #[.slice none 0 0, .slice l1.a l1.len l1.cap]).run prog w123 = .ok (.slice l34.a l34.len l34.cap) w124 /\
 S5 w124 /\
 alE (.cells #[.int .i64 0, .slice none 0 0, .slice none 0 0] 35) w124 fun r8 w125 =>
 S5 w125 /\
 stA prog 35 (⟨r8, 0, none⟩ : Addr) #[.int .i64 n32, .slice l34.a l34.len l34.cap, .slice none 0 0] w125 fun w126 =>
 F45_13 R l1 (some (⟨r2, 0, none⟩ : Addr)) (some (⟨r4, 0, none⟩ : Addr)) (some (⟨r8, 0, none⟩ : Addr)) 0 ds w126) /\ (
 alE (.cells #[.int .i64 0, .slice none 0 0, .slice none 0 0] 35) w123 fun r8 w127 =>
 S5 w127 /\
 ∃ l34 : SV, ∃ w128 : World, (Builtin.append_ #[32, 32] 32 #[.slice none 0 0, .slice l1.a l1.len l1.cap]).run prog w127 = .ok (.slice l34.a l34.len l34.cap) w128 /\
 S5 w128 /\
 stA prog 35 (⟨r8, 0, none⟩ : Addr) #[.int .i64 n32, .slice l34.a l34.len l34.cap, .slice none 0 0] w128 fun w129 =>
 F45_13 R l1 (some (⟨r2, 0, none⟩ : Addr)) (some (⟨r4, 0, none⟩ : Addr)) (some (⟨r8, 0, none⟩ : Addr)) 0 ds w129)))
theorem c45_l : flat (bodyOf f45) = [c45_0, c45_1, c45_2, c45_3, c45_4, c45_5, c45_6, c45_7, c45_8, c45_9, c45_10, c45_11] := by kernel_rfl
theorem c45_9_l : flat (innerC c45_9) = [c45_9_0] := by kernel_rfl
theorem c45_9_0_l : flat (innerC c45_9_0) = [c45_9_0_0, c45_9_0_1, c45_9_0_2, c45_9_0_3] := by kernel_rfl
theorem c45_9_0_2_l : flat (innerC c45_9_0_2) = [c45_9_0_2_0, c45_9_0_2_1, c45_9_0_2_2, c45_9_0_2_3] := by kernel_rfl
theorem c45_9_0_2_2_l : flat (innerC c45_9_0_2_2) = [c45_9_0_2_2_0] := by kernel_rfl
theorem c45_9_0_2_2_0_l : flat (innerC c45_9_0_2_2_0) = [c45_9_0_2_2_0_0, c45_9_0_2_2_0_1, c45_9_0_2_2_0_2, c45_9_0_2_2_0_3] := by kernel_rfl
theorem F45_1_ok (R : Rt) (p4 p8 : Option Addr) (ds : Ds) (w : World) (E : Env) (e4 : E 4 = .pointer p4) (e8 : E 8 = .pointer p8) (h : F45_1 R p4 p8 ds w) :
    TrL prog f45.ntmps [c45_10, c45_11] (F45_q1 R) E ds w :=
  TrL_leaf (X := F45_1 R p4 p8 ds w) (setAll_cons e4 (setAll_cons e8 setAll_nil)) (by kernel_rfl) (by kernel_rfl) h
theorem F45_2_ok (R : Rt) (J1 : (Int) -> World -> Prop) (l1 : SV) (p2 p4 p8 : Option Addr) (n9 : Int) (ds : Ds) (w : World) (E : Env) (e1 : E 1 = .slice l1.a l1.len l1.cap) (e2 : E 2 = .pointer p2) (e4 : E 4 = .pointer p4) (e8 : E 8 = .pointer p8) (e9 : E 9 = .int .i64 n9) (h : F45_2 R J1 l1 p2 p4 p8 n9 ds w) :
    TrL prog f45.ntmps [c45_9_0_3] (F45_q5 R J1) E ds w :=
  TrL_leaf (X := F45_2 R J1 l1 p2 p4 p8 n9 ds w) (setAll_cons e1 (setAll_cons e2 (setAll_cons e4 (setAll_cons e8 (setAll_cons e9 setAll_nil))))) (by kernel_rfl) (by kernel_rfl) h
theorem F45_3_ok (R : Rt) (J1 : (Int) -> World -> Prop) (l1 : SV) (p2 p4 p8 : Option Addr) (n9 : Int) (p10 : Option Addr) (ds : Ds) (w : World) (E : Env) (e1 : E 1 = .slice l1.a l1.len l1.cap) (e2 : E 2 = .pointer p2) (e4 : E 4 = .pointer p4) (e8 : E 8 = .pointer p8) (e9 : E 9 = .int .i64 n9) (e10 : E 10 = .pointer p10) (h : F45_3 R J1 l1 p2 p4 p8 n9 p10 ds w) :
    TrL prog f45.ntmps [c45_9_0_2_3] (F45_q8 R J1) E ds w :=
  TrL_leaf (X := F45_3 R J1 l1 p2 p4 p8 n9 p10 ds w) (setAll_cons e1 (setAll_cons e2 (setAll_cons e4 (setAll_cons e8 (setAll_cons e9 (setAll_cons e10 setAll_nil)))))) (by kernel_rfl) (by kernel_rfl) h
theorem F45_4_ok (R : Rt) (J1 : (Int) -> World -> Prop) (J2 : (Int) -> World -> Prop) (l1 : SV) (p2 p4 p8 : Option Addr) (n9 : Int) (p10 : Option Addr) (n11 : Int) (ds : Ds) (w : World) (E : Env) (e1 : E 1 = .slice l1.a l1.len l1.cap) (e2 : E 2 = .pointer p2) (e4 : E 4 = .pointer p4) (e8 : E 8 = .pointer p8) (e9 : E 9 = .int .i64 n9) (e10 : E 10 = .pointer p10) (e11 : E 11 = .int .i64 n11) (h : F45_4 R J1 J2 l1 p2 p4 p8 n9 p10 n11 ds w) :
    TrL prog f45.ntmps [c45_9_0_2_2_0_3] (F45_q12 R J1 J2) E ds w :=
  TrL_leaf (X := F45_4 R J1 J2 l1 p2 p4 p8 n9 p10 n11 ds w) (setAll_cons e1 (setAll_cons e2 (setAll_cons e4 (setAll_cons e8 (setAll_cons e9 (setAll_cons e10 (setAll_cons e11 setAll_nil))))))) (by kernel_rfl) (by kernel_rfl) h
theorem F45_5_ok (R : Rt) (J1 : (Int) -> World -> Prop) (J2 : (Int) -> World -> Prop) (l1 : SV) (p2 p4 p8 : Option Addr) (n9 : Int) (p10 : Option Addr) (n11 : Int) (ds : Ds) (w : World) (E : Env) (e1 : E 1 = .slice l1.a l1.len l1.cap) (e2 : E 2 = .pointer p2) (e4 : E 4 = .pointer p4) (e8 : E 8 = .pointer p8) (e9 : E 9 = .int .i64 n9) (e10 : E 10 = .pointer p10) (e11 : E 11 = .int .i64 n11) (h : F45_5 R J1 J2 l1 p2 p4 p8 n9 p10 n11 ds w) :
    TrL prog f45.ntmps [c45_9_0_2_2_0_2, c45_9_0_2_2_0_3] (F45_q12 R J1 J2) E ds w :=
  TrL_piece (pre := [c45_9_0_2_2_0_2]) (K := (F45_k13 R J1 J2)) (X := F45_5 R J1 J2 l1 p2 p4 p8 n9 p10 n11 ds w) (setAll_cons e1 (setAll_cons e2 (setAll_cons e4 (setAll_cons e8 (setAll_cons e9 (setAll_cons e10 (setAll_cons e11 setAll_nil))))))) (by kernel_rfl) (by kernel_rfl)
    (fun E' ds' w' hD => by
      obtain ⟨l1, e1, hD⟩ := dSl_elim hD; obtain ⟨p2, e2, hD⟩ := dPtr_elim hD; obtain ⟨p4, e4, hD⟩ := dPtr_elim hD; obtain ⟨p8, e8, hD⟩ := dPtr_elim hD; obtain ⟨n9, e9, hD⟩ := dInt_elim hD; obtain ⟨p10, e10, hD⟩ := dPtr_elim hD; obtain ⟨n11, e11, hD⟩ := dInt_elim hD; exact F45_4_ok R J1 J2 l1 p2 p4 p8 n9 p10 n11 ds' w' E' e1 e2 e4 e8 e9 e10 e11 hD) h
theorem F45_6_ok (R : Rt) (J1 : (Int) -> World -> Prop) (J2 : (Int) -> World -> Prop) (l1 : SV) (p2 p4 p8 : Option Addr) (n9 : Int) (p10 : Option Addr) (n11 : Int) (ds : Ds) (w : World) (E : Env) (e1 : E 1 = .slice l1.a l1.len l1.cap) (e2 : E 2 = .pointer p2) (e4 : E 4 = .pointer p4) (e8 : E 8 = .pointer p8) (e9 : E 9 = .int .i64 n9) (e10 : E 10 = .pointer p10) (e11 : E 11 = .int .i64 n11) (h : F45_6 R J1 J2 l1 p2 p4 p8 n9 p10 n11 ds w) :
    TrL prog f45.ntmps [c45_9_0_2_2_0_0, c45_9_0_2_2_0_1, c45_9_0_2_2_0_2, c45_9_0_2_2_0_3] (F45_q12 R J1 J2) E ds w :=
  TrL_piece (pre := [c45_9_0_2_2_0_0, c45_9_0_2_2_0_1]) (K := (F45_k14 R J1 J2)) (X := F45_6 R J1 J2 l1 p2 p4 p8 n9 p10 n11 ds w) (setAll_cons e1 (setAll_cons e2 (setAll_cons e4 (setAll_cons e8 (setAll_cons e9 (setAll_cons e10 (setAll_cons e11 setAll_nil))))))) (by kernel_rfl) (by kernel_rfl)
    (fun E' ds' w' hD => by
      obtain ⟨l1, e1, hD⟩ := dSl_elim hD; obtain ⟨p2, e2, hD⟩ := dPtr_elim hD; obtain ⟨p4, e4, hD⟩ := dPtr_elim hD; obtain ⟨p8, e8, hD⟩ := dPtr_elim hD; obtain ⟨n9, e9, hD⟩ := dInt_elim hD; obtain ⟨p10, e10, hD⟩ := dPtr_elim hD; obtain ⟨n11, e11, hD⟩ := dInt_elim hD; exact F45_5_ok R J1 J2 l1 p2 p4 p8 n9 p10 n11 ds' w' E' e1 e2 e4 e8 e9 e10 e11 hD) h
theorem F45_7_ok (R : Rt) (J1 : (Int) -> World -> Prop) (l1 : SV) (p2 p4 p8 : Option Addr) (n9 : Int) (p10 : Option Addr) (n11 : Int) (ds : Ds) (w : World) (E : Env) (e1 : E 1 = .slice l1.a l1.len l1.cap) (e2 : E 2 = .pointer p2) (e4 : E 4 = .pointer p4) (e8 : E 8 = .pointer p8) (e9 : E 9 = .int .i64 n9) (e10 : E 10 = .pointer p10) (e11 : E 11 = .int .i64 n11) (h : F45_7 R J1 l1 p2 p4 p8 n9 p10 n11 ds w) :
    TrL prog f45.ntmps [c45_9_0_2_2_0] (F45_q11 R J1) E ds w :=
  TrL_one (Tr_loop' (c := innerC c45_9_0_2_2_0) (σ := Int) (enc := (fun (s : Int) (E : Env) => E 11 = .int .i64 s)) (D := (fun E K => dInt .i64 (E 11) fun n11 => K n11)) (F := (fun (J2 : (Int) -> World -> Prop) (s : Int) (w : World) => F45_6 R J1 J2 l1 p2 p4 p8 n9 p10 s ds w)) (s0 := n11) (by kernel_rfl) c45_9_0_2_2_0_l e11 (by kernel_rfl) (fun E K hD => by obtain ⟨n11, e11, hD⟩ := dInt_elim hD; exact ⟨n11, e11, hD⟩)
      (fun J2 s E' w' he ha hF => by
      have e11' := he
      exact F45_6_ok R J1 J2 l1 p2 p4 p8 n9 p10 s ds w' E' ((ha 1 (by kernel_rfl)).trans e1) ((ha 2 (by kernel_rfl)).trans e2) ((ha 4 (by kernel_rfl)).trans e4) ((ha 8 (by kernel_rfl)).trans e8) ((ha 9 (by kernel_rfl)).trans e9) ((ha 10 (by kernel_rfl)).trans e10) e11' hF) h)
theorem F45_8_ok (R : Rt) (J1 : (Int) -> World -> Prop) (l1 : SV) (p2 p4 p8 : Option Addr) (n9 : Int) (p10 : Option Addr) (n11 : Int) (ds : Ds) (w : World) (E : Env) (e1 : E 1 = .slice l1.a l1.len l1.cap) (e2 : E 2 = .pointer p2) (e4 : E 4 = .pointer p4) (e8 : E 8 = .pointer p8) (e9 : E 9 = .int .i64 n9) (e10 : E 10 = .pointer p10) (e11 : E 11 = .int .i64 n11) (h : F45_8 R J1 l1 p2 p4 p8 n9 p10 n11 ds w) :
    TrL prog f45.ntmps [c45_9_0_2_2, c45_9_0_2_3] (F45_q8 R J1) E ds w :=
  TrL_head (K := (F45_k9 R J1)) (Tr_block' (c := innerC c45_9_0_2_2) (by kernel_rfl) c45_9_0_2_2_l (F45_7_ok R J1 l1 p2 p4 p8 n9 p10 n11 ds w E e1 e2 e4 e8 e9 e10 e11 h))
    (fun E' ds' w' hD => by
      obtain ⟨l1, e1, hD⟩ := dSl_elim hD; obtain ⟨p2, e2, hD⟩ := dPtr_elim hD; obtain ⟨p4, e4, hD⟩ := dPtr_elim hD; obtain ⟨p8, e8, hD⟩ := dPtr_elim hD; obtain ⟨n9, e9, hD⟩ := dInt_elim hD; obtain ⟨p10, e10, hD⟩ := dPtr_elim hD; exact F45_3_ok R J1 l1 p2 p4 p8 n9 p10 ds' w' E' e1 e2 e4 e8 e9 e10 hD)
theorem F45_9_ok (R : Rt) (J1 : (Int) -> World -> Prop) (l1 : SV) (p2 p4 p8 : Option Addr) (n9 : Int) (ds : Ds) (w : World) (E : Env) (e1 : E 1 = .slice l1.a l1.len l1.cap) (e2 : E 2 = .pointer p2) (e4 : E 4 = .pointer p4) (e8 : E 8 = .pointer p8) (e9 : E 9 = .int .i64 n9) (h : F45_9 R J1 l1 p2 p4 p8 n9 ds w) :
    TrL prog f45.ntmps [c45_9_0_2_0, c45_9_0_2_1, c45_9_0_2_2, c45_9_0_2_3] (F45_q8 R J1) E ds w :=
  TrL_piece (pre := [c45_9_0_2_0, c45_9_0_2_1]) (K := (F45_k15 R J1)) (X := F45_9 R J1 l1 p2 p4 p8 n9 ds w) (setAll_cons e1 (setAll_cons e2 (setAll_cons e4 (setAll_cons e8 (setAll_cons e9 setAll_nil))))) (by kernel_rfl) (by kernel_rfl)
    (fun E' ds' w' hD => by
      obtain ⟨l1, e1, hD⟩ := dSl_elim hD; obtain ⟨p2, e2, hD⟩ := dPtr_elim hD; obtain ⟨p4, e4, hD⟩ := dPtr_elim hD; obtain ⟨p8, e8, hD⟩ := dPtr_elim hD; obtain ⟨n9, e9, hD⟩ := dInt_elim hD; obtain ⟨p10, e10, hD⟩ := dPtr_elim hD; obtain ⟨n11, e11, hD⟩ := dInt_elim hD; exact F45_8_ok R J1 l1 p2 p4 p8 n9 p10 n11 ds' w' E' e1 e2 e4 e8 e9 e10 e11 hD) h
theorem F45_10_ok (R : Rt) (J1 : (Int) -> World -> Prop) (l1 : SV) (p2 p4 p8 : Option Addr) (n9 : Int) (ds : Ds) (w : World) (E : Env) (e1 : E 1 = .slice l1.a l1.len l1.cap) (e2 : E 2 = .pointer p2) (e4 : E 4 = .pointer p4) (e8 : E 8 = .pointer p8) (e9 : E 9 = .int .i64 n9) (h : F45_10 R J1 l1 p2 p4 p8 n9 ds w) :
    TrL prog f45.ntmps [c45_9_0_2, c45_9_0_3] (F45_q5 R J1) E ds w :=
  TrL_head (K := (F45_k6 R J1)) (Tr_block' (c := innerC c45_9_0_2) (by kernel_rfl) c45_9_0_2_l (F45_9_ok R J1 l1 p2 p4 p8 n9 ds w E e1 e2 e4 e8 e9 h))
    (fun E' ds' w' hD => by
      obtain ⟨l1, e1, hD⟩ := dSl_elim hD; obtain ⟨p2, e2, hD⟩ := dPtr_elim hD; obtain ⟨p4, e4, hD⟩ := dPtr_elim hD; obtain ⟨p8, e8, hD⟩ := dPtr_elim hD; obtain ⟨n9, e9, hD⟩ := dInt_elim hD; exact F45_2_ok R J1 l1 p2 p4 p8 n9 ds' w' E' e1 e2 e4 e8 e9 hD)
theorem F45_11_ok (R : Rt) (J1 : (Int) -> World -> Prop) (l1 : SV) (p2 p4 p8 : Option Addr) (n9 : Int) (ds : Ds) (w : World) (E : Env) (e1 : E 1 = .slice l1.a l1.len l1.cap) (e2 : E 2 = .pointer p2) (e4 : E 4 = .pointer p4) (e8 : E 8 = .pointer p8) (e9 : E 9 = .int .i64 n9) (h : F45_11 R J1 l1 p2 p4 p8 n9 ds w) :
    TrL prog f45.ntmps [c45_9_0_0, c45_9_0_1, c45_9_0_2, c45_9_0_3] (F45_q5 R J1) E ds w :=
  TrL_piece (pre := [c45_9_0_0, c45_9_0_1]) (K := (F45_k16 R J1)) (X := F45_11 R J1 l1 p2 p4 p8 n9 ds w) (setAll_cons e1 (setAll_cons e2 (setAll_cons e4 (setAll_cons e8 (setAll_cons e9 setAll_nil))))) (by kernel_rfl) (by kernel_rfl)
    (fun E' ds' w' hD => by
      obtain ⟨l1, e1, hD⟩ := dSl_elim hD; obtain ⟨p2, e2, hD⟩ := dPtr_elim hD; obtain ⟨p4, e4, hD⟩ := dPtr_elim hD; obtain ⟨p8, e8, hD⟩ := dPtr_elim hD; obtain ⟨n9, e9, hD⟩ := dInt_elim hD; exact F45_10_ok R J1 l1 p2 p4 p8 n9 ds' w' E' e1 e2 e4 e8 e9 hD) h
theorem F45_12_ok (R : Rt) (l1 : SV) (p2 p4 p8 : Option Addr) (n9 : Int) (ds : Ds) (w : World) (E : Env) (e1 : E 1 = .slice l1.a l1.len l1.cap) (e2 : E 2 = .pointer p2) (e4 : E 4 = .pointer p4) (e8 : E 8 = .pointer p8) (e9 : E 9 = .int .i64 n9) (h : F45_12 R l1 p2 p4 p8 n9 ds w) :
    TrL prog f45.ntmps [c45_9_0] (F45_q4 R) E ds w :=
  TrL_one (Tr_loop' (c := innerC c45_9_0) (σ := Int) (enc := (fun (s : Int) (E : Env) => E 9 = .int .i64 s)) (D := (fun E K => dInt .i64 (E 9) fun n9 => K n9)) (F := (fun (J1 : (Int) -> World -> Prop) (s : Int) (w : World) => F45_11 R J1 l1 p2 p4 p8 s ds w)) (s0 := n9) (by kernel_rfl) c45_9_0_l e9 (by kernel_rfl) (fun E K hD => by obtain ⟨n9, e9, hD⟩ := dInt_elim hD; exact ⟨n9, e9, hD⟩)
      (fun J1 s E' w' he ha hF => by
      have e9' := he
      exact F45_11_ok R J1 l1 p2 p4 p8 s ds w' E' ((ha 1 (by kernel_rfl)).trans e1) ((ha 2 (by kernel_rfl)).trans e2) ((ha 4 (by kernel_rfl)).trans e4) ((ha 8 (by kernel_rfl)).trans e8) e9' hF) h)
theorem F45_13_ok (R : Rt) (l1 : SV) (p2 p4 p8 : Option Addr) (n9 : Int) (ds : Ds) (w : World) (E : Env) (e1 : E 1 = .slice l1.a l1.len l1.cap) (e2 : E 2 = .pointer p2) (e4 : E 4 = .pointer p4) (e8 : E 8 = .pointer p8) (e9 : E 9 = .int .i64 n9) (h : F45_13 R l1 p2 p4 p8 n9 ds w) :
    TrL prog f45.ntmps [c45_9, c45_10, c45_11] (F45_q1 R) E ds w :=
  TrL_head (K := (F45_k2 R)) (Tr_block' (c := innerC c45_9) (by kernel_rfl) c45_9_l (F45_12_ok R l1 p2 p4 p8 n9 ds w E e1 e2 e4 e8 e9 h))
    (fun E' ds' w' hD => by
      obtain ⟨p4, e4, hD⟩ := dPtr_elim hD; obtain ⟨p8, e8, hD⟩ := dPtr_elim hD; exact F45_1_ok R p4 p8 ds' w' E' e4 e8 hD)
theorem F45_14_ok (R : Rt) (n0_0 : Int) (l0_1 l0_2 l1 : SV) (ds : Ds) (w : World) (E : Env) (e0 : E 0 = .agg #[.int .i64 n0_0, .slice l0_1.a l0_1.len l0_1.cap, .slice l0_2.a l0_2.len l0_2.cap]) (e1 : E 1 = .slice l1.a l1.len l1.cap) (h : F45_14 R n0_0 l0_1 l0_2 l1 ds w) :
    TrL prog f45.ntmps [c45_0, c45_1, c45_2, c45_3, c45_4, c45_5, c45_6, c45_7, c45_8, c45_9, c45_10, c45_11] (F45_q1 R) E ds w :=
  TrL_piece (pre := [c45_0, c45_1, c45_2, c45_3, c45_4, c45_5, c45_6, c45_7, c45_8]) (K := (F45_k17 R)) (X := F45_14 R n0_0 l0_1 l0_2 l1 ds w) (setAll_cons e0 (setAll_cons e1 setAll_nil)) (by kernel_rfl) (by kernel_rfl)
    (fun E' ds' w' hD => by
      obtain ⟨l1, e1, hD⟩ := dSl_elim hD; obtain ⟨p2, e2, hD⟩ := dPtr_elim hD; obtain ⟨p4, e4, hD⟩ := dPtr_elim hD; obtain ⟨p8, e8, hD⟩ := dPtr_elim hD; obtain ⟨n9, e9, hD⟩ := dInt_elim hD; exact F45_13_ok R l1 p2 p4 p8 n9 ds' w' E' e1 e2 e4 e8 e9 hD) h
theorem F45_calls (n0_0 : Int) (l0_1 l0_2 l1 : SV) (w : World) (R : Rt) (h : F45_14 R n0_0 l0_1 l0_2 l1 [] w) : Calls prog 45 #[.agg #[.int .i64 n0_0, .slice l0_1.a l0_1.len l0_1.cap, .slice l0_2.a l0_2.len l0_2.cap], .slice l1.a l1.len l1.cap] w R :=
  calls_of_L (l := [c45_0, c45_1, c45_2, c45_3, c45_4, c45_5, c45_6, c45_7, c45_8, c45_9, c45_10, c45_11]) func45 (by kernel_rfl) (by rw [ntmps45]; exact Nat.le_of_ble_eq_true (by kernel_rfl)) c45_l
    (F45_14_ok R n0_0 l0_1 l0_2 l1 [] w _ rfl rfl h)
noncomputable def c85_0 := cI26 f85 0
noncomputable def c85_1 := cI26 f85 1
noncomputable def c85_2 := cI26 f85 2
noncomputable def c85_3 := cI26 f85 3
noncomputable def c85_4 := cI26 f85 4
def F85_q1 (R : Rt) : EQ := endQ prog f85.results.toList R
def F85_1 (R : Rt) (l0 : SV) (ds : Ds) (w : World) : Prop :=
 ∃ b4 : Bool, ∃ w1 : World, (eqS .eql 32 (.tmp 3) (.const (.slice none 0 0)) (.slice l0.a l0.len l0.cap) (.slice none 0 0)).run prog w = .ok (.bool b4) w1 /\
 Br b4 (
 runD prog ds w1 fun w2 =>
 R (.returned (.slice none 0 0)) w2) (
 alE (.cells #[] 23) w1 fun r5 w3 =>
 ∃ l7 : SV, ∃ w4 : World, (Builtin.append_ #[32, 32] 32 #[.slice (some ⟨r5, 0, none⟩) 0 0, .slice l0.a l0.len l0.cap]).run prog w3 = .ok (.slice l7.a l7.len l7.cap) w4 /\
 runD prog ds w4 fun w5 =>
 R (.returned (.slice l7.a l7.len l7.cap)) w5)
theorem c85_l : flat (bodyOf f85) = [c85_0, c85_1, c85_2, c85_3, c85_4] := by kernel_rfl
theorem F85_1_ok (R : Rt) (l0 : SV) (ds : Ds) (w : World) (E : Env) (e0 : E 0 = .slice l0.a l0.len l0.cap) (h : F85_1 R l0 ds w) :
    TrL prog f85.ntmps [c85_0, c85_1, c85_2, c85_3, c85_4] (F85_q1 R) E ds w :=
  TrL_leaf (X := F85_1 R l0 ds w) (setAll_cons e0 setAll_nil) (by kernel_rfl) (by kernel_rfl) h
theorem F85_calls (l0 : SV) (w : World) (R : Rt) (h : F85_1 R l0 [] w) : Calls prog 85 #[.slice l0.a l0.len l0.cap] w R :=
  calls_of_L (l := [c85_0, c85_1, c85_2, c85_3, c85_4]) func85 (by kernel_rfl) (by rw [ntmps85]; exact Nat.le_of_ble_eq_true (by kernel_rfl)) c85_l
    (F85_1_ok R l0 [] w _ rfl h)
noncomputable def c86_0 := cI26 f86 0
noncomputable def c86_1 := cI26 f86 1
noncomputable def c86_2 := cI26 f86 2
noncomputable def c86_3 := cI26 f86 3
noncomputable def c86_4 := cI26 f86 4
noncomputable def c86_5 := cI26 f86 5
noncomputable def c86_6 := cI26 f86 6
noncomputable def c86_7 := cI26 f86 7
noncomputable def c86_8 := cI26 f86 8
noncomputable def c86_9 := cI26 f86 9
noncomputable def c86_10 := cI26 f86 10
noncomputable def c86_11 := cI26 f86 11
def F86_q1 (R : Rt) : EQ := endQ prog f86.results.toList R
def F86_1 (R : Rt) (n0_0 : Int) (l0_1 l0_2 : SV) (b1_0 : Bool) (l1_1 : SV) (s2_0 : ByteArray) (n2_1 n2_2 : Int) (b2_3 : Bool) (ds : Ds) (w : World) : Prop :=
 alE (.cells #[.int .i64 n0_0, .slice l0_1.a l0_1.len l0_1.cap, .slice l0_2.a l0_2.len l0_2.cap] 35) w fun r3 w1 =>
 alE (.cells #[.bool b1_0, .slice l1_1.a l1_1.len l1_1.cap] 46) w1 fun r4 w2 =>
 alE (.cells #[.string s2_0, .int .i64 n2_1, .int .i64 n2_2, .bool b2_3] 23) w2 fun r5 w3 =>
 alE (.cells #[.int .i64 0, .int .i64 0, .string (⟨#[]⟩ : ByteArray)] 25) w3 fun r6 w4 =>
 ∃ l14 : SV, w4.cell? ((⟨r3, 0, none⟩ : Addr).add 1) = some (.slice l14.a l14.len l14.cap) /\
 ∃ s16 : ByteArray, w4.cell? (⟨r5, 0, none⟩ : Addr) = some (.string s16) /\
 Calls prog 27 #[.slice l14.a l14.len l14.cap, .string s16] w4 fun e w5 =>
 ∃ n17_0 : Int, ∃ b17_1 : Bool, e = .returned (.tuple #[.int .i64 n17_0, .bool b17_1]) /\
 Br (!b17_1) (
 ∃ s22_0 : ByteArray, w5.cell? ((⟨r5, 0, none⟩ : Addr).add 0) = some (.string s22_0) /\
 ∃ n22_1 : Int, w5.cell? ((⟨r5, 0, none⟩ : Addr).add 1) = some (.int .i64 n22_1) /\
 ∃ n22_2 : Int, w5.cell? ((⟨r5, 0, none⟩ : Addr).add 2) = some (.int .i64 n22_2) /\
 ∃ b22_3 : Bool, w5.cell? ((⟨r5, 0, none⟩ : Addr).add 3) = some (.bool b22_3) /\
 Calls prog 50 #[.agg #[.string s22_0, .int .i64 n22_1, .int .i64 n22_2, .bool b22_3]] w5 fun e w6 =>
 ∃ n23_0 : Int, ∃ n23_1 : Int, ∃ s23_2 : ByteArray, e = .returned (.agg #[.int .i64 n23_0, .int .i64 n23_1, .string s23_2]) /\
 stA prog 25 (⟨r6, 0, none⟩ : Addr) #[.int .i64 n23_0, .int .i64 n23_1, .string s23_2] w6 fun w7 =>
 runD prog ds w7 fun w8 =>
 ∃ nR0_0 : Int, w8.cell? ((⟨r6, 0, none⟩ : Addr).add 0) = some (.int .i64 nR0_0) /\
 ∃ nR0_1 : Int, w8.cell? ((⟨r6, 0, none⟩ : Addr).add 1) = some (.int .i64 nR0_1) /\
 ∃ sR0_2 : ByteArray, w8.cell? ((⟨r6, 0, none⟩ : Addr).add 2) = some (.string sR0_2) /\
 R (.returned (.agg #[.int .i64 nR0_0, .int .i64 nR0_1, .string sR0_2])) w8) (
 ∃ l25 : SV, w5.cell? ((⟨r4, 0, none⟩ : Addr).add 1) = some (.slice l25.a l25.len l25.cap) /\
 ∃ a9 : Addr, l25.a = some a9 /\ 0 ≤ n17_0 /\ n17_0 < (l25.len : Int) /\
 ∃ n28_0 : Int, w5.cell? ((a9.add (n17_0.toNat * 3)).add 0) = some (.int .i64 n28_0) /\
 ∃ n28_1 : Int, w5.cell? ((a9.add (n17_0.toNat * 3)).add 1) = some (.int .i64 n28_1) /\
 ∃ s28_2 : ByteArray, w5.cell? ((a9.add (n17_0.toNat * 3)).add 2) = some (.string s28_2) /\
 alE (.cells #[.int .i64 0, .int .i64 0, .string (⟨#[]⟩ : ByteArray)] 25) w5 fun r9 w10 =>
 stA prog 25 (⟨r9, 0, none⟩ : Addr) #[.int .i64 n28_0, .int .i64 n28_1, .string s28_2] w10 fun w11 =>
 ∃ n30 : Int, w11.cell? (⟨r9, 0, none⟩ : Addr) = some (.int .i64 n30) /\
 Br (n30 != 0) (
 dwE w11 fun w12 =>
 ∃ l33 : SV, w12.cell? ((⟨r3, 0, none⟩ : Addr).add 1) = some (.slice l33.a l33.len l33.cap) /\
 ∃ a13 : Addr, l33.a = some a13 /\ 0 ≤ n17_0 /\ n17_0 < (l33.len : Int) /\
 ∃ s36_0 : ByteArray, w12.cell? ((a13.add (n17_0.toNat * 4)).add 0) = some (.string s36_0) /\
 ∃ n36_1 : Int, w12.cell? ((a13.add (n17_0.toNat * 4)).add 1) = some (.int .i64 n36_1) /\
 ∃ n36_2 : Int, w12.cell? ((a13.add (n17_0.toNat * 4)).add 2) = some (.int .i64 n36_2) /\
 ∃ b36_3 : Bool, w12.cell? ((a13.add (n17_0.toNat * 4)).add 3) = some (.bool b36_3) /\
 ∃ s37_0 : ByteArray, w12.cell? ((⟨r5, 0, none⟩ : Addr).add 0) = some (.string s37_0) /\
 ∃ n37_1 : Int, w12.cell? ((⟨r5, 0, none⟩ : Addr).add 1) = some (.int .i64 n37_1) /\
 ∃ n37_2 : Int, w12.cell? ((⟨r5, 0, none⟩ : Addr).add 2) = some (.int .i64 n37_2) /\
 ∃ b37_3 : Bool, w12.cell? ((⟨r5, 0, none⟩ : Addr).add 3) = some (.bool b37_3) /\
 ∃ n38_0 : Int, w12.cell? ((⟨r9, 0, none⟩ : Addr).add 0) = some (.int .i64 n38_0) /\
 ∃ n38_1 : Int, w12.cell? ((⟨r9, 0, none⟩ : Addr).add 1) = some (.int .i64 n38_1) /\
 ∃ s38_2 : ByteArray, w12.cell? ((⟨r9, 0, none⟩ : Addr).add 2) = some (.string s38_2) /\
 Calls prog 117 #[.agg #[.string s36_0, .int .i64 n36_1, .int .i64 n36_2, .bool b36_3], .agg #[.string s37_0, .int .i64 n37_1, .int .i64 n37_2, .bool b37_3], .agg #[.int .i64 n38_0, .int .i64 n38_1, .string s38_2]] w12 fun e w14 =>
 ∃ n39_0 : Int, ∃ n39_1 : Int, ∃ s39_2 : ByteArray, e = .returned (.agg #[.int .i64 n39_0, .int .i64 n39_1, .string s39_2]) /\
 stA prog 25 (⟨r9, 0, none⟩ : Addr) #[.int .i64 n39_0, .int .i64 n39_1, .string s39_2] w14 fun w15 =>
 ∃ s41_0 : ByteArray, w15.cell? ((⟨r5, 0, none⟩ : Addr).add 0) = some (.string s41_0) /\
 ∃ n41_1 : Int, w15.cell? ((⟨r5, 0, none⟩ : Addr).add 1) = some (.int .i64 n41_1) /\
 ∃ n41_2 : Int, w15.cell? ((⟨r5, 0, none⟩ : Addr).add 2) = some (.int .i64 n41_2) /\
 ∃ b41_3 : Bool, w15.cell? ((⟨r5, 0, none⟩ : Addr).add 3) = some (.bool b41_3) /\
 ∃ n43 : Int, w15.cell? (⟨r3, 0, none⟩ : Addr) = some (.int .i64 n43) /\
 ∃ n44_0 : Int, w15.cell? ((⟨r9, 0, none⟩ : Addr).add 0) = some (.int .i64 n44_0) /\
 ∃ n44_1 : Int, w15.cell? ((⟨r9, 0, none⟩ : Addr).add 1) = some (.int .i64 n44_1) /\
 ∃ s44_2 : ByteArray, w15.cell? ((⟨r9, 0, none⟩ : Addr).add 2) = some (.string s44_2) /\
 Calls prog 13 #[.agg #[.string s41_0, .int .i64 n41_1, .int .i64 n41_2, .bool b41_3], .int .i64 n43, .agg #[.int .i64 n44_0, .int .i64 n44_1, .string s44_2]] w15 fun e w16 =>
 ∃ n45_0_0 : Int, ∃ n45_0_1 : Int, ∃ s45_0_2 : ByteArray, ∃ n45_1 : Int, e = .returned (.tuple #[.agg #[.int .i64 n45_0_0, .int .i64 n45_0_1, .string s45_0_2], .int .i64 n45_1]) /\
 alE (.cells #[.int .i64 0, .int .i64 0, .string (⟨#[]⟩ : ByteArray)] 25) w16 fun r10 w17 =>
 stA prog 25 (⟨r10, 0, none⟩ : Addr) #[.int .i64 n45_0_0, .int .i64 n45_0_1, .string s45_0_2] w17 fun w18 =>
 Br (n45_1 != 0) (
 ∃ s50_0 : ByteArray, w18.cell? ((⟨r5, 0, none⟩ : Addr).add 0) = some (.string s50_0) /\
 ∃ n50_1 : Int, w18.cell? ((⟨r5, 0, none⟩ : Addr).add 1) = some (.int .i64 n50_1) /\
 ∃ n50_2 : Int, w18.cell? ((⟨r5, 0, none⟩ : Addr).add 2) = some (.int .i64 n50_2) /\
 ∃ b50_3 : Bool, w18.cell? ((⟨r5, 0, none⟩ : Addr).add 3) = some (.bool b50_3) /\
 Calls prog 50 #[.agg #[.string s50_0, .int .i64 n50_1, .int .i64 n50_2, .bool b50_3]] w18 fun e w19 =>
 ∃ n51_0 : Int, ∃ n51_1 : Int, ∃ s51_2 : ByteArray, e = .returned (.agg #[.int .i64 n51_0, .int .i64 n51_1, .string s51_2]) /\
 stA prog 25 (⟨r6, 0, none⟩ : Addr) #[.int .i64 n51_0, .int .i64 n51_1, .string s51_2] w19 fun w20 =>
 runD prog ds w20 fun w21 =>
 ∃ nR0_0 : Int, w21.cell? ((⟨r6, 0, none⟩ : Addr).add 0) = some (.int .i64 nR0_0) /\
 ∃ nR0_1 : Int, w21.cell? ((⟨r6, 0, none⟩ : Addr).add 1) = some (.int .i64 nR0_1) /\
 ∃ sR0_2 : ByteArray, w21.cell? ((⟨r6, 0, none⟩ : Addr).add 2) = some (.string sR0_2) /\
 R (.returned (.agg #[.int .i64 nR0_0, .int .i64 nR0_1, .string sR0_2])) w21) (
 ∃ n52_0 : Int, w18.cell? ((⟨r10, 0, none⟩ : Addr).add 0) = some (.int .i64 n52_0) /\
 ∃ n52_1 : Int, w18.cell? ((⟨r10, 0, none⟩ : Addr).add 1) = some (.int .i64 n52_1) /\
 ∃ s52_2 : ByteArray, w18.cell? ((⟨r10, 0, none⟩ : Addr).add 2) = some (.string s52_2) /\
 stA prog 25 (⟨r6, 0, none⟩ : Addr) #[.int .i64 n52_0, .int .i64 n52_1, .string s52_2] w18 fun w22 =>
 runD prog ds w22 fun w23 =>
 ∃ nR0_0 : Int, w23.cell? ((⟨r6, 0, none⟩ : Addr).add 0) = some (.int .i64 nR0_0) /\
 ∃ nR0_1 : Int, w23.cell? ((⟨r6, 0, none⟩ : Addr).add 1) = some (.int .i64 nR0_1) /\
 ∃ sR0_2 : ByteArray, w23.cell? ((⟨r6, 0, none⟩ : Addr).add 2) = some (.string sR0_2) /\
 R (.returned (.agg #[.int .i64 nR0_0, .int .i64 nR0_1, .string sR0_2])) w23)) (
 ∃ s41_0 : ByteArray, w11.cell? ((⟨r5, 0, none⟩ : Addr).add 0) = some (.string s41_0) /\
 ∃ n41_1 : Int, w11.cell? ((⟨r5, 0, none⟩ : Addr).add 1) = some (.int .i64 n41_1) /\
 ∃ n41_2 : Int, w11.cell? ((⟨r5, 0, none⟩ : Addr).add 2) = some (.int .i64 n41_2) /\
 ∃ b41_3 : Bool, w11.cell? ((⟨r5, 0, none⟩ : Addr).add 3) = some (.bool b41_3) /\
 ∃ n43 : Int, w11.cell? (⟨r3, 0, none⟩ : Addr) = some (.int .i64 n43) /\
 ∃ n44_0 : Int, w11.cell? ((⟨r9, 0, none⟩ : Addr).add 0) = some (.int .i64 n44_0) /\
 ∃ n44_1 : Int, w11.cell? ((⟨r9, 0, none⟩ : Addr).add 1) = some (.int .i64 n44_1) /\
 ∃ s44_2 : ByteArray, w11.cell? ((⟨r9, 0, none⟩ : Addr).add 2) = some (.string s44_2) /\
 Calls prog 13 #[.agg #[.string s41_0, .int .i64 n41_1, .int .i64 n41_2, .bool b41_3], .int .i64 n43, .agg #[.int .i64 n44_0, .int .i64 n44_1, .string s44_2]] w11 fun e w24 =>
 ∃ n45_0_0 : Int, ∃ n45_0_1 : Int, ∃ s45_0_2 : ByteArray, ∃ n45_1 : Int, e = .returned (.tuple #[.agg #[.int .i64 n45_0_0, .int .i64 n45_0_1, .string s45_0_2], .int .i64 n45_1]) /\
 alE (.cells #[.int .i64 0, .int .i64 0, .string (⟨#[]⟩ : ByteArray)] 25) w24 fun r10 w25 =>
 stA prog 25 (⟨r10, 0, none⟩ : Addr) #[.int .i64 n45_0_0, .int .i64 n45_0_1, .string s45_0_2] w25 fun w26 =>
 Br (n45_1 != 0) (
 ∃ s50_0 : ByteArray, w26.cell? ((⟨r5, 0, none⟩ : Addr).add 0) = some (.string s50_0) /\
 ∃ n50_1 : Int, w26.cell? ((⟨r5, 0, none⟩ : Addr).add 1) = some (.int .i64 n50_1) /\
 ∃ n50_2 : Int, w26.cell? ((⟨r5, 0, none⟩ : Addr).add 2) = some (.int .i64 n50_2) /\
 ∃ b50_3 : Bool, w26.cell? ((⟨r5, 0, none⟩ : Addr).add 3) = some (.bool b50_3) /\
 Calls prog 50 #[.agg #[.string s50_0, .int .i64 n50_1, .int .i64 n50_2, .bool b50_3]] w26 fun e w27 =>
 ∃ n51_0 : Int, ∃ n51_1 : Int, ∃ s51_2 : ByteArray, e = .returned (.agg #[.int .i64 n51_0, .int .i64 n51_1, .string s51_2]) /\
 stA prog 25 (⟨r6, 0, none⟩ : Addr) #[.int .i64 n51_0, .int .i64 n51_1, .string s51_2] w27 fun w28 =>
 runD prog ds w28 fun w29 =>
 ∃ nR0_0 : Int, w29.cell? ((⟨r6, 0, none⟩ : Addr).add 0) = some (.int .i64 nR0_0) /\
 ∃ nR0_1 : Int, w29.cell? ((⟨r6, 0, none⟩ : Addr).add 1) = some (.int .i64 nR0_1) /\
 ∃ sR0_2 : ByteArray, w29.cell? ((⟨r6, 0, none⟩ : Addr).add 2) = some (.string sR0_2) /\
 R (.returned (.agg #[.int .i64 nR0_0, .int .i64 nR0_1, .string sR0_2])) w29) (
 ∃ n52_0 : Int, w26.cell? ((⟨r10, 0, none⟩ : Addr).add 0) = some (.int .i64 n52_0) /\
 ∃ n52_1 : Int, w26.cell? ((⟨r10, 0, none⟩ : Addr).add 1) = some (.int .i64 n52_1) /\
 ∃ s52_2 : ByteArray, w26.cell? ((⟨r10, 0, none⟩ : Addr).add 2) = some (.string s52_2) /\
 stA prog 25 (⟨r6, 0, none⟩ : Addr) #[.int .i64 n52_0, .int .i64 n52_1, .string s52_2] w26 fun w30 =>
 runD prog ds w30 fun w31 =>
 ∃ nR0_0 : Int, w31.cell? ((⟨r6, 0, none⟩ : Addr).add 0) = some (.int .i64 nR0_0) /\
 ∃ nR0_1 : Int, w31.cell? ((⟨r6, 0, none⟩ : Addr).add 1) = some (.int .i64 nR0_1) /\
 ∃ sR0_2 : ByteArray, w31.cell? ((⟨r6, 0, none⟩ : Addr).add 2) = some (.string sR0_2) /\
 R (.returned (.agg #[.int .i64 nR0_0, .int .i64 nR0_1, .string sR0_2])) w31)))
theorem c86_l : flat (bodyOf f86) = [c86_0, c86_1, c86_2, c86_3, c86_4, c86_5, c86_6, c86_7, c86_8, c86_9, c86_10, c86_11] := by kernel_rfl
theorem F86_1_ok (R : Rt) (n0_0 : Int) (l0_1 l0_2 : SV) (b1_0 : Bool) (l1_1 : SV) (s2_0 : ByteArray) (n2_1 n2_2 : Int) (b2_3 : Bool) (ds : Ds) (w : World) (E : Env) (e0 : E 0 = .agg #[.int .i64 n0_0, .slice l0_1.a l0_1.len l0_1.cap, .slice l0_2.a l0_2.len l0_2.cap]) (e1 : E 1 = .agg #[.bool b1_0, .slice l1_1.a l1_1.len l1_1.cap]) (e2 : E 2 = .agg #[.string s2_0, .int .i64 n2_1, .int .i64 n2_2, .bool b2_3]) (h : F86_1 R n0_0 l0_1 l0_2 b1_0 l1_1 s2_0 n2_1 n2_2 b2_3 ds w) :
    TrL prog f86.ntmps [c86_0, c86_1, c86_2, c86_3, c86_4, c86_5, c86_6, c86_7, c86_8, c86_9, c86_10, c86_11] (F86_q1 R) E ds w :=
  TrL_leaf (X := F86_1 R n0_0 l0_1 l0_2 b1_0 l1_1 s2_0 n2_1 n2_2 b2_3 ds w) (setAll_cons e0 (setAll_cons e1 (setAll_cons e2 setAll_nil))) (by kernel_rfl) (by kernel_rfl) h
theorem F86_calls (n0_0 : Int) (l0_1 l0_2 : SV) (b1_0 : Bool) (l1_1 : SV) (s2_0 : ByteArray) (n2_1 n2_2 : Int) (b2_3 : Bool) (w : World) (R : Rt) (h : F86_1 R n0_0 l0_1 l0_2 b1_0 l1_1 s2_0 n2_1 n2_2 b2_3 [] w) : Calls prog 86 #[.agg #[.int .i64 n0_0, .slice l0_1.a l0_1.len l0_1.cap, .slice l0_2.a l0_2.len l0_2.cap], .agg #[.bool b1_0, .slice l1_1.a l1_1.len l1_1.cap], .agg #[.string s2_0, .int .i64 n2_1, .int .i64 n2_2, .bool b2_3]] w R :=
  calls_of_L (l := [c86_0, c86_1, c86_2, c86_3, c86_4, c86_5, c86_6, c86_7, c86_8, c86_9, c86_10, c86_11]) func86 (by kernel_rfl) (by rw [ntmps86]; exact Nat.le_of_ble_eq_true (by kernel_rfl)) c86_l
    (F86_1_ok R n0_0 l0_1 l0_2 b1_0 l1_1 s2_0 n2_1 n2_2 b2_3 [] w _ rfl rfl rfl h)
noncomputable def c88_0 := cI26 f88 0
noncomputable def c88_1 := cI26 f88 1
noncomputable def c88_2 := cI26 f88 2
noncomputable def c88_3 := cI26 f88 3
noncomputable def c88_1_0 := cJ26 c88_1 0
noncomputable def c88_1_1 := cJ26 c88_1 1
noncomputable def c88_1_1t_0 := itemAt (flat (thnC c88_1_1)) 0
noncomputable def c88_1_1t_1 := itemAt (flat (thnC c88_1_1)) 1
noncomputable def c88_1_1e_0 := itemAt (flat (elsC c88_1_1)) 0
noncomputable def c88_1_1e_1 := itemAt (flat (elsC c88_1_1)) 1
noncomputable def c88_1_1e_1t_0 := itemAt (flat (thnC c88_1_1e_1)) 0
noncomputable def c88_1_1e_1t_1 := itemAt (flat (thnC c88_1_1e_1)) 1
noncomputable def c88_1_1e_1e_0 := itemAt (flat (elsC c88_1_1e_1)) 0
noncomputable def c88_1_1e_1e_1 := itemAt (flat (elsC c88_1_1e_1)) 1
noncomputable def c88_1_1e_1e_1t_0 := itemAt (flat (thnC c88_1_1e_1e_1)) 0
noncomputable def c88_1_1e_1e_1t_1 := itemAt (flat (thnC c88_1_1e_1e_1)) 1
noncomputable def c88_1_1e_1e_1e_0 := itemAt (flat (elsC c88_1_1e_1e_1)) 0
noncomputable def c88_1_1e_1e_1e_1 := itemAt (flat (elsC c88_1_1e_1e_1)) 1
def F88_q1 (R : Rt) : EQ := endQ prog f88.results.toList R
def F88_1 (R : Rt) (p6 : Option Addr) (ds : Ds) (w : World) : Prop :=
 ptrE p6 fun a1 =>
 stA prog 25 a1 #[.int .i64 0, .int .i64 0, .string (⟨#[]⟩ : ByteArray)] w fun w2 =>
 runD prog ds w2 fun w3 =>
 ptrE p6 fun a4 =>
 ∃ nR0_0 : Int, w3.cell? (a4.add 0) = some (.int .i64 nR0_0) /\
 ∃ nR0_1 : Int, w3.cell? (a4.add 1) = some (.int .i64 nR0_1) /\
 ∃ sR0_2 : ByteArray, w3.cell? (a4.add 2) = some (.string sR0_2) /\
 R (.returned (.tuple #[.agg #[.int .i64 nR0_0, .int .i64 nR0_1, .string sR0_2], .bool false])) w3
def F88_k2 (R : Rt) : EP := (fun E ds w => dPtr (E 6) fun p6 => F88_1 R p6 ds w)
def F88_q3 (R : Rt) : EQ := (thenQ (F88_k2 R) (F88_q1 R))
def F88_q4 (R : Rt) : EQ := (blockQ 0 (F88_q3 R))
def F88_2 (R : Rt) (p5 p6 : Option Addr) (ds : Ds) (w : World) : Prop :=
 ptrE p5 fun a5 =>
 ∃ n21_0 : Int, w.cell? (a5.add 0) = some (.int .i64 n21_0) /\
 ∃ n21_1 : Int, w.cell? (a5.add 1) = some (.int .i64 n21_1) /\
 ∃ s21_2 : ByteArray, w.cell? (a5.add 2) = some (.string s21_2) /\
 ptrE p6 fun a6 =>
 stA prog 25 a6 #[.int .i64 n21_0, .int .i64 n21_1, .string s21_2] w fun w7 =>
 runD prog ds w7 fun w8 =>
 ptrE p6 fun a9 =>
 ∃ nR0_0 : Int, w8.cell? (a9.add 0) = some (.int .i64 nR0_0) /\
 ∃ nR0_1 : Int, w8.cell? (a9.add 1) = some (.int .i64 nR0_1) /\
 ∃ sR0_2 : ByteArray, w8.cell? (a9.add 2) = some (.string sR0_2) /\
 R (.returned (.tuple #[.agg #[.int .i64 nR0_0, .int .i64 nR0_1, .string sR0_2], .bool true])) w8
def F88_3 (R : Rt) (p5 p6 : Option Addr) (ds : Ds) (w : World) : Prop :=
 ptrE p5 fun a10 =>
 ∃ n30 : Int, w.cell? (a10.add 1) = some (.int .i64 n30) /\
 Calls prog 119 #[.int .i64 n30] w fun e w11 =>
 ∃ s31 : ByteArray, e = .returned (.string s31) /\
 Calls prog 46 #[.string s31] w11 fun e w12 =>
 ∃ n32_0 : Int, ∃ n32_1 : Int, ∃ s32_2 : ByteArray, e = .returned (.agg #[.int .i64 n32_0, .int .i64 n32_1, .string s32_2]) /\
 ptrE p6 fun a13 =>
 stA prog 25 a13 #[.int .i64 n32_0, .int .i64 n32_1, .string s32_2] w12 fun w14 =>
 runD prog ds w14 fun w15 =>
 ptrE p6 fun a16 =>
 ∃ nR0_0 : Int, w15.cell? (a16.add 0) = some (.int .i64 nR0_0) /\
 ∃ nR0_1 : Int, w15.cell? (a16.add 1) = some (.int .i64 nR0_1) /\
 ∃ sR0_2 : ByteArray, w15.cell? (a16.add 2) = some (.string sR0_2) /\
 R (.returned (.tuple #[.agg #[.int .i64 nR0_0, .int .i64 nR0_1, .string sR0_2], .bool true])) w15
def F88_4 (R : Rt) (p5 p6 : Option Addr) (ds : Ds) (w : World) : Prop :=
 ptrE p5 fun a17 =>
 ∃ s41 : ByteArray, w.cell? (a17.add 2) = some (.string s41) /\
 Calls prog 120 #[.string s41] w fun e w18 =>
 ∃ n42 : Int, e = .returned (.int .i64 n42) /\
 Calls prog 118 #[.int .i64 n42] w18 fun e w19 =>
 ∃ n43_0 : Int, ∃ n43_1 : Int, ∃ s43_2 : ByteArray, e = .returned (.agg #[.int .i64 n43_0, .int .i64 n43_1, .string s43_2]) /\
 ptrE p6 fun a20 =>
 stA prog 25 a20 #[.int .i64 n43_0, .int .i64 n43_1, .string s43_2] w19 fun w21 =>
 runD prog ds w21 fun w22 =>
 ptrE p6 fun a23 =>
 ∃ nR0_0 : Int, w22.cell? (a23.add 0) = some (.int .i64 nR0_0) /\
 ∃ nR0_1 : Int, w22.cell? (a23.add 1) = some (.int .i64 nR0_1) /\
 ∃ sR0_2 : ByteArray, w22.cell? (a23.add 2) = some (.string sR0_2) /\
 R (.returned (.tuple #[.agg #[.int .i64 nR0_0, .int .i64 nR0_1, .string sR0_2], .bool true])) w22
def F88_5 (R : Rt) (n0 n1 : Int) (p5 p6 : Option Addr) (b44 : Bool) (ds : Ds) (w : World) : Prop :=
 Br b44 (
 ptrE p5 fun a24 =>
 ∃ n53 : Int, w.cell? (a24.add 1) = some (.int .i64 n53) /\
 Calls prog 121 #[.int .i64 n53] w fun e w25 =>
 ∃ s54_0 : ByteArray, ∃ n54_1 : Int, e = .returned (.tuple #[.string s54_0, .int .i64 n54_1]) /\
 Calls prog 46 #[.string s54_0] w25 fun e w26 =>
 ∃ n58_0 : Int, ∃ n58_1 : Int, ∃ s58_2 : ByteArray, e = .returned (.agg #[.int .i64 n58_0, .int .i64 n58_1, .string s58_2]) /\
 ptrE p6 fun a27 =>
 stA prog 25 a27 #[.int .i64 n58_0, .int .i64 n58_1, .string s58_2] w26 fun w28 =>
 runD prog ds w28 fun w29 =>
 ptrE p6 fun a30 =>
 ∃ nR0_0 : Int, w29.cell? (a30.add 0) = some (.int .i64 nR0_0) /\
 ∃ nR0_1 : Int, w29.cell? (a30.add 1) = some (.int .i64 nR0_1) /\
 ∃ sR0_2 : ByteArray, w29.cell? (a30.add 2) = some (.string sR0_2) /\
 R (.returned (.tuple #[.agg #[.int .i64 nR0_0, .int .i64 nR0_1, .string sR0_2], .bool true])) w29) (
 Br (n0 == 4) (
 Br (n1 == 3) (
 ptrE p5 fun a31 =>
 ∃ s68 : ByteArray, w.cell? (a31.add 2) = some (.string s68) /\
 Calls prog 122 #[.string s68] w fun e w32 =>
 ∃ n69_0 : Int, ∃ b69_1 : Bool, e = .returned (.tuple #[.int .i64 n69_0, .bool b69_1]) /\
 Calls prog 123 #[.int .i64 n69_0] w32 fun e w33 =>
 ∃ n73_0 : Int, ∃ n73_1 : Int, ∃ s73_2 : ByteArray, e = .returned (.agg #[.int .i64 n73_0, .int .i64 n73_1, .string s73_2]) /\
 ptrE p6 fun a34 =>
 stA prog 25 a34 #[.int .i64 n73_0, .int .i64 n73_1, .string s73_2] w33 fun w35 =>
 runD prog ds w35 fun w36 =>
 ptrE p6 fun a37 =>
 ∃ nR0_0 : Int, w36.cell? (a37.add 0) = some (.int .i64 nR0_0) /\
 ∃ nR0_1 : Int, w36.cell? (a37.add 1) = some (.int .i64 nR0_1) /\
 ∃ sR0_2 : ByteArray, w36.cell? (a37.add 2) = some (.string sR0_2) /\
 R (.returned (.tuple #[.agg #[.int .i64 nR0_0, .int .i64 nR0_1, .string sR0_2], .bool true])) w36) (
 Br (n0 == 1) (
 Br (n1 == 4) (
 ptrE p5 fun a38 =>
 ∃ n82 : Int, w.cell? (a38.add 1) = some (.int .i64 n82) /\
 Br (n82 == 1) (
 Calls prog 46 #[.string (⟨#[84]⟩ : ByteArray)] w fun e w39 =>
 ∃ n84_0 : Int, ∃ n84_1 : Int, ∃ s84_2 : ByteArray, e = .returned (.agg #[.int .i64 n84_0, .int .i64 n84_1, .string s84_2]) /\
 ptrE p6 fun a40 =>
 stA prog 25 a40 #[.int .i64 n84_0, .int .i64 n84_1, .string s84_2] w39 fun w41 =>
 runD prog ds w41 fun w42 =>
 ptrE p6 fun a43 =>
 ∃ nR0_0 : Int, w42.cell? (a43.add 0) = some (.int .i64 nR0_0) /\
 ∃ nR0_1 : Int, w42.cell? (a43.add 1) = some (.int .i64 nR0_1) /\
 ∃ sR0_2 : ByteArray, w42.cell? (a43.add 2) = some (.string sR0_2) /\
 R (.returned (.tuple #[.agg #[.int .i64 nR0_0, .int .i64 nR0_1, .string sR0_2], .bool true])) w42) (
 Calls prog 46 #[.string (⟨#[70]⟩ : ByteArray)] w fun e w44 =>
 ∃ n85_0 : Int, ∃ n85_1 : Int, ∃ s85_2 : ByteArray, e = .returned (.agg #[.int .i64 n85_0, .int .i64 n85_1, .string s85_2]) /\
 ptrE p6 fun a45 =>
 stA prog 25 a45 #[.int .i64 n85_0, .int .i64 n85_1, .string s85_2] w44 fun w46 =>
 runD prog ds w46 fun w47 =>
 ptrE p6 fun a48 =>
 ∃ nR0_0 : Int, w47.cell? (a48.add 0) = some (.int .i64 nR0_0) /\
 ∃ nR0_1 : Int, w47.cell? (a48.add 1) = some (.int .i64 nR0_1) /\
 ∃ sR0_2 : ByteArray, w47.cell? (a48.add 2) = some (.string sR0_2) /\
 R (.returned (.tuple #[.agg #[.int .i64 nR0_0, .int .i64 nR0_1, .string sR0_2], .bool true])) w47)) (
 Br (n0 == 4) (
 Br (n1 == 1) (
 ptrE p5 fun a49 =>
 ∃ s94 : ByteArray, w.cell? (a49.add 2) = some (.string s94) /\
 Br (!(s94.toList == (⟨#[]⟩ : ByteArray).toList)) (
 ptrE p5 fun a50 =>
 ∃ s98 : ByteArray, w.cell? (a50.add 2) = some (.string s98) /\
 ∃ b99 : UInt8, 0 ≤ (0 : Int) /\ s98[(0 : Int).toNat]? = some b99 /\
 Br ((b99.toNat : Int) == 84) (
 Calls prog 124 #[.bool true] w fun e w51 =>
 ∃ n108_0 : Int, ∃ n108_1 : Int, ∃ s108_2 : ByteArray, e = .returned (.agg #[.int .i64 n108_0, .int .i64 n108_1, .string s108_2]) /\
 ptrE p6 fun a52 =>
 stA prog 25 a52 #[.int .i64 n108_0, .int .i64 n108_1, .string s108_2] w51 fun w53 =>
 runD prog ds w53 fun w54 =>
 ptrE p6 fun a55 =>
 ∃ nR0_0 : Int, w54.cell? (a55.add 0) = some (.int .i64 nR0_0) /\
 ∃ nR0_1 : Int, w54.cell? (a55.add 1) = some (.int .i64 nR0_1) /\
 ∃ sR0_2 : ByteArray, w54.cell? (a55.add 2) = some (.string sR0_2) /\
 R (.returned (.tuple #[.agg #[.int .i64 nR0_0, .int .i64 nR0_1, .string sR0_2], .bool true])) w54) (
 ptrE p5 fun a56 =>
 ∃ s103 : ByteArray, w.cell? (a56.add 2) = some (.string s103) /\
 ∃ b104 : UInt8, 0 ≤ (0 : Int) /\ s103[(0 : Int).toNat]? = some b104 /\
 Calls prog 124 #[.bool ((b104.toNat : Int) == 116)] w fun e w57 =>
 ∃ n108_0 : Int, ∃ n108_1 : Int, ∃ s108_2 : ByteArray, e = .returned (.agg #[.int .i64 n108_0, .int .i64 n108_1, .string s108_2]) /\
 ptrE p6 fun a58 =>
 stA prog 25 a58 #[.int .i64 n108_0, .int .i64 n108_1, .string s108_2] w57 fun w59 =>
 runD prog ds w59 fun w60 =>
 ptrE p6 fun a61 =>
 ∃ nR0_0 : Int, w60.cell? (a61.add 0) = some (.int .i64 nR0_0) /\
 ∃ nR0_1 : Int, w60.cell? (a61.add 1) = some (.int .i64 nR0_1) /\
 ∃ sR0_2 : ByteArray, w60.cell? (a61.add 2) = some (.string sR0_2) /\
 R (.returned (.tuple #[.agg #[.int .i64 nR0_0, .int .i64 nR0_1, .string sR0_2], .bool true])) w60)) (
 Calls prog 124 #[.bool false] w fun e w62 =>
 ∃ n108_0 : Int, ∃ n108_1 : Int, ∃ s108_2 : ByteArray, e = .returned (.agg #[.int .i64 n108_0, .int .i64 n108_1, .string s108_2]) /\
 ptrE p6 fun a63 =>
 stA prog 25 a63 #[.int .i64 n108_0, .int .i64 n108_1, .string s108_2] w62 fun w64 =>
 runD prog ds w64 fun w65 =>
 ptrE p6 fun a66 =>
 ∃ nR0_0 : Int, w65.cell? (a66.add 0) = some (.int .i64 nR0_0) /\
 ∃ nR0_1 : Int, w65.cell? (a66.add 1) = some (.int .i64 nR0_1) /\
 ∃ sR0_2 : ByteArray, w65.cell? (a66.add 2) = some (.string sR0_2) /\
 R (.returned (.tuple #[.agg #[.int .i64 nR0_0, .int .i64 nR0_1, .string sR0_2], .bool true])) w65)) (
 F88_1 R p6 ds w)) (
 F88_1 R p6 ds w))) (
 Br (n0 == 4) (
 Br (n1 == 1) (
 ptrE p5 fun a67 =>
 ∃ s94 : ByteArray, w.cell? (a67.add 2) = some (.string s94) /\
 Br (!(s94.toList == (⟨#[]⟩ : ByteArray).toList)) (
 ptrE p5 fun a68 =>
 ∃ s98 : ByteArray, w.cell? (a68.add 2) = some (.string s98) /\
 ∃ b99 : UInt8, 0 ≤ (0 : Int) /\ s98[(0 : Int).toNat]? = some b99 /\
 Br ((b99.toNat : Int) == 84) (
 Calls prog 124 #[.bool true] w fun e w69 =>
 ∃ n108_0 : Int, ∃ n108_1 : Int, ∃ s108_2 : ByteArray, e = .returned (.agg #[.int .i64 n108_0, .int .i64 n108_1, .string s108_2]) /\
 ptrE p6 fun a70 =>
 stA prog 25 a70 #[.int .i64 n108_0, .int .i64 n108_1, .string s108_2] w69 fun w71 =>
 runD prog ds w71 fun w72 =>
 ptrE p6 fun a73 =>
 ∃ nR0_0 : Int, w72.cell? (a73.add 0) = some (.int .i64 nR0_0) /\
 ∃ nR0_1 : Int, w72.cell? (a73.add 1) = some (.int .i64 nR0_1) /\
 ∃ sR0_2 : ByteArray, w72.cell? (a73.add 2) = some (.string sR0_2) /\
 R (.returned (.tuple #[.agg #[.int .i64 nR0_0, .int .i64 nR0_1, .string sR0_2], .bool true])) w72) (
 ptrE p5 fun a74 =>
 ∃ s103 : ByteArray, w.cell? (a74.add 2) = some (.string s103) /\
 ∃ b104 : UInt8, 0 ≤ (0 : Int) /\ s103[(0 : Int).toNat]? = some b104 /\
 Calls prog 124 #[.bool ((b104.toNat : Int) == 116)] w fun e w75 =>
 ∃ n108_0 : Int, ∃ n108_1 : Int, ∃ s108_2 : ByteArray, e = .returned (.agg #[.int .i64 n108_0, .int .i64 n108_1, .string s108_2]) /\
 ptrE p6 fun a76 =>
 stA prog 25 a76 #[.int .i64 n108_0, .int .i64 n108_1, .string s108_2] w75 fun w77 =>
 runD prog ds w77 fun w78 =>
 ptrE p6 fun a79 =>
 ∃ nR0_0 : Int, w78.cell? (a79.add 0) = some (.int .i64 nR0_0) /\
 ∃ nR0_1 : Int, w78.cell? (a79.add 1) = some (.int .i64 nR0_1) /\
 ∃ sR0_2 : ByteArray, w78.cell? (a79.add 2) = some (.string sR0_2) /\
 R (.returned (.tuple #[.agg #[.int .i64 nR0_0, .int .i64 nR0_1, .string sR0_2], .bool true])) w78)) (
 Calls prog 124 #[.bool false] w fun e w80 =>
 ∃ n108_0 : Int, ∃ n108_1 : Int, ∃ s108_2 : ByteArray, e = .returned (.agg #[.int .i64 n108_0, .int .i64 n108_1, .string s108_2]) /\
 ptrE p6 fun a81 =>
 stA prog 25 a81 #[.int .i64 n108_0, .int .i64 n108_1, .string s108_2] w80 fun w82 =>
 runD prog ds w82 fun w83 =>
 ptrE p6 fun a84 =>
 ∃ nR0_0 : Int, w83.cell? (a84.add 0) = some (.int .i64 nR0_0) /\
 ∃ nR0_1 : Int, w83.cell? (a84.add 1) = some (.int .i64 nR0_1) /\
 ∃ sR0_2 : ByteArray, w83.cell? (a84.add 2) = some (.string sR0_2) /\
 R (.returned (.tuple #[.agg #[.int .i64 nR0_0, .int .i64 nR0_1, .string sR0_2], .bool true])) w83)) (
 F88_1 R p6 ds w)) (
 F88_1 R p6 ds w)))) (
 Br (n0 == 1) (
 Br (n1 == 4) (
 ptrE p5 fun a85 =>
 ∃ n82 : Int, w.cell? (a85.add 1) = some (.int .i64 n82) /\
 Br (n82 == 1) (
 Calls prog 46 #[.string (⟨#[84]⟩ : ByteArray)] w fun e w86 =>
 ∃ n84_0 : Int, ∃ n84_1 : Int, ∃ s84_2 : ByteArray, e = .returned (.agg #[.int .i64 n84_0, .int .i64 n84_1, .string s84_2]) /\
 ptrE p6 fun a87 =>
 stA prog 25 a87 #[.int .i64 n84_0, .int .i64 n84_1, .string s84_2] w86 fun w88 =>
 runD prog ds w88 fun w89 =>
 ptrE p6 fun a90 =>
 ∃ nR0_0 : Int, w89.cell? (a90.add 0) = some (.int .i64 nR0_0) /\
 ∃ nR0_1 : Int, w89.cell? (a90.add 1) = some (.int .i64 nR0_1) /\
 ∃ sR0_2 : ByteArray, w89.cell? (a90.add 2) = some (.string sR0_2) /\
 R (.returned (.tuple #[.agg #[.int .i64 nR0_0, .int .i64 nR0_1, .string sR0_2], .bool true])) w89) (
 Calls prog 46 #[.string (⟨#[70]⟩ : ByteArray)] w fun e w91 =>
 ∃ n85_0 : Int, ∃ n85_1 : Int, ∃ s85_2 : ByteArray, e = .returned (.agg #[.int .i64 n85_0, .int .i64 n85_1, .string s85_2]) /\
 ptrE p6 fun a92 =>
 stA prog 25 a92 #[.int .i64 n85_0, .int .i64 n85_1, .string s85_2] w91 fun w93 =>
 runD prog ds w93 fun w94 =>
 ptrE p6 fun a95 =>
 ∃ nR0_0 : Int, w94.cell? (a95.add 0) = some (.int .i64 nR0_0) /\
 ∃ nR0_1 : Int, w94.cell? (a95.add 1) = some (.int .i64 nR0_1) /\
 ∃ sR0_2 : ByteArray, w94.cell? (a95.add 2) = some (.string sR0_2) /\
 R (.returned (.tuple #[.agg #[.int .i64 nR0_0, .int .i64 nR0_1, .string sR0_2], .bool true])) w94)) (
 Br (n0 == 4) (
 Br (n1 == 1) (
 ptrE p5 fun a96 =>
 ∃ s94 : ByteArray, w.cell? (a96.add 2) = some (.string s94) /\
 Br (!(s94.toList == (⟨#[]⟩ : ByteArray).toList)) (
 ptrE p5 fun a97 =>
 ∃ s98 : ByteArray, w.cell? (a97.add 2) = some (.string s98) /\
 ∃ b99 : UInt8, 0 ≤ (0 : Int) /\ s98[(0 : Int).toNat]? = some b99 /\
 Br ((b99.toNat : Int) == 84) (
 Calls prog 124 #[.bool true] w fun e w98 =>
 ∃ n108_0 : Int, ∃ n108_1 : Int, ∃ s108_2 : ByteArray, e = .returned (.agg #[.int .i64 n108_0, .int .i64 n108_1, .string s108_2]) /\
 ptrE p6 fun a99 =>
 stA prog 25 a99 #[.int .i64 n108_0, .int .i64 n108_1, .string s108_2] w98 fun w100 =>
 runD prog ds w100 fun w101 =>
 ptrE p6 fun a102 =>
 ∃ nR0_0 : Int, w101.cell? (a102.add 0) = some (.int .i64 nR0_0) /\
 ∃ nR0_1 : Int, w101.cell? (a102.add 1) = some (.int .i64 nR0_1) /\
 ∃ sR0_2 : ByteArray, w101.cell? (a102.add 2) = some (.string sR0_2) /\
 R (.returned (.tuple #[.agg #[.int .i64 nR0_0, .int .i64 nR0_1, .string sR0_2], .bool true])) w101) (
 ptrE p5 fun a103 =>
 ∃ s103 : ByteArray, w.cell? (a103.add 2) = some (.string s103) /\
 ∃ b104 : UInt8, 0 ≤ (0 : Int) /\ s103[(0 : Int).toNat]? = some b104 /\
 Calls prog 124 #[.bool ((b104.toNat : Int) == 116)] w fun e w104 =>
 ∃ n108_0 : Int, ∃ n108_1 : Int, ∃ s108_2 : ByteArray, e = .returned (.agg #[.int .i64 n108_0, .int .i64 n108_1, .string s108_2]) /\
 ptrE p6 fun a105 =>
 stA prog 25 a105 #[.int .i64 n108_0, .int .i64 n108_1, .string s108_2] w104 fun w106 =>
 runD prog ds w106 fun w107 =>
 ptrE p6 fun a108 =>
 ∃ nR0_0 : Int, w107.cell? (a108.add 0) = some (.int .i64 nR0_0) /\
 ∃ nR0_1 : Int, w107.cell? (a108.add 1) = some (.int .i64 nR0_1) /\
 ∃ sR0_2 : ByteArray, w107.cell? (a108.add 2) = some (.string sR0_2) /\
 R (.returned (.tuple #[.agg #[.int .i64 nR0_0, .int .i64 nR0_1, .string sR0_2], .bool true])) w107)) (
 Calls prog 124 #[.bool false] w fun e w109 =>
 ∃ n108_0 : Int, ∃ n108_1 : Int, ∃ s108_2 : ByteArray, e = .returned (.agg #[.int .i64 n108_0, .int .i64 n108_1, .string s108_2]) /\
 ptrE p6 fun a110 =>
 stA prog 25 a110 #[.int .i64 n108_0, .int .i64 n108_1, .string s108_2] w109 fun w111 =>
 runD prog ds w111 fun w112 =>
 ptrE p6 fun a113 =>
 ∃ nR0_0 : Int, w112.cell? (a113.add 0) = some (.int .i64 nR0_0) /\
 ∃ nR0_1 : Int, w112.cell? (a113.add 1) = some (.int .i64 nR0_1) /\
 ∃ sR0_2 : ByteArray, w112.cell? (a113.add 2) = some (.string sR0_2) /\
 R (.returned (.tuple #[.agg #[.int .i64 nR0_0, .int .i64 nR0_1, .string sR0_2], .bool true])) w112)) (
 F88_1 R p6 ds w)) (
 F88_1 R p6 ds w))) (
 Br (n0 == 4) (
 Br (n1 == 1) (
 ptrE p5 fun a114 =>
 ∃ s94 : ByteArray, w.cell? (a114.add 2) = some (.string s94) /\
 Br (!(s94.toList == (⟨#[]⟩ : ByteArray).toList)) (
 ptrE p5 fun a115 =>
 ∃ s98 : ByteArray, w.cell? (a115.add 2) = some (.string s98) /\
 ∃ b99 : UInt8, 0 ≤ (0 : Int) /\ s98[(0 : Int).toNat]? = some b99 /\
 Br ((b99.toNat : Int) == 84) (
 Calls prog 124 #[.bool true] w fun e w116 =>
 ∃ n108_0 : Int, ∃ n108_1 : Int, ∃ s108_2 : ByteArray, e = .returned (.agg #[.int .i64 n108_0, .int .i64 n108_1, .string s108_2]) /\
 ptrE p6 fun a117 =>
 stA prog 25 a117 #[.int .i64 n108_0, .int .i64 n108_1, .string s108_2] w116 fun w118 =>
 runD prog ds w118 fun w119 =>
 ptrE p6 fun a120 =>
 ∃ nR0_0 : Int, w119.cell? (a120.add 0) = some (.int .i64 nR0_0) /\
 ∃ nR0_1 : Int, w119.cell? (a120.add 1) = some (.int .i64 nR0_1) /\
 ∃ sR0_2 : ByteArray, w119.cell? (a120.add 2) = some (.string sR0_2) /\
 R (.returned (.tuple #[.agg #[.int .i64 nR0_0, .int .i64 nR0_1, .string sR0_2], .bool true])) w119) (
 ptrE p5 fun a121 =>
 ∃ s103 : ByteArray, w.cell? (a121.add 2) = some (.string s103) /\
 ∃ b104 : UInt8, 0 ≤ (0 : Int) /\ s103[(0 : Int).toNat]? = some b104 /\
 Calls prog 124 #[.bool ((b104.toNat : Int) == 116)] w fun e w122 =>
 ∃ n108_0 : Int, ∃ n108_1 : Int, ∃ s108_2 : ByteArray, e = .returned (.agg #[.int .i64 n108_0, .int .i64 n108_1, .string s108_2]) /\
 ptrE p6 fun a123 =>
 stA prog 25 a123 #[.int .i64 n108_0, .int .i64 n108_1, .string s108_2] w122 fun w124 =>
 runD prog ds w124 fun w125 =>
 ptrE p6 fun a126 =>
 ∃ nR0_0 : Int, w125.cell? (a126.add 0) = some (.int .i64 nR0_0) /\
 ∃ nR0_1 : Int, w125.cell? (a126.add 1) = some (.int .i64 nR0_1) /\
 ∃ sR0_2 : ByteArray, w125.cell? (a126.add 2) = some (.string sR0_2) /\
 R (.returned (.tuple #[.agg #[.int .i64 nR0_0, .int .i64 nR0_1, .string sR0_2], .bool true])) w125)) (
 Calls prog 124 #[.bool false] w fun e w127 =>
 ∃ n108_0 : Int, ∃ n108_1 : Int, ∃ s108_2 : ByteArray, e = .returned (.agg #[.int .i64 n108_0, .int .i64 n108_1, .string s108_2]) /\
 ptrE p6 fun a128 =>
 stA prog 25 a128 #[.int .i64 n108_0, .int .i64 n108_1, .string s108_2] w127 fun w129 =>
 runD prog ds w129 fun w130 =>
 ptrE p6 fun a131 =>
 ∃ nR0_0 : Int, w130.cell? (a131.add 0) = some (.int .i64 nR0_0) /\
 ∃ nR0_1 : Int, w130.cell? (a131.add 1) = some (.int .i64 nR0_1) /\
 ∃ sR0_2 : ByteArray, w130.cell? (a131.add 2) = some (.string sR0_2) /\
 R (.returned (.tuple #[.agg #[.int .i64 nR0_0, .int .i64 nR0_1, .string sR0_2], .bool true])) w130)) (
 F88_1 R p6 ds w)) (
 F88_1 R p6 ds w))))
def F88_k5 (R : Rt) : EP := (fun E ds w => dInt .i64 (E 0) fun n0 => dInt .i64 (E 1) fun n1 => dPtr (E 5) fun p5 => dPtr (E 6) fun p6 => dBl (E 44) fun b44 => F88_5 R n0 n1 p5 p6 b44 ds w)
def F88_6 (R : Rt) (n0 n1 : Int) (p5 p6 : Option Addr) (ds : Ds) (w : World) : Prop :=
 Br (n0 == 3) (
 F88_5 R n0 n1 p5 p6 (n1 == 4) ds w) (
 F88_5 R n0 n1 p5 p6 false ds w)
def F88_7 (R : Rt) (n0 n1 : Int) (p5 p6 : Option Addr) (b33 : Bool) (ds : Ds) (w : World) : Prop :=
 Br b33 (
 F88_4 R p5 p6 ds w) (
 F88_6 R n0 n1 p5 p6 ds w)
def F88_k6 (R : Rt) : EP := (fun E ds w => dInt .i64 (E 0) fun n0 => dInt .i64 (E 1) fun n1 => dPtr (E 5) fun p5 => dPtr (E 6) fun p6 => dBl (E 33) fun b33 => F88_7 R n0 n1 p5 p6 b33 ds w)
def F88_8 (R : Rt) (n0 n1 : Int) (p5 p6 : Option Addr) (ds : Ds) (w : World) : Prop :=
 Br (n0 == 4) (
 F88_7 R n0 n1 p5 p6 (n1 == 2) ds w) (
 F88_7 R n0 n1 p5 p6 false ds w)
def F88_9 (R : Rt) (n0 n1 : Int) (p5 p6 : Option Addr) (b22 : Bool) (ds : Ds) (w : World) : Prop :=
 Br b22 (
 F88_3 R p5 p6 ds w) (
 F88_8 R n0 n1 p5 p6 ds w)
def F88_k7 (R : Rt) : EP := (fun E ds w => dInt .i64 (E 0) fun n0 => dInt .i64 (E 1) fun n1 => dPtr (E 5) fun p5 => dPtr (E 6) fun p6 => dBl (E 22) fun b22 => F88_9 R n0 n1 p5 p6 b22 ds w)
def F88_10 (R : Rt) (n0 n1 : Int) (p5 p6 : Option Addr) (ds : Ds) (w : World) : Prop :=
 Br (n0 == 2) (
 F88_9 R n0 n1 p5 p6 (n1 == 4) ds w) (
 F88_9 R n0 n1 p5 p6 false ds w)
def F88_11 (R : Rt) (n0 n1 : Int) (p5 p6 : Option Addr) (b12 : Bool) (ds : Ds) (w : World) : Prop :=
 Br b12 (
 F88_2 R p5 p6 ds w) (
 F88_10 R n0 n1 p5 p6 ds w)
def F88_k8 (R : Rt) : EP := (fun E ds w => dInt .i64 (E 0) fun n0 => dInt .i64 (E 1) fun n1 => dPtr (E 5) fun p5 => dPtr (E 6) fun p6 => dBl (E 12) fun b12 => F88_11 R n0 n1 p5 p6 b12 ds w)
def F88_12 (R : Rt) (n0 n1 : Int) (p5 p6 : Option Addr) (ds : Ds) (w : World) : Prop :=
 ptrE p5 fun a132 =>
 ∃ n14 : Int, w.cell? a132 = some (.int .i64 n14) /\
 Br (n14 == 0) (
 F88_11 R n0 n1 p5 p6 true ds w) (
 F88_11 R n0 n1 p5 p6 (n0 == n1) ds w)
abbrev F88_13 (R : Rt) (n0 n1 : Int) (p5 p6 : Option Addr) (ds : Ds) (w : World) : Prop := F88_12 R n0 n1 p5 p6 ds w
def F88_k9 (R : Rt) : EP := (fun E ds w => dInt .i64 (E 0) fun n0 => dInt .i64 (E 1) fun n1 => dPtr (E 5) fun p5 => dPtr (E 6) fun p6 => F88_13 R n0 n1 p5 p6 ds w)
def F88_14 (R : Rt) (n0 n1 n2_0 n2_1 : Int) (s2_2 : ByteArray) (ds : Ds) (w : World) : Prop :=
 alE (.cells #[.int .i64 n2_0, .int .i64 n2_1, .string s2_2] 25) w fun r5 w133 =>
 alE (.cells #[.int .i64 0, .int .i64 0, .string (⟨#[]⟩ : ByteArray)] 25) w133 fun r6 w134 =>
 F88_13 R n0 n1 (some (⟨r5, 0, none⟩ : Addr)) (some (⟨r6, 0, none⟩ : Addr)) ds w134
theorem c88_l : flat (bodyOf f88) = [c88_0, c88_1, c88_2, c88_3] := by kernel_rfl
theorem c88_1_l : flat (innerC c88_1) = [c88_1_0, c88_1_1] := by kernel_rfl
theorem c88_1_1t_l : flat (thnC c88_1_1) = [c88_1_1t_0, c88_1_1t_1] := by kernel_rfl
theorem c88_1_1e_l : flat (elsC c88_1_1) = [c88_1_1e_0, c88_1_1e_1] := by kernel_rfl
theorem c88_1_1e_1t_l : flat (thnC c88_1_1e_1) = [c88_1_1e_1t_0, c88_1_1e_1t_1] := by kernel_rfl
theorem c88_1_1e_1e_l : flat (elsC c88_1_1e_1) = [c88_1_1e_1e_0, c88_1_1e_1e_1] := by kernel_rfl
theorem c88_1_1e_1e_1t_l : flat (thnC c88_1_1e_1e_1) = [c88_1_1e_1e_1t_0, c88_1_1e_1e_1t_1] := by kernel_rfl
theorem c88_1_1e_1e_1e_l : flat (elsC c88_1_1e_1e_1) = [c88_1_1e_1e_1e_0, c88_1_1e_1e_1e_1] := by kernel_rfl
theorem F88_1_ok (R : Rt) (p6 : Option Addr) (ds : Ds) (w : World) (E : Env) (e6 : E 6 = .pointer p6) (h : F88_1 R p6 ds w) :
    TrL prog f88.ntmps [c88_2, c88_3] (F88_q1 R) E ds w :=
  TrL_leaf (X := F88_1 R p6 ds w) (setAll_cons e6 setAll_nil) (by kernel_rfl) (by kernel_rfl) h
theorem F88_2_ok (R : Rt) (p5 p6 : Option Addr) (ds : Ds) (w : World) (E : Env) (e5 : E 5 = .pointer p5) (e6 : E 6 = .pointer p6) (h : F88_2 R p5 p6 ds w) :
    TrL prog f88.ntmps [c88_1_1t_0, c88_1_1t_1] (F88_q4 R) E ds w :=
  TrL_leaf (X := F88_2 R p5 p6 ds w) (setAll_cons e5 (setAll_cons e6 setAll_nil)) (by kernel_rfl) (by kernel_rfl) h
theorem F88_3_ok (R : Rt) (p5 p6 : Option Addr) (ds : Ds) (w : World) (E : Env) (e5 : E 5 = .pointer p5) (e6 : E 6 = .pointer p6) (h : F88_3 R p5 p6 ds w) :
    TrL prog f88.ntmps [c88_1_1e_1t_0, c88_1_1e_1t_1] (F88_q4 R) E ds w :=
  TrL_leaf (X := F88_3 R p5 p6 ds w) (setAll_cons e5 (setAll_cons e6 setAll_nil)) (by kernel_rfl) (by kernel_rfl) h
theorem F88_4_ok (R : Rt) (p5 p6 : Option Addr) (ds : Ds) (w : World) (E : Env) (e5 : E 5 = .pointer p5) (e6 : E 6 = .pointer p6) (h : F88_4 R p5 p6 ds w) :
    TrL prog f88.ntmps [c88_1_1e_1e_1t_0, c88_1_1e_1e_1t_1] (F88_q4 R) E ds w :=
  TrL_leaf (X := F88_4 R p5 p6 ds w) (setAll_cons e5 (setAll_cons e6 setAll_nil)) (by kernel_rfl) (by kernel_rfl) h
theorem F88_5_ok (R : Rt) (n0 n1 : Int) (p5 p6 : Option Addr) (b44 : Bool) (ds : Ds) (w : World) (E : Env) (e0 : E 0 = .int .i64 n0) (e1 : E 1 = .int .i64 n1) (e5 : E 5 = .pointer p5) (e6 : E 6 = .pointer p6) (e44 : E 44 = .bool b44) (h : F88_5 R n0 n1 p5 p6 b44 ds w) :
    TrL prog f88.ntmps [c88_1_1e_1e_1e_1] (F88_q4 R) E ds w :=
  TrL_leaf (X := F88_5 R n0 n1 p5 p6 b44 ds w) (setAll_cons e0 (setAll_cons e1 (setAll_cons e5 (setAll_cons e6 (setAll_cons e44 setAll_nil))))) (by kernel_rfl) (by kernel_rfl) h
theorem F88_6_ok (R : Rt) (n0 n1 : Int) (p5 p6 : Option Addr) (ds : Ds) (w : World) (E : Env) (e0 : E 0 = .int .i64 n0) (e1 : E 1 = .int .i64 n1) (e5 : E 5 = .pointer p5) (e6 : E 6 = .pointer p6) (h : F88_6 R n0 n1 p5 p6 ds w) :
    TrL prog f88.ntmps [c88_1_1e_1e_1e_0, c88_1_1e_1e_1e_1] (F88_q4 R) E ds w :=
  TrL_piece (pre := [c88_1_1e_1e_1e_0]) (K := (F88_k5 R)) (X := F88_6 R n0 n1 p5 p6 ds w) (setAll_cons e0 (setAll_cons e1 (setAll_cons e5 (setAll_cons e6 setAll_nil)))) (by kernel_rfl) (by kernel_rfl)
    (fun E' ds' w' hD => by
      obtain ⟨n0, e0, hD⟩ := dInt_elim hD; obtain ⟨n1, e1, hD⟩ := dInt_elim hD; obtain ⟨p5, e5, hD⟩ := dPtr_elim hD; obtain ⟨p6, e6, hD⟩ := dPtr_elim hD; obtain ⟨b44, e44, hD⟩ := dBl_elim hD; exact F88_5_ok R n0 n1 p5 p6 b44 ds' w' E' e0 e1 e5 e6 e44 hD) h
theorem F88_7_ok (R : Rt) (n0 n1 : Int) (p5 p6 : Option Addr) (b33 : Bool) (ds : Ds) (w : World) (E : Env) (e0 : E 0 = .int .i64 n0) (e1 : E 1 = .int .i64 n1) (e5 : E 5 = .pointer p5) (e6 : E 6 = .pointer p6) (e33 : E 33 = .bool b33) (h : F88_7 R n0 n1 p5 p6 b33 ds w) :
    TrL prog f88.ntmps [c88_1_1e_1e_1] (F88_q4 R) E ds w :=
  TrL_one (Tr_cond' (c := .tmp 33) (x := thnC c88_1_1e_1e_1) (y := elsC c88_1_1e_1e_1) (by kernel_rfl) c88_1_1e_1e_1t_l c88_1_1e_1e_1e_l e33 (fun h => F88_4_ok R p5 p6 ds w E e5 e6 h) (fun h => F88_6_ok R n0 n1 p5 p6 ds w E e0 e1 e5 e6 h) h)
theorem F88_8_ok (R : Rt) (n0 n1 : Int) (p5 p6 : Option Addr) (ds : Ds) (w : World) (E : Env) (e0 : E 0 = .int .i64 n0) (e1 : E 1 = .int .i64 n1) (e5 : E 5 = .pointer p5) (e6 : E 6 = .pointer p6) (h : F88_8 R n0 n1 p5 p6 ds w) :
    TrL prog f88.ntmps [c88_1_1e_1e_0, c88_1_1e_1e_1] (F88_q4 R) E ds w :=
  TrL_piece (pre := [c88_1_1e_1e_0]) (K := (F88_k6 R)) (X := F88_8 R n0 n1 p5 p6 ds w) (setAll_cons e0 (setAll_cons e1 (setAll_cons e5 (setAll_cons e6 setAll_nil)))) (by kernel_rfl) (by kernel_rfl)
    (fun E' ds' w' hD => by
      obtain ⟨n0, e0, hD⟩ := dInt_elim hD; obtain ⟨n1, e1, hD⟩ := dInt_elim hD; obtain ⟨p5, e5, hD⟩ := dPtr_elim hD; obtain ⟨p6, e6, hD⟩ := dPtr_elim hD; obtain ⟨b33, e33, hD⟩ := dBl_elim hD; exact F88_7_ok R n0 n1 p5 p6 b33 ds' w' E' e0 e1 e5 e6 e33 hD) h
theorem F88_9_ok (R : Rt) (n0 n1 : Int) (p5 p6 : Option Addr) (b22 : Bool) (ds : Ds) (w : World) (E : Env) (e0 : E 0 = .int .i64 n0) (e1 : E 1 = .int .i64 n1) (e5 : E 5 = .pointer p5) (e6 : E 6 = .pointer p6) (e22 : E 22 = .bool b22) (h : F88_9 R n0 n1 p5 p6 b22 ds w) :
    TrL prog f88.ntmps [c88_1_1e_1] (F88_q4 R) E ds w :=
  TrL_one (Tr_cond' (c := .tmp 22) (x := thnC c88_1_1e_1) (y := elsC c88_1_1e_1) (by kernel_rfl) c88_1_1e_1t_l c88_1_1e_1e_l e22 (fun h => F88_3_ok R p5 p6 ds w E e5 e6 h) (fun h => F88_8_ok R n0 n1 p5 p6 ds w E e0 e1 e5 e6 h) h)
theorem F88_10_ok (R : Rt) (n0 n1 : Int) (p5 p6 : Option Addr) (ds : Ds) (w : World) (E : Env) (e0 : E 0 = .int .i64 n0) (e1 : E 1 = .int .i64 n1) (e5 : E 5 = .pointer p5) (e6 : E 6 = .pointer p6) (h : F88_10 R n0 n1 p5 p6 ds w) :
    TrL prog f88.ntmps [c88_1_1e_0, c88_1_1e_1] (F88_q4 R) E ds w :=
  TrL_piece (pre := [c88_1_1e_0]) (K := (F88_k7 R)) (X := F88_10 R n0 n1 p5 p6 ds w) (setAll_cons e0 (setAll_cons e1 (setAll_cons e5 (setAll_cons e6 setAll_nil)))) (by kernel_rfl) (by kernel_rfl)
    (fun E' ds' w' hD => by
      obtain ⟨n0, e0, hD⟩ := dInt_elim hD; obtain ⟨n1, e1, hD⟩ := dInt_elim hD; obtain ⟨p5, e5, hD⟩ := dPtr_elim hD; obtain ⟨p6, e6, hD⟩ := dPtr_elim hD; obtain ⟨b22, e22, hD⟩ := dBl_elim hD; exact F88_9_ok R n0 n1 p5 p6 b22 ds' w' E' e0 e1 e5 e6 e22 hD) h
theorem F88_11_ok (R : Rt) (n0 n1 : Int) (p5 p6 : Option Addr) (b12 : Bool) (ds : Ds) (w : World) (E : Env) (e0 : E 0 = .int .i64 n0) (e1 : E 1 = .int .i64 n1) (e5 : E 5 = .pointer p5) (e6 : E 6 = .pointer p6) (e12 : E 12 = .bool b12) (h : F88_11 R n0 n1 p5 p6 b12 ds w) :
    TrL prog f88.ntmps [c88_1_1] (F88_q4 R) E ds w :=
  TrL_one (Tr_cond' (c := .tmp 12) (x := thnC c88_1_1) (y := elsC c88_1_1) (by kernel_rfl) c88_1_1t_l c88_1_1e_l e12 (fun h => F88_2_ok R p5 p6 ds w E e5 e6 h) (fun h => F88_10_ok R n0 n1 p5 p6 ds w E e0 e1 e5 e6 h) h)
theorem F88_12_ok (R : Rt) (n0 n1 : Int) (p5 p6 : Option Addr) (ds : Ds) (w : World) (E : Env) (e0 : E 0 = .int .i64 n0) (e1 : E 1 = .int .i64 n1) (e5 : E 5 = .pointer p5) (e6 : E 6 = .pointer p6) (h : F88_12 R n0 n1 p5 p6 ds w) :
    TrL prog f88.ntmps [c88_1_0, c88_1_1] (F88_q4 R) E ds w :=
  TrL_piece (pre := [c88_1_0]) (K := (F88_k8 R)) (X := F88_12 R n0 n1 p5 p6 ds w) (setAll_cons e0 (setAll_cons e1 (setAll_cons e5 (setAll_cons e6 setAll_nil)))) (by kernel_rfl) (by kernel_rfl)
    (fun E' ds' w' hD => by
      obtain ⟨n0, e0, hD⟩ := dInt_elim hD; obtain ⟨n1, e1, hD⟩ := dInt_elim hD; obtain ⟨p5, e5, hD⟩ := dPtr_elim hD; obtain ⟨p6, e6, hD⟩ := dPtr_elim hD; obtain ⟨b12, e12, hD⟩ := dBl_elim hD; exact F88_11_ok R n0 n1 p5 p6 b12 ds' w' E' e0 e1 e5 e6 e12 hD) h
theorem F88_13_ok (R : Rt) (n0 n1 : Int) (p5 p6 : Option Addr) (ds : Ds) (w : World) (E : Env) (e0 : E 0 = .int .i64 n0) (e1 : E 1 = .int .i64 n1) (e5 : E 5 = .pointer p5) (e6 : E 6 = .pointer p6) (h : F88_13 R n0 n1 p5 p6 ds w) :
    TrL prog f88.ntmps [c88_1, c88_2, c88_3] (F88_q1 R) E ds w :=
  TrL_head (K := (F88_k2 R)) (Tr_block' (c := innerC c88_1) (by kernel_rfl) c88_1_l (F88_12_ok R n0 n1 p5 p6 ds w E e0 e1 e5 e6 h))
    (fun E' ds' w' hD => by
      obtain ⟨p6, e6, hD⟩ := dPtr_elim hD; exact F88_1_ok R p6 ds' w' E' e6 hD)
theorem F88_14_ok (R : Rt) (n0 n1 n2_0 n2_1 : Int) (s2_2 : ByteArray) (ds : Ds) (w : World) (E : Env) (e0 : E 0 = .int .i64 n0) (e1 : E 1 = .int .i64 n1) (e2 : E 2 = .agg #[.int .i64 n2_0, .int .i64 n2_1, .string s2_2]) (h : F88_14 R n0 n1 n2_0 n2_1 s2_2 ds w) :
    TrL prog f88.ntmps [c88_0, c88_1, c88_2, c88_3] (F88_q1 R) E ds w :=
  TrL_piece (pre := [c88_0]) (K := (F88_k9 R)) (X := F88_14 R n0 n1 n2_0 n2_1 s2_2 ds w) (setAll_cons e0 (setAll_cons e1 (setAll_cons e2 setAll_nil))) (by kernel_rfl) (by kernel_rfl)
    (fun E' ds' w' hD => by
      obtain ⟨n0, e0, hD⟩ := dInt_elim hD; obtain ⟨n1, e1, hD⟩ := dInt_elim hD; obtain ⟨p5, e5, hD⟩ := dPtr_elim hD; obtain ⟨p6, e6, hD⟩ := dPtr_elim hD; exact F88_13_ok R n0 n1 p5 p6 ds' w' E' e0 e1 e5 e6 hD) h
theorem F88_calls (n0 n1 n2_0 n2_1 : Int) (s2_2 : ByteArray) (w : World) (R : Rt) (h : F88_14 R n0 n1 n2_0 n2_1 s2_2 [] w) : Calls prog 88 #[.int .i64 n0, .int .i64 n1, .agg #[.int .i64 n2_0, .int .i64 n2_1, .string s2_2]] w R :=
  calls_of_L (l := [c88_0, c88_1, c88_2, c88_3]) func88 (by kernel_rfl) (by rw [ntmps88]; exact Nat.le_of_ble_eq_true (by kernel_rfl)) c88_l
    (F88_14_ok R n0 n1 n2_0 n2_1 s2_2 [] w _ rfl rfl rfl h)
noncomputable def c117_0 := cI26 f117 0
noncomputable def c117_1 := cI26 f117 1
noncomputable def c117_2 := cI26 f117 2
noncomputable def c117_3 := cI26 f117 3
noncomputable def c117_4 := cI26 f117 4
noncomputable def c117_5 := cI26 f117 5
noncomputable def c117_6 := cI26 f117 6
def F117_q1 (R : Rt) : EQ := endQ prog f117.results.toList R
def F117_1 (R : Rt) (s0_0 : ByteArray) (n0_1 n0_2 : Int) (b0_3 : Bool) (s1_0 : ByteArray) (n1_1 n1_2 : Int) (b1_3 : Bool) (n2_0 n2_1 : Int) (s2_2 : ByteArray) (ds : Ds) (w : World) : Prop :=
 alE (.cells #[.string s0_0, .int .i64 n0_1, .int .i64 n0_2, .bool b0_3] 23) w fun r3 w1 =>
 alE (.cells #[.string s1_0, .int .i64 n1_1, .int .i64 n1_2, .bool b1_3] 23) w1 fun r4 w2 =>
 alE (.cells #[.int .i64 n2_0, .int .i64 n2_1, .string s2_2] 25) w2 fun r5 w3 =>
 alE (.cells #[.int .i64 0, .int .i64 0, .string (⟨#[]⟩ : ByteArray)] 25) w3 fun r6 w4 =>
 ∃ n12 : Int, w4.cell? ((⟨r3, 0, none⟩ : Addr).add 1) = some (.int .i64 n12) /\
 ∃ n14 : Int, w4.cell? ((⟨r4, 0, none⟩ : Addr).add 1) = some (.int .i64 n14) /\
 ∃ b18 : Bool, ∃ w5 : World, (eqS .eql 158 (.tmp 15) (.tmp 17) (.agg #[.int .i64 n12, .int .i64 n14]) (.agg #[.int .i64 2, .int .i64 4])).run prog w4 = .ok (.bool b18) w5 /\
 Br b18 (
 ∃ n20_0 : Int, w5.cell? ((⟨r5, 0, none⟩ : Addr).add 0) = some (.int .i64 n20_0) /\
 ∃ n20_1 : Int, w5.cell? ((⟨r5, 0, none⟩ : Addr).add 1) = some (.int .i64 n20_1) /\
 ∃ s20_2 : ByteArray, w5.cell? ((⟨r5, 0, none⟩ : Addr).add 2) = some (.string s20_2) /\
 Calls prog 150 #[.agg #[.int .i64 n20_0, .int .i64 n20_1, .string s20_2]] w5 fun e w6 =>
 ∃ s21_0 : ByteArray, ∃ n21_1 : Int, e = .returned (.tuple #[.string s21_0, .int .i64 n21_1]) /\
 stA prog 25 (⟨r6, 0, none⟩ : Addr) #[.int .i64 4, .int .i64 0, .string s21_0] w6 fun w7 =>
 runD prog ds w7 fun w8 =>
 ∃ nR0_0 : Int, w8.cell? ((⟨r6, 0, none⟩ : Addr).add 0) = some (.int .i64 nR0_0) /\
 ∃ nR0_1 : Int, w8.cell? ((⟨r6, 0, none⟩ : Addr).add 1) = some (.int .i64 nR0_1) /\
 ∃ sR0_2 : ByteArray, w8.cell? ((⟨r6, 0, none⟩ : Addr).add 2) = some (.string sR0_2) /\
 R (.returned (.agg #[.int .i64 nR0_0, .int .i64 nR0_1, .string sR0_2])) w8) (
 ∃ b28 : Bool, ∃ w9 : World, (eqS .eql 158 (.tmp 15) (.tmp 27) (.agg #[.int .i64 n12, .int .i64 n14]) (.agg #[.int .i64 4, .int .i64 2])).run prog w5 = .ok (.bool b28) w9 /\
 Br b28 (
 ∃ s30 : ByteArray, w9.cell? ((⟨r5, 0, none⟩ : Addr).add 2) = some (.string s30) /\
 Calls prog 151 #[.string s30] w9 fun e w10 =>
 ∃ n31 : Int, e = .returned (.int .i64 n31) /\
 stA prog 25 (⟨r6, 0, none⟩ : Addr) #[.int .i64 2, .int .i64 n31, .string (⟨#[]⟩ : ByteArray)] w10 fun w11 =>
 runD prog ds w11 fun w12 =>
 ∃ nR0_0 : Int, w12.cell? ((⟨r6, 0, none⟩ : Addr).add 0) = some (.int .i64 nR0_0) /\
 ∃ nR0_1 : Int, w12.cell? ((⟨r6, 0, none⟩ : Addr).add 1) = some (.int .i64 nR0_1) /\
 ∃ sR0_2 : ByteArray, w12.cell? ((⟨r6, 0, none⟩ : Addr).add 2) = some (.string sR0_2) /\
 R (.returned (.agg #[.int .i64 nR0_0, .int .i64 nR0_1, .string sR0_2])) w12) (
 ∃ b35 : Bool, ∃ w13 : World, (eqS .eql 158 (.tmp 15) (.tmp 34) (.agg #[.int .i64 n12, .int .i64 n14]) (.agg #[.int .i64 3, .int .i64 4])).run prog w9 = .ok (.bool b35) w13 /\
 Br b35 (
 ∃ s36_0 : ByteArray, w13.cell? ((⟨r4, 0, none⟩ : Addr).add 0) = some (.string s36_0) /\
 ∃ n36_1 : Int, w13.cell? ((⟨r4, 0, none⟩ : Addr).add 1) = some (.int .i64 n36_1) /\
 ∃ n36_2 : Int, w13.cell? ((⟨r4, 0, none⟩ : Addr).add 2) = some (.int .i64 n36_2) /\
 ∃ b36_3 : Bool, w13.cell? ((⟨r4, 0, none⟩ : Addr).add 3) = some (.bool b36_3) /\
 ∃ n37_0 : Int, w13.cell? ((⟨r5, 0, none⟩ : Addr).add 0) = some (.int .i64 n37_0) /\
 ∃ n37_1 : Int, w13.cell? ((⟨r5, 0, none⟩ : Addr).add 1) = some (.int .i64 n37_1) /\
 ∃ s37_2 : ByteArray, w13.cell? ((⟨r5, 0, none⟩ : Addr).add 2) = some (.string s37_2) /\
 Calls prog 129 #[.agg #[.string s36_0, .int .i64 n36_1, .int .i64 n36_2, .bool b36_3], .agg #[.int .i64 n37_0, .int .i64 n37_1, .string s37_2]] w13 fun e w14 =>
 ∃ s38 : ByteArray, e = .returned (.string s38) /\
 stA prog 25 (⟨r6, 0, none⟩ : Addr) #[.int .i64 4, .int .i64 0, .string s38] w14 fun w15 =>
 runD prog ds w15 fun w16 =>
 ∃ nR0_0 : Int, w16.cell? ((⟨r6, 0, none⟩ : Addr).add 0) = some (.int .i64 nR0_0) /\
 ∃ nR0_1 : Int, w16.cell? ((⟨r6, 0, none⟩ : Addr).add 1) = some (.int .i64 nR0_1) /\
 ∃ sR0_2 : ByteArray, w16.cell? ((⟨r6, 0, none⟩ : Addr).add 2) = some (.string sR0_2) /\
 R (.returned (.agg #[.int .i64 nR0_0, .int .i64 nR0_1, .string sR0_2])) w16) (
 ∃ b42 : Bool, ∃ w17 : World, (eqS .eql 158 (.tmp 15) (.tmp 41) (.agg #[.int .i64 n12, .int .i64 n14]) (.agg #[.int .i64 4, .int .i64 3])).run prog w13 = .ok (.bool b42) w17 /\
 Br b42 (
 ∃ s45 : ByteArray, w17.cell? ((⟨r5, 0, none⟩ : Addr).add 2) = some (.string s45) /\
 Calls prog 152 #[.string s45] w17 fun e w18 =>
 ∃ n46_0 : Int, ∃ b46_1 : Bool, e = .returned (.tuple #[.int .i64 n46_0, .bool b46_1]) /\
 stA prog 25 (⟨r6, 0, none⟩ : Addr) #[.int .i64 3, .int .i64 n46_0, .string (⟨#[]⟩ : ByteArray)] w18 fun w19 =>
 runD prog ds w19 fun w20 =>
 ∃ nR0_0 : Int, w20.cell? ((⟨r6, 0, none⟩ : Addr).add 0) = some (.int .i64 nR0_0) /\
 ∃ nR0_1 : Int, w20.cell? ((⟨r6, 0, none⟩ : Addr).add 1) = some (.int .i64 nR0_1) /\
 ∃ sR0_2 : ByteArray, w20.cell? ((⟨r6, 0, none⟩ : Addr).add 2) = some (.string sR0_2) /\
 R (.returned (.agg #[.int .i64 nR0_0, .int .i64 nR0_1, .string sR0_2])) w20) (
 ∃ b53 : Bool, ∃ w21 : World, (eqS .eql 158 (.tmp 15) (.tmp 52) (.agg #[.int .i64 n12, .int .i64 n14]) (.agg #[.int .i64 1, .int .i64 4])).run prog w17 = .ok (.bool b53) w21 /\
 Br b53 (
 ∃ s54_0 : ByteArray, w21.cell? ((⟨r4, 0, none⟩ : Addr).add 0) = some (.string s54_0) /\
 ∃ n54_1 : Int, w21.cell? ((⟨r4, 0, none⟩ : Addr).add 1) = some (.int .i64 n54_1) /\
 ∃ n54_2 : Int, w21.cell? ((⟨r4, 0, none⟩ : Addr).add 2) = some (.int .i64 n54_2) /\
 ∃ b54_3 : Bool, w21.cell? ((⟨r4, 0, none⟩ : Addr).add 3) = some (.bool b54_3) /\
 ∃ n55_0 : Int, w21.cell? ((⟨r5, 0, none⟩ : Addr).add 0) = some (.int .i64 n55_0) /\
 ∃ n55_1 : Int, w21.cell? ((⟨r5, 0, none⟩ : Addr).add 1) = some (.int .i64 n55_1) /\
 ∃ s55_2 : ByteArray, w21.cell? ((⟨r5, 0, none⟩ : Addr).add 2) = some (.string s55_2) /\
 Calls prog 125 #[.agg #[.string s54_0, .int .i64 n54_1, .int .i64 n54_2, .bool b54_3], .agg #[.int .i64 n55_0, .int .i64 n55_1, .string s55_2]] w21 fun e w22 =>
 ∃ s56 : ByteArray, e = .returned (.string s56) /\
 stA prog 25 (⟨r6, 0, none⟩ : Addr) #[.int .i64 4, .int .i64 0, .string s56] w22 fun w23 =>
 runD prog ds w23 fun w24 =>
 ∃ nR0_0 : Int, w24.cell? ((⟨r6, 0, none⟩ : Addr).add 0) = some (.int .i64 nR0_0) /\
 ∃ nR0_1 : Int, w24.cell? ((⟨r6, 0, none⟩ : Addr).add 1) = some (.int .i64 nR0_1) /\
 ∃ sR0_2 : ByteArray, w24.cell? ((⟨r6, 0, none⟩ : Addr).add 2) = some (.string sR0_2) /\
 R (.returned (.agg #[.int .i64 nR0_0, .int .i64 nR0_1, .string sR0_2])) w24) (
 ∃ b60 : Bool, ∃ w25 : World, (eqS .eql 158 (.tmp 15) (.tmp 59) (.agg #[.int .i64 n12, .int .i64 n14]) (.agg #[.int .i64 4, .int .i64 1])).run prog w21 = .ok (.bool b60) w25 /\
 Br b60 (
 ∃ s62 : ByteArray, w25.cell? ((⟨r5, 0, none⟩ : Addr).add 2) = some (.string s62) /\
 Calls prog 54 #[.string s62, .string (⟨#[84]⟩ : ByteArray)] w25 fun e w26 =>
 ∃ b63 : Bool, e = .returned (.bool b63) /\
 Br b63 (
 stA prog 25 (⟨r6, 0, none⟩ : Addr) #[.int .i64 1, .int .i64 1, .string (⟨#[]⟩ : ByteArray)] w26 fun w27 =>
 runD prog ds w27 fun w28 =>
 ∃ nR0_0 : Int, w28.cell? ((⟨r6, 0, none⟩ : Addr).add 0) = some (.int .i64 nR0_0) /\
 ∃ nR0_1 : Int, w28.cell? ((⟨r6, 0, none⟩ : Addr).add 1) = some (.int .i64 nR0_1) /\
 ∃ sR0_2 : ByteArray, w28.cell? ((⟨r6, 0, none⟩ : Addr).add 2) = some (.string sR0_2) /\
 R (.returned (.agg #[.int .i64 nR0_0, .int .i64 nR0_1, .string sR0_2])) w28) (
 ∃ s66 : ByteArray, w26.cell? ((⟨r5, 0, none⟩ : Addr).add 2) = some (.string s66) /\
 Calls prog 54 #[.string s66, .string (⟨#[116]⟩ : ByteArray)] w26 fun e w29 =>
 ∃ b67 : Bool, e = .returned (.bool b67) /\
 Br b67 (
 stA prog 25 (⟨r6, 0, none⟩ : Addr) #[.int .i64 1, .int .i64 1, .string (⟨#[]⟩ : ByteArray)] w29 fun w30 =>
 runD prog ds w30 fun w31 =>
 ∃ nR0_0 : Int, w31.cell? ((⟨r6, 0, none⟩ : Addr).add 0) = some (.int .i64 nR0_0) /\
 ∃ nR0_1 : Int, w31.cell? ((⟨r6, 0, none⟩ : Addr).add 1) = some (.int .i64 nR0_1) /\
 ∃ sR0_2 : ByteArray, w31.cell? ((⟨r6, 0, none⟩ : Addr).add 2) = some (.string sR0_2) /\
 R (.returned (.agg #[.int .i64 nR0_0, .int .i64 nR0_1, .string sR0_2])) w31) (
 stA prog 25 (⟨r6, 0, none⟩ : Addr) #[.int .i64 1, .int .i64 0, .string (⟨#[]⟩ : ByteArray)] w29 fun w32 =>
 runD prog ds w32 fun w33 =>
 ∃ nR0_0 : Int, w33.cell? ((⟨r6, 0, none⟩ : Addr).add 0) = some (.int .i64 nR0_0) /\
 ∃ nR0_1 : Int, w33.cell? ((⟨r6, 0, none⟩ : Addr).add 1) = some (.int .i64 nR0_1) /\
 ∃ sR0_2 : ByteArray, w33.cell? ((⟨r6, 0, none⟩ : Addr).add 2) = some (.string sR0_2) /\
 R (.returned (.agg #[.int .i64 nR0_0, .int .i64 nR0_1, .string sR0_2])) w33))) (
 ∃ n72 : Int, w25.cell? ((⟨r3, 0, none⟩ : Addr).add 1) = some (.int .i64 n72) /\
 ∃ n74 : Int, w25.cell? ((⟨r4, 0, none⟩ : Addr).add 1) = some (.int .i64 n74) /\
 Br (n72 != n74) (
 ∃ s76_0 : ByteArray, w25.cell? ((⟨r4, 0, none⟩ : Addr).add 0) = some (.string s76_0) /\
 ∃ n76_1 : Int, w25.cell? ((⟨r4, 0, none⟩ : Addr).add 1) = some (.int .i64 n76_1) /\
 ∃ n76_2 : Int, w25.cell? ((⟨r4, 0, none⟩ : Addr).add 2) = some (.int .i64 n76_2) /\
 ∃ b76_3 : Bool, w25.cell? ((⟨r4, 0, none⟩ : Addr).add 3) = some (.bool b76_3) /\
 Calls prog 50 #[.agg #[.string s76_0, .int .i64 n76_1, .int .i64 n76_2, .bool b76_3]] w25 fun e w34 =>
 ∃ n77_0 : Int, ∃ n77_1 : Int, ∃ s77_2 : ByteArray, e = .returned (.agg #[.int .i64 n77_0, .int .i64 n77_1, .string s77_2]) /\
 stA prog 25 (⟨r6, 0, none⟩ : Addr) #[.int .i64 n77_0, .int .i64 n77_1, .string s77_2] w34 fun w35 =>
 runD prog ds w35 fun w36 =>
 ∃ nR0_0 : Int, w36.cell? ((⟨r6, 0, none⟩ : Addr).add 0) = some (.int .i64 nR0_0) /\
 ∃ nR0_1 : Int, w36.cell? ((⟨r6, 0, none⟩ : Addr).add 1) = some (.int .i64 nR0_1) /\
 ∃ sR0_2 : ByteArray, w36.cell? ((⟨r6, 0, none⟩ : Addr).add 2) = some (.string sR0_2) /\
 R (.returned (.agg #[.int .i64 nR0_0, .int .i64 nR0_1, .string sR0_2])) w36) (
 ∃ n78_0 : Int, w25.cell? ((⟨r5, 0, none⟩ : Addr).add 0) = some (.int .i64 n78_0) /\
 ∃ n78_1 : Int, w25.cell? ((⟨r5, 0, none⟩ : Addr).add 1) = some (.int .i64 n78_1) /\
 ∃ s78_2 : ByteArray, w25.cell? ((⟨r5, 0, none⟩ : Addr).add 2) = some (.string s78_2) /\
 stA prog 25 (⟨r6, 0, none⟩ : Addr) #[.int .i64 n78_0, .int .i64 n78_1, .string s78_2] w25 fun w37 =>
 runD prog ds w37 fun w38 =>
 ∃ nR0_0 : Int, w38.cell? ((⟨r6, 0, none⟩ : Addr).add 0) = some (.int .i64 nR0_0) /\
 ∃ nR0_1 : Int, w38.cell? ((⟨r6, 0, none⟩ : Addr).add 1) = some (.int .i64 nR0_1) /\
 ∃ sR0_2 : ByteArray, w38.cell? ((⟨r6, 0, none⟩ : Addr).add 2) = some (.string sR0_2) /\
 R (.returned (.agg #[.int .i64 nR0_0, .int .i64 nR0_1, .string sR0_2])) w38)))))))
theorem c117_l : flat (bodyOf f117) = [c117_0, c117_1, c117_2, c117_3, c117_4, c117_5, c117_6] := by kernel_rfl
theorem F117_1_ok (R : Rt) (s0_0 : ByteArray) (n0_1 n0_2 : Int) (b0_3 : Bool) (s1_0 : ByteArray) (n1_1 n1_2 : Int) (b1_3 : Bool) (n2_0 n2_1 : Int) (s2_2 : ByteArray) (ds : Ds) (w : World) (E : Env) (e0 : E 0 = .agg #[.string s0_0, .int .i64 n0_1, .int .i64 n0_2, .bool b0_3]) (e1 : E 1 = .agg #[.string s1_0, .int .i64 n1_1, .int .i64 n1_2, .bool b1_3]) (e2 : E 2 = .agg #[.int .i64 n2_0, .int .i64 n2_1, .string s2_2]) (h : F117_1 R s0_0 n0_1 n0_2 b0_3 s1_0 n1_1 n1_2 b1_3 n2_0 n2_1 s2_2 ds w) :
    TrL prog f117.ntmps [c117_0, c117_1, c117_2, c117_3, c117_4, c117_5, c117_6] (F117_q1 R) E ds w :=
  TrL_leaf (X := F117_1 R s0_0 n0_1 n0_2 b0_3 s1_0 n1_1 n1_2 b1_3 n2_0 n2_1 s2_2 ds w) (setAll_cons e0 (setAll_cons e1 (setAll_cons e2 setAll_nil))) (by kernel_rfl) (by kernel_rfl) h
theorem F117_calls (s0_0 : ByteArray) (n0_1 n0_2 : Int) (b0_3 : Bool) (s1_0 : ByteArray) (n1_1 n1_2 : Int) (b1_3 : Bool) (n2_0 n2_1 : Int) (s2_2 : ByteArray) (w : World) (R : Rt) (h : F117_1 R s0_0 n0_1 n0_2 b0_3 s1_0 n1_1 n1_2 b1_3 n2_0 n2_1 s2_2 [] w) : Calls prog 117 #[.agg #[.string s0_0, .int .i64 n0_1, .int .i64 n0_2, .bool b0_3], .agg #[.string s1_0, .int .i64 n1_1, .int .i64 n1_2, .bool b1_3], .agg #[.int .i64 n2_0, .int .i64 n2_1, .string s2_2]] w R :=
  calls_of_L (l := [c117_0, c117_1, c117_2, c117_3, c117_4, c117_5, c117_6]) func117 (by kernel_rfl) (by rw [ntmps117]; exact Nat.le_of_ble_eq_true (by kernel_rfl)) c117_l
    (F117_1_ok R s0_0 n0_1 n0_2 b0_3 s1_0 n1_1 n1_2 b1_3 n2_0 n2_1 s2_2 [] w _ rfl rfl rfl h)
end Go.Proofs.YtecmfdfhpldmmaaGreatDoor

/- Shallow texts of functions, printed by program, each checked by the kernel against the loaded code. No condition. -/
set_option maxRecDepth 100000
set_option linter.unusedVariables false
namespace Go.Proofs.YtecmfdfhpldmmaaGreatDoor
open Go.Sh
open Tryz
@[reducible] noncomputable def cI27 (f : Func) (i : Nat) : Code := itemAt (flat (bodyOf f)) i
noncomputable def c150_0 := cI27 f150 0
noncomputable def c150_1 := cI27 f150 1
noncomputable def c150_2 := cI27 f150 2
noncomputable def c150_3 := cI27 f150 3
noncomputable def c150_4 := cI27 f150 4
noncomputable def c150_5 := cI27 f150 5
noncomputable def c150_6 := cI27 f150 6
noncomputable def c150_7 := cI27 f150 7
def F150_q1 (R : Rt) : EQ := endQ prog f150.results.toList R
def F150_1 (R : Rt) (n0_0 n0_1 : Int) (s0_2 : ByteArray) (ds : Ds) (w : World) : Prop :=
 alE (.cells #[.int .i64 n0_0, .int .i64 n0_1, .string s0_2] 25) w fun r1 w1 =>
 ∃ n6_0 : Int, w1.cell? ((⟨r1, 0, none⟩ : Addr).add 0) = some (.int .i64 n6_0) /\
 ∃ n6_1 : Int, w1.cell? ((⟨r1, 0, none⟩ : Addr).add 1) = some (.int .i64 n6_1) /\
 ∃ s6_2 : ByteArray, w1.cell? ((⟨r1, 0, none⟩ : Addr).add 2) = some (.string s6_2) /\
 Calls prog 49 #[.agg #[.int .i64 n6_0, .int .i64 n6_1, .string s6_2]] w1 fun e w2 =>
 ∃ n7 : Int, e = .returned (.int .i64 n7) /\
 Br (n7 != 0) (
 runD prog ds w2 fun w3 =>
 R (.returned (.tuple #[.string (⟨#[]⟩ : ByteArray), .int .i64 n7])) w3) (
 ∃ n12 : Int, w2.cell? (⟨r1, 0, none⟩ : Addr) = some (.int .i64 n12) /\
 Br (n12 == 1) (
 ∃ n17 : Int, w2.cell? ((⟨r1, 0, none⟩ : Addr).add 1) = some (.int .i64 n17) /\
 ∃ s18 : ByteArray, ∃ w4 : World, (Instr.index 174 (.agg #[.string (⟨#[46, 70, 46]⟩ : ByteArray), .string (⟨#[46, 84, 46]⟩ : ByteArray)]) (.int .i64 n17)).run prog w2 = .ok (.string s18) w4 /\
 runD prog ds w4 fun w5 =>
 R (.returned (.tuple #[.string s18, .int .i64 0])) w5) (
 Br (n12 == 2) (
 ∃ n22 : Int, w2.cell? ((⟨r1, 0, none⟩ : Addr).add 1) = some (.int .i64 n22) /\
 Calls prog 98 #[.int .i64 n22] w2 fun e w6 =>
 ∃ s23 : ByteArray, e = .returned (.string s23) /\
 runD prog ds w6 fun w7 =>
 R (.returned (.tuple #[.string s23, .int .i64 0])) w7) (
 Br (n12 == 3) (
 ∃ n27 : Int, w2.cell? ((⟨r1, 0, none⟩ : Addr).add 1) = some (.int .i64 n27) /\
 Calls prog 167 #[.int .i64 n27] w2 fun e w8 =>
 ∃ s28 : ByteArray, e = .returned (.string s28) /\
 ∃ n30 : Int, w8.cell? ((⟨r1, 0, none⟩ : Addr).add 1) = some (.int .i64 n30) /\
 Br (n30 == 0) (
 runD prog ds w8 fun w9 =>
 R (.returned (.tuple #[.string (⟨#[32, 32, 32, 32, 45, 32, 32, 45, 32, 32]⟩ : ByteArray), .int .i64 0])) w9) (
 dwE w8 fun w10 =>
 0 ≤ (4 : Int) /\ (4 : Int).toNat ≤ s28.size /\ 0 ≤ (4 : Int).toNat /\
 (((s28.extract 0 ((4 : Int).toNat)).size + (⟨#[45]⟩ : ByteArray).size : Nat) : Int) ≤ 9223372036854775807 /\
 0 ≤ (6 : Int) /\ (6 : Int).toNat ≤ s28.size /\ 0 ≤ (4 : Int) /\ (4 : Int).toNat ≤ (6 : Int).toNat /\
 ((((s28.extract 0 ((4 : Int).toNat)) ++ (⟨#[45]⟩ : ByteArray)).size + (s28.extract ((4 : Int).toNat) ((6 : Int).toNat)).size : Nat) : Int) ≤ 9223372036854775807 /\
 (((((s28.extract 0 ((4 : Int).toNat)) ++ (⟨#[45]⟩ : ByteArray)) ++ (s28.extract ((4 : Int).toNat) ((6 : Int).toNat))).size + (⟨#[45]⟩ : ByteArray).size : Nat) : Int) ≤ 9223372036854775807 /\
 s28.size ≤ s28.size /\ 0 ≤ (6 : Int) /\ (6 : Int).toNat ≤ s28.size /\
 ((((((s28.extract 0 ((4 : Int).toNat)) ++ (⟨#[45]⟩ : ByteArray)) ++ (s28.extract ((4 : Int).toNat) ((6 : Int).toNat))) ++ (⟨#[45]⟩ : ByteArray)).size + (s28.extract ((6 : Int).toNat) s28.size).size : Nat) : Int) ≤ 9223372036854775807 /\
 runD prog ds w10 fun w11 =>
 R (.returned (.tuple #[.string (((((s28.extract 0 ((4 : Int).toNat)) ++ (⟨#[45]⟩ : ByteArray)) ++ (s28.extract ((4 : Int).toNat) ((6 : Int).toNat))) ++ (⟨#[45]⟩ : ByteArray)) ++ (s28.extract ((6 : Int).toNat) s28.size)), .int .i64 0])) w11)) (
 Br (n12 == 4) (
 ∃ s45 : ByteArray, w2.cell? ((⟨r1, 0, none⟩ : Addr).add 2) = some (.string s45) /\
 runD prog ds w2 fun w12 =>
 R (.returned (.tuple #[.string s45, .int .i64 0])) w12) (
 runD prog ds w2 fun w13 =>
 R (.returned (.tuple #[.string (⟨#[78, 73, 76]⟩ : ByteArray), .int .i64 0])) w13)))))
theorem c150_l : flat (bodyOf f150) = [c150_0, c150_1, c150_2, c150_3, c150_4, c150_5, c150_6, c150_7] := by kernel_rfl
theorem F150_1_ok (R : Rt) (n0_0 n0_1 : Int) (s0_2 : ByteArray) (ds : Ds) (w : World) (E : Env) (e0 : E 0 = .agg #[.int .i64 n0_0, .int .i64 n0_1, .string s0_2]) (h : F150_1 R n0_0 n0_1 s0_2 ds w) :
    TrL prog f150.ntmps [c150_0, c150_1, c150_2, c150_3, c150_4, c150_5, c150_6, c150_7] (F150_q1 R) E ds w :=
  TrL_leaf (X := F150_1 R n0_0 n0_1 s0_2 ds w) (setAll_cons e0 setAll_nil) (by kernel_rfl) (by kernel_rfl) h
theorem F150_calls (n0_0 n0_1 : Int) (s0_2 : ByteArray) (w : World) (R : Rt) (h : F150_1 R n0_0 n0_1 s0_2 [] w) : Calls prog 150 #[.agg #[.int .i64 n0_0, .int .i64 n0_1, .string s0_2]] w R :=
  calls_of_L (l := [c150_0, c150_1, c150_2, c150_3, c150_4, c150_5, c150_6, c150_7]) func150 (by kernel_rfl) (by rw [ntmps150]; exact Nat.le_of_ble_eq_true (by kernel_rfl)) c150_l
    (F150_1_ok R n0_0 n0_1 s0_2 [] w _ rfl h)
end Go.Proofs.YtecmfdfhpldmmaaGreatDoor

/- Shallow texts of functions, printed by program, each checked by the kernel against the loaded code. No condition. -/
set_option maxRecDepth 100000
set_option linter.unusedVariables false
namespace Go.Proofs.YtecmfdfhpldmmaaGreatDoor
open Go.Sh
open Tryz
@[reducible] noncomputable def cI28 (f : Func) (i : Nat) : Code := itemAt (flat (bodyOf f)) i
noncomputable def c11_0 := cI28 f11 0
noncomputable def c11_1 := cI28 f11 1
noncomputable def c11_2 := cI28 f11 2
noncomputable def c11_3 := cI28 f11 3
noncomputable def c11_4 := cI28 f11 4
noncomputable def c11_5 := cI28 f11 5
noncomputable def c11_6 := cI28 f11 6
def F11_q1 (R : Rt) : EQ := endQ prog f11.results.toList R
def F11_1 (R : Rt) (n0_0 : Int) (l0_1 l0_2 l1 : SV) (ds : Ds) (w : World) : Prop :=
 alE (.cells #[.int .i64 n0_0, .slice l0_1.a l0_1.len l0_1.cap, .slice l0_2.a l0_2.len l0_2.cap] 35) w fun r2 w1 =>
 ∃ n9_0 : Int, w1.cell? ((⟨r2, 0, none⟩ : Addr).add 0) = some (.int .i64 n9_0) /\
 ∃ l9_1 : SV, w1.cell? ((⟨r2, 0, none⟩ : Addr).add 1) = some (.slice l9_1.a l9_1.len l9_1.cap) /\
 ∃ l9_2 : SV, w1.cell? ((⟨r2, 0, none⟩ : Addr).add 2) = some (.slice l9_2.a l9_2.len l9_2.cap) /\
 Calls prog 16 #[.agg #[.int .i64 n9_0, .slice l9_1.a l9_1.len l9_1.cap, .slice l9_2.a l9_2.len l9_2.cap]] w1 fun e w2 =>
 ∃ b10 : Bool, e = .returned (.bool b10) /\
 Br b10 (
 Calls prog 12 #[] w2 fun e w3 =>
 ∃ b16 : Bool, e = .returned (.bool b16) /\
 runD prog ds w3 fun w4 =>
 R (.returned (.bool b16)) w4) (
 Calls prog 16 #[.agg #[.int .i64 0, .slice l1.a l1.len l1.cap, .slice none 0 0]] w2 fun e w5 =>
 ∃ b14 : Bool, e = .returned (.bool b14) /\
 Br b14 (
 Calls prog 12 #[] w5 fun e w6 =>
 ∃ b16 : Bool, e = .returned (.bool b16) /\
 runD prog ds w6 fun w7 =>
 R (.returned (.bool b16)) w7) (
 ∃ n18_0 : Int, w5.cell? ((⟨r2, 0, none⟩ : Addr).add 0) = some (.int .i64 n18_0) /\
 ∃ l18_1 : SV, w5.cell? ((⟨r2, 0, none⟩ : Addr).add 1) = some (.slice l18_1.a l18_1.len l18_1.cap) /\
 ∃ l18_2 : SV, w5.cell? ((⟨r2, 0, none⟩ : Addr).add 2) = some (.slice l18_2.a l18_2.len l18_2.cap) /\
 Calls prog 44 #[.agg #[.int .i64 n18_0, .slice l18_1.a l18_1.len l18_1.cap, .slice l18_2.a l18_2.len l18_2.cap], .slice l1.a l1.len l1.cap] w5 fun e w8 =>
 ∃ n20_0_0 : Int, ∃ l20_0_1 : SV, ∃ l20_0_2 : SV, ∃ n20_1 : Int, e = .returned (.tuple #[.agg #[.int .i64 n20_0_0, .slice l20_0_1.a l20_0_1.len l20_0_1.cap, .slice l20_0_2.a l20_0_2.len l20_0_2.cap], .int .i64 n20_1]) /\
 alE (.cells #[.int .i64 0, .slice none 0 0, .slice none 0 0] 35) w8 fun r5 w9 =>
 stA prog 35 (⟨r5, 0, none⟩ : Addr) #[.int .i64 n20_0_0, .slice l20_0_1.a l20_0_1.len l20_0_1.cap, .slice l20_0_2.a l20_0_2.len l20_0_2.cap] w9 fun w10 =>
 ∃ n24_0 : Int, w10.cell? ((⟨r2, 0, none⟩ : Addr).add 0) = some (.int .i64 n24_0) /\
 ∃ l24_1 : SV, w10.cell? ((⟨r2, 0, none⟩ : Addr).add 1) = some (.slice l24_1.a l24_1.len l24_1.cap) /\
 ∃ l24_2 : SV, w10.cell? ((⟨r2, 0, none⟩ : Addr).add 2) = some (.slice l24_2.a l24_2.len l24_2.cap) /\
 Calls prog 45 #[.agg #[.int .i64 n24_0, .slice l24_1.a l24_1.len l24_1.cap, .slice l24_2.a l24_2.len l24_2.cap], .slice l1.a l1.len l1.cap] w10 fun e w11 =>
 ∃ n26_0_0 : Int, ∃ l26_0_1 : SV, ∃ l26_0_2 : SV, ∃ n26_1 : Int, e = .returned (.tuple #[.agg #[.int .i64 n26_0_0, .slice l26_0_1.a l26_0_1.len l26_0_1.cap, .slice l26_0_2.a l26_0_2.len l26_0_2.cap], .int .i64 n26_1]) /\
 alE (.cells #[.int .i64 0, .slice none 0 0, .slice none 0 0] 35) w11 fun r7 w12 =>
 stA prog 35 (⟨r7, 0, none⟩ : Addr) #[.int .i64 n26_0_0, .slice l26_0_1.a l26_0_1.len l26_0_1.cap, .slice l26_0_2.a l26_0_2.len l26_0_2.cap] w12 fun w13 =>
 ∃ n29_0 : Int, w13.cell? ((⟨r5, 0, none⟩ : Addr).add 0) = some (.int .i64 n29_0) /\
 ∃ l29_1 : SV, w13.cell? ((⟨r5, 0, none⟩ : Addr).add 1) = some (.slice l29_1.a l29_1.len l29_1.cap) /\
 ∃ l29_2 : SV, w13.cell? ((⟨r5, 0, none⟩ : Addr).add 2) = some (.slice l29_2.a l29_2.len l29_2.cap) /\
 ∃ n30_0 : Int, w13.cell? ((⟨r7, 0, none⟩ : Addr).add 0) = some (.int .i64 n30_0) /\
 ∃ l30_1 : SV, w13.cell? ((⟨r7, 0, none⟩ : Addr).add 1) = some (.slice l30_1.a l30_1.len l30_1.cap) /\
 ∃ l30_2 : SV, w13.cell? ((⟨r7, 0, none⟩ : Addr).add 2) = some (.slice l30_2.a l30_2.len l30_2.cap) /\
 Calls prog 43 #[.agg #[.int .i64 n29_0, .slice l29_1.a l29_1.len l29_1.cap, .slice l29_2.a l29_2.len l29_2.cap], .agg #[.int .i64 n30_0, .slice l30_1.a l30_1.len l30_1.cap, .slice l30_2.a l30_2.len l30_2.cap]] w13 fun e w14 =>
 ∃ b31 : Bool, e = .returned (.bool b31) /\
 Br b31 (
 Br (n20_1 == n26_1) (
 Calls prog 12 #[] w14 fun e w15 =>
 ∃ b38 : Bool, e = .returned (.bool b38) /\
 runD prog ds w15 fun w16 =>
 R (.returned (.bool b38)) w16) (
 runD prog ds w14 fun w17 =>
 R (.returned (.bool false)) w17)) (
 runD prog ds w14 fun w18 =>
 R (.returned (.bool false)) w18)))
theorem c11_l : flat (bodyOf f11) = [c11_0, c11_1, c11_2, c11_3, c11_4, c11_5, c11_6] := by kernel_rfl
theorem F11_1_ok (R : Rt) (n0_0 : Int) (l0_1 l0_2 l1 : SV) (ds : Ds) (w : World) (E : Env) (e0 : E 0 = .agg #[.int .i64 n0_0, .slice l0_1.a l0_1.len l0_1.cap, .slice l0_2.a l0_2.len l0_2.cap]) (e1 : E 1 = .slice l1.a l1.len l1.cap) (h : F11_1 R n0_0 l0_1 l0_2 l1 ds w) :
    TrL prog f11.ntmps [c11_0, c11_1, c11_2, c11_3, c11_4, c11_5, c11_6] (F11_q1 R) E ds w :=
  TrL_leaf (X := F11_1 R n0_0 l0_1 l0_2 l1 ds w) (setAll_cons e0 (setAll_cons e1 setAll_nil)) (by kernel_rfl) (by kernel_rfl) h
theorem F11_calls (n0_0 : Int) (l0_1 l0_2 l1 : SV) (w : World) (R : Rt) (h : F11_1 R n0_0 l0_1 l0_2 l1 [] w) : Calls prog 11 #[.agg #[.int .i64 n0_0, .slice l0_1.a l0_1.len l0_1.cap, .slice l0_2.a l0_2.len l0_2.cap], .slice l1.a l1.len l1.cap] w R :=
  calls_of_L (l := [c11_0, c11_1, c11_2, c11_3, c11_4, c11_5, c11_6]) func11 (by kernel_rfl) (by rw [ntmps11]; exact Nat.le_of_ble_eq_true (by kernel_rfl)) c11_l
    (F11_1_ok R n0_0 l0_1 l0_2 l1 [] w _ rfl rfl h)
end Go.Proofs.YtecmfdfhpldmmaaGreatDoor
