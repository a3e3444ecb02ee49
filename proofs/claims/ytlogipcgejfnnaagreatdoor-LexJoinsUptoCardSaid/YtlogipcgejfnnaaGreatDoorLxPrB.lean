import Derived.Test.YtlogipcgejfnnaaGreatDoorProg
import Derived.Test.YtlogipcgejfnnaaGreatDoorShEight
/- Shallow texts of functions, printed by program, each checked by the kernel against the loaded code. No condition. -/
set_option maxRecDepth 100000
set_option linter.unusedVariables false
namespace Go.Proofs.YtlogipcgejfnnaaGreatDoor
open Go.Sh
open Tryz
@[reducible] noncomputable def cI7 (f : Func) (i : Nat) : Code := itemAt (flat (bodyOf f)) i
@[reducible] noncomputable def cJ7 (c : Code) (i : Nat) : Code := itemAt (flat (innerC c)) i
noncomputable def c70_0 := cI7 f70 0
noncomputable def c70_1 := cI7 f70 1
noncomputable def c70_2 := cI7 f70 2
noncomputable def c70_3 := cI7 f70 3
noncomputable def c70_4 := cI7 f70 4
noncomputable def c70_5 := cI7 f70 5
noncomputable def c70_6 := cI7 f70 6
noncomputable def c70_7 := cI7 f70 7
noncomputable def c70_6_0 := cJ7 c70_6 0
noncomputable def c70_6_0_0 := cJ7 c70_6_0 0
noncomputable def c70_6_0_1 := cJ7 c70_6_0 1
noncomputable def c70_6_0_2 := cJ7 c70_6_0 2
noncomputable def c70_6_0_3 := cJ7 c70_6_0 3
noncomputable def c70_2_0 := cJ7 c70_2 0
noncomputable def c70_2_0_0 := cJ7 c70_2_0 0
noncomputable def c70_2_0_1 := cJ7 c70_2_0 1
noncomputable def c70_2_0_2 := cJ7 c70_2_0 2
def F70_q1 (R : Rt) : EQ := endQ prog f70.results.toList R
def F70_1 (R : Rt) (p0 : Option Addr) (n3 : Int) (ds : Ds) (w : World) : Prop :=
 dwE w fun w1 =>
 ptrE p0 fun a2 =>
 ∃ s93 : ByteArray, w1.cell? a2 = some (.string s93) /\
 ptrE p0 fun a3 =>
 ∃ n97 : Int, w1.cell? (a3.add 1) = some (.int .i64 n97) /\
 0 ≤ n3 /\ n3.toNat ≤ s93.size /\ 0 ≤ (IntKind.i64.wrap (n97 + 1)) /\ (IntKind.i64.wrap (n97 + 1)).toNat ≤ n3.toNat /\
 ptrE p0 fun a4 =>
 ∃ n106 : Int, w1.cell? (a4.add 1) = some (.int .i64 n106) /\
 Calls prog 67 #[.pointer p0, .int .i64 2, .string (s93.extract ((IntKind.i64.wrap (n97 + 1)).toNat) n3.toNat), .int .i64 (IntKind.i64.wrap ((IntKind.i64.wrap (n3 + 1)) - n106))] w1 fun e w5 =>
 e = .returned (.tuple #[]) /\
 runD prog ds w5 fun w6 =>
 R (.returned (.tuple #[])) w6
def F70_k2 (R : Rt) : EP := (fun E ds w => dPtr (E 0) fun p0 => dInt .i64 (E 3) fun n3 => F70_1 R p0 n3 ds w)
def F70_q3 (R : Rt) : EQ := (thenQ (F70_k2 R) (F70_q1 R))
def F70_q4 (R : Rt) : EQ := (blockQ 2 (F70_q3 R))
def F70_q5 (R : Rt) (J1 : (Int) -> World -> Prop) : EQ := (thenQ (fun E _ w => dInt .i64 (E 4) fun n4 => J1 n4 w) (F70_q4 R))
def F70_2 (R : Rt) (J1 : (Int) -> World -> Prop) (p0 : Option Addr) (n3 n4 : Int) (ds : Ds) (w : World) : Prop :=
 Br (decide (n4 < n3)) (
 ptrE p0 fun a7 =>
 ∃ s81 : ByteArray, w.cell? a7 = some (.string s81) /\
 ∃ b83 : UInt8, 0 ≤ n4 /\ s81[n4.toNat]? = some b83 /\
 Calls prog 63 #[.int .u8 (b83.toNat : Int)] w fun e w8 =>
 ∃ b84 : Bool, e = .returned (.bool b84) /\
 Br (!b84) (
 Calls prog 64 #[.pointer p0, .int .i64 n4] w8 fun e w9 =>
 e = .returned (.tuple #[]) /\
 J1 (IntKind.i64.wrap (n4 + 1)) w9) (
 J1 (IntKind.i64.wrap (n4 + 1)) w8)) (
 F70_1 R p0 n3 ds w)
def F70_3 (R : Rt) (p0 : Option Addr) (n3 n4 : Int) (ds : Ds) (w : World) : Prop :=
 loopT (fun (J1 : (Int) -> World -> Prop) (s : Int) (w : World) => F70_2 R J1 p0 n3 s ds w) n4 w
abbrev F70_4 (R : Rt) (p0 : Option Addr) (n3 n4 : Int) (ds : Ds) (w : World) : Prop := F70_3 R p0 n3 n4 ds w
def F70_k6 (R : Rt) : EP := (fun E ds w => dPtr (E 0) fun p0 => dInt .i64 (E 3) fun n3 => dInt .i64 (E 4) fun n4 => F70_4 R p0 n3 n4 ds w)
def F70_5 (R : Rt) (p0 : Option Addr) (n3 : Int) (ds : Ds) (w : World) : Prop :=
 ptrE p0 fun a10 =>
 ∃ s51 : ByteArray, w.cell? a10 = some (.string s51) /\
 Br (decide (n3 ≥ (s51.size : Int))) (
 ptrE p0 fun a11 =>
 ∃ n67 : Int, w.cell? (a11.add 1) = some (.int .i64 n67) /\
 Calls prog 64 #[.pointer p0, .int .i64 n67] w fun e w12 =>
 e = .returned (.tuple #[]) /\
 runD prog ds w12 fun w13 =>
 R (.returned (.tuple #[])) w13) (
 ptrE p0 fun a14 =>
 ∃ s58 : ByteArray, w.cell? a14 = some (.string s58) /\
 ∃ b60 : UInt8, 0 ≤ n3 /\ s58[n3.toNat]? = some b60 /\
 Br ((b60.toNat : Int) == 10) (
 ptrE p0 fun a15 =>
 ∃ n67 : Int, w.cell? (a15.add 1) = some (.int .i64 n67) /\
 Calls prog 64 #[.pointer p0, .int .i64 n67] w fun e w16 =>
 e = .returned (.tuple #[]) /\
 runD prog ds w16 fun w17 =>
 R (.returned (.tuple #[])) w17) (
 ptrE p0 fun a18 =>
 ∃ n72 : Int, w.cell? (a18.add 1) = some (.int .i64 n72) /\
 F70_4 R p0 n3 n72 ds w))
def F70_k7 (R : Rt) : EP := (fun E ds w => dPtr (E 0) fun p0 => dInt .i64 (E 3) fun n3 => F70_5 R p0 n3 ds w)
def F70_q8 (R : Rt) : EQ := (thenQ (F70_k7 R) (F70_q1 R))
def F70_q9 (R : Rt) : EQ := (blockQ 0 (F70_q8 R))
def F70_q10 (R : Rt) (J1 : (Int) -> World -> Prop) : EQ := (thenQ (fun E _ w => dInt .i64 (E 3) fun n3 => J1 n3 w) (F70_q9 R))
def F70_6 (R : Rt) (J1 : (Int) -> World -> Prop) (p0 : Option Addr) (n2 n3 : Int) (ds : Ds) (w : World) : Prop :=
 ptrE p0 fun a19 =>
 ∃ s23 : ByteArray, w.cell? a19 = some (.string s23) /\
 Br (decide (n3 < (s23.size : Int))) (
 ptrE p0 fun a20 =>
 ∃ s30 : ByteArray, w.cell? a20 = some (.string s30) /\
 ∃ b32 : UInt8, 0 ≤ n3 /\ s30[n3.toNat]? = some b32 /\
 Br ((b32.toNat : Int) != 10) (
 ptrE p0 fun a21 =>
 ∃ s39 : ByteArray, w.cell? a21 = some (.string s39) /\
 ∃ b41 : UInt8, 0 ≤ n3 /\ s39[n3.toNat]? = some b41 /\
 Br ((b41.toNat : Int) != n2) (
 J1 (IntKind.i64.wrap (n3 + 1)) w) (
 F70_5 R p0 n3 ds w)) (
 F70_5 R p0 n3 ds w)) (
 F70_5 R p0 n3 ds w)
def F70_7 (R : Rt) (p0 : Option Addr) (n2 n3 : Int) (ds : Ds) (w : World) : Prop :=
 loopT (fun (J1 : (Int) -> World -> Prop) (s : Int) (w : World) => F70_6 R J1 p0 n2 s ds w) n3 w
abbrev F70_8 (R : Rt) (p0 : Option Addr) (n2 n3 : Int) (ds : Ds) (w : World) : Prop := F70_7 R p0 n2 n3 ds w
def F70_k11 (R : Rt) : EP := (fun E ds w => dPtr (E 0) fun p0 => dInt .u8 (E 2) fun n2 => dInt .i64 (E 3) fun n3 => F70_8 R p0 n2 n3 ds w)
def F70_9 (R : Rt) (p0 : Option Addr) (ds : Ds) (w : World) : Prop :=
 dwE w fun w22 =>
 ptrE p0 fun a23 =>
 ∃ s8 : ByteArray, w22.cell? a23 = some (.string s8) /\
 ptrE p0 fun a24 =>
 ∃ n12 : Int, w22.cell? (a24.add 1) = some (.int .i64 n12) /\
 ∃ b13 : UInt8, 0 ≤ n12 /\ s8[n12.toNat]? = some b13 /\
 ptrE p0 fun a25 =>
 ∃ n17 : Int, w22.cell? (a25.add 1) = some (.int .i64 n17) /\
 F70_8 R p0 (b13.toNat : Int) (IntKind.i64.wrap (n17 + 1)) ds w22
theorem c70_l : flat (bodyOf f70) = [c70_0, c70_1, c70_2, c70_3, c70_4, c70_5, c70_6, c70_7] := by kernel_rfl
theorem c70_6_l : flat (innerC c70_6) = [c70_6_0] := by kernel_rfl
theorem c70_6_0_l : flat (innerC c70_6_0) = [c70_6_0_0, c70_6_0_1, c70_6_0_2, c70_6_0_3] := by kernel_rfl
theorem c70_2_l : flat (innerC c70_2) = [c70_2_0] := by kernel_rfl
theorem c70_2_0_l : flat (innerC c70_2_0) = [c70_2_0_0, c70_2_0_1, c70_2_0_2] := by kernel_rfl
theorem F70_1_ok (R : Rt) (p0 : Option Addr) (n3 : Int) (ds : Ds) (w : World) (E : Env) (e0 : E 0 = .pointer p0) (e3 : E 3 = .int .i64 n3) (h : F70_1 R p0 n3 ds w) :
    TrL prog f70.ntmps [c70_7] (F70_q1 R) E ds w :=
  TrL_leaf (X := F70_1 R p0 n3 ds w) (setAll_cons e0 (setAll_cons e3 setAll_nil)) (by kernel_rfl) (by kernel_rfl) h
theorem F70_2_ok (R : Rt) (J1 : (Int) -> World -> Prop) (p0 : Option Addr) (n3 n4 : Int) (ds : Ds) (w : World) (E : Env) (e0 : E 0 = .pointer p0) (e3 : E 3 = .int .i64 n3) (e4 : E 4 = .int .i64 n4) (h : F70_2 R J1 p0 n3 n4 ds w) :
    TrL prog f70.ntmps [c70_6_0_0, c70_6_0_1, c70_6_0_2, c70_6_0_3] (F70_q5 R J1) E ds w :=
  TrL_leaf (X := F70_2 R J1 p0 n3 n4 ds w) (setAll_cons e0 (setAll_cons e3 (setAll_cons e4 setAll_nil))) (by kernel_rfl) (by kernel_rfl) h
theorem F70_3_ok (R : Rt) (p0 : Option Addr) (n3 n4 : Int) (ds : Ds) (w : World) (E : Env) (e0 : E 0 = .pointer p0) (e3 : E 3 = .int .i64 n3) (e4 : E 4 = .int .i64 n4) (h : F70_3 R p0 n3 n4 ds w) :
    TrL prog f70.ntmps [c70_6_0] (F70_q4 R) E ds w :=
  TrL_one (Tr_loop' (c := innerC c70_6_0) (σ := Int) (enc := (fun (s : Int) (E : Env) => E 4 = .int .i64 s)) (D := (fun E K => dInt .i64 (E 4) fun n4 => K n4)) (F := (fun (J1 : (Int) -> World -> Prop) (s : Int) (w : World) => F70_2 R J1 p0 n3 s ds w)) (s0 := n4) (by kernel_rfl) c70_6_0_l e4 (by kernel_rfl) (fun E K hD => by obtain ⟨n4, e4, hD⟩ := dInt_elim hD; exact ⟨n4, e4, hD⟩)
      (fun J1 s E' w' he ha hF => by
      have e4' := he
      exact F70_2_ok R J1 p0 n3 s ds w' E' ((ha 0 (by kernel_rfl)).trans e0) ((ha 3 (by kernel_rfl)).trans e3) e4' hF) h)
theorem F70_4_ok (R : Rt) (p0 : Option Addr) (n3 n4 : Int) (ds : Ds) (w : World) (E : Env) (e0 : E 0 = .pointer p0) (e3 : E 3 = .int .i64 n3) (e4 : E 4 = .int .i64 n4) (h : F70_4 R p0 n3 n4 ds w) :
    TrL prog f70.ntmps [c70_6, c70_7] (F70_q1 R) E ds w :=
  TrL_head (K := (F70_k2 R)) (Tr_block' (c := innerC c70_6) (by kernel_rfl) c70_6_l (F70_3_ok R p0 n3 n4 ds w E e0 e3 e4 h))
    (fun E' ds' w' hD => by
      obtain ⟨p0, e0, hD⟩ := dPtr_elim hD; obtain ⟨n3, e3, hD⟩ := dInt_elim hD; exact F70_1_ok R p0 n3 ds' w' E' e0 e3 hD)
theorem F70_5_ok (R : Rt) (p0 : Option Addr) (n3 : Int) (ds : Ds) (w : World) (E : Env) (e0 : E 0 = .pointer p0) (e3 : E 3 = .int .i64 n3) (h : F70_5 R p0 n3 ds w) :
    TrL prog f70.ntmps [c70_3, c70_4, c70_5, c70_6, c70_7] (F70_q1 R) E ds w :=
  TrL_piece (pre := [c70_3, c70_4, c70_5]) (K := (F70_k6 R)) (X := F70_5 R p0 n3 ds w) (setAll_cons e0 (setAll_cons e3 setAll_nil)) (by kernel_rfl) (by kernel_rfl)
    (fun E' ds' w' hD => by
      obtain ⟨p0, e0, hD⟩ := dPtr_elim hD; obtain ⟨n3, e3, hD⟩ := dInt_elim hD; obtain ⟨n4, e4, hD⟩ := dInt_elim hD; exact F70_4_ok R p0 n3 n4 ds' w' E' e0 e3 e4 hD) h
theorem F70_6_ok (R : Rt) (J1 : (Int) -> World -> Prop) (p0 : Option Addr) (n2 n3 : Int) (ds : Ds) (w : World) (E : Env) (e0 : E 0 = .pointer p0) (e2 : E 2 = .int .u8 n2) (e3 : E 3 = .int .i64 n3) (h : F70_6 R J1 p0 n2 n3 ds w) :
    TrL prog f70.ntmps [c70_2_0_0, c70_2_0_1, c70_2_0_2] (F70_q10 R J1) E ds w :=
  TrL_leaf (X := F70_6 R J1 p0 n2 n3 ds w) (setAll_cons e0 (setAll_cons e2 (setAll_cons e3 setAll_nil))) (by kernel_rfl) (by kernel_rfl) h
theorem F70_7_ok (R : Rt) (p0 : Option Addr) (n2 n3 : Int) (ds : Ds) (w : World) (E : Env) (e0 : E 0 = .pointer p0) (e2 : E 2 = .int .u8 n2) (e3 : E 3 = .int .i64 n3) (h : F70_7 R p0 n2 n3 ds w) :
    TrL prog f70.ntmps [c70_2_0] (F70_q9 R) E ds w :=
  TrL_one (Tr_loop' (c := innerC c70_2_0) (σ := Int) (enc := (fun (s : Int) (E : Env) => E 3 = .int .i64 s)) (D := (fun E K => dInt .i64 (E 3) fun n3 => K n3)) (F := (fun (J1 : (Int) -> World -> Prop) (s : Int) (w : World) => F70_6 R J1 p0 n2 s ds w)) (s0 := n3) (by kernel_rfl) c70_2_0_l e3 (by kernel_rfl) (fun E K hD => by obtain ⟨n3, e3, hD⟩ := dInt_elim hD; exact ⟨n3, e3, hD⟩)
      (fun J1 s E' w' he ha hF => by
      have e3' := he
      exact F70_6_ok R J1 p0 n2 s ds w' E' ((ha 0 (by kernel_rfl)).trans e0) ((ha 2 (by kernel_rfl)).trans e2) e3' hF) h)
theorem F70_8_ok (R : Rt) (p0 : Option Addr) (n2 n3 : Int) (ds : Ds) (w : World) (E : Env) (e0 : E 0 = .pointer p0) (e2 : E 2 = .int .u8 n2) (e3 : E 3 = .int .i64 n3) (h : F70_8 R p0 n2 n3 ds w) :
    TrL prog f70.ntmps [c70_2, c70_3, c70_4, c70_5, c70_6, c70_7] (F70_q1 R) E ds w :=
  TrL_head (K := (F70_k7 R)) (Tr_block' (c := innerC c70_2) (by kernel_rfl) c70_2_l (F70_7_ok R p0 n2 n3 ds w E e0 e2 e3 h))
    (fun E' ds' w' hD => by
      obtain ⟨p0, e0, hD⟩ := dPtr_elim hD; obtain ⟨n3, e3, hD⟩ := dInt_elim hD; exact F70_5_ok R p0 n3 ds' w' E' e0 e3 hD)
theorem F70_9_ok (R : Rt) (p0 : Option Addr) (ds : Ds) (w : World) (E : Env) (e0 : E 0 = .pointer p0) (h : F70_9 R p0 ds w) :
    TrL prog f70.ntmps [c70_0, c70_1, c70_2, c70_3, c70_4, c70_5, c70_6, c70_7] (F70_q1 R) E ds w :=
  TrL_piece (pre := [c70_0, c70_1]) (K := (F70_k11 R)) (X := F70_9 R p0 ds w) (setAll_cons e0 setAll_nil) (by kernel_rfl) (by kernel_rfl)
    (fun E' ds' w' hD => by
      obtain ⟨p0, e0, hD⟩ := dPtr_elim hD; obtain ⟨n2, e2, hD⟩ := dInt_elim hD; obtain ⟨n3, e3, hD⟩ := dInt_elim hD; exact F70_8_ok R p0 n2 n3 ds' w' E' e0 e2 e3 hD) h
theorem F70_calls (p0 : Option Addr) (w : World) (R : Rt) (h : F70_9 R p0 [] w) : Calls prog 70 #[.pointer p0] w R :=
  calls_of_L (l := [c70_0, c70_1, c70_2, c70_3, c70_4, c70_5, c70_6, c70_7]) func70 (by kernel_rfl) (by rw [ntmps70]; exact Nat.le_of_ble_eq_true (by kernel_rfl)) c70_l
    (F70_9_ok R p0 [] w _ rfl h)
noncomputable def c71_0 := cI7 f71 0
noncomputable def c71_1 := cI7 f71 1
noncomputable def c71_2 := cI7 f71 2
noncomputable def c71_3 := cI7 f71 3
noncomputable def c71_4 := cI7 f71 4
noncomputable def c71_5 := cI7 f71 5
noncomputable def c71_6 := cI7 f71 6
noncomputable def c71_7 := cI7 f71 7
noncomputable def c71_8 := cI7 f71 8
noncomputable def c71_9 := cI7 f71 9
noncomputable def c71_10 := cI7 f71 10
def F71_q1 (R : Rt) : EQ := endQ prog f71.results.toList R
def F71_1 (R : Rt) (s0 : ByteArray) (n1 : Int) (b55 : Bool) (ds : Ds) (w : World) : Prop :=
 Br b55 (
 runD prog ds w fun w1 =>
 R (.returned (.tuple #[.string (⟨#[]⟩ : ByteArray), .int .i64 0])) w1) (
 dwE w fun w2 =>
 0 ≤ (IntKind.i64.wrap (n1 + 6)) /\ (IntKind.i64.wrap (n1 + 6)).toNat ≤ s0.size /\ 0 ≤ (IntKind.i64.wrap (n1 + 2)) /\ (IntKind.i64.wrap (n1 + 2)).toNat ≤ (IntKind.i64.wrap (n1 + 6)).toNat /\
 0 ≤ (IntKind.i64.wrap (n1 + 9)) /\ (IntKind.i64.wrap (n1 + 9)).toNat ≤ s0.size /\ 0 ≤ (IntKind.i64.wrap (n1 + 7)) /\ (IntKind.i64.wrap (n1 + 7)).toNat ≤ (IntKind.i64.wrap (n1 + 9)).toNat /\
 (((s0.extract ((IntKind.i64.wrap (n1 + 2)).toNat) ((IntKind.i64.wrap (n1 + 6)).toNat)).size + (s0.extract ((IntKind.i64.wrap (n1 + 7)).toNat) ((IntKind.i64.wrap (n1 + 9)).toNat)).size : Nat) : Int) ≤ 9223372036854775807 /\
 0 ≤ (IntKind.i64.wrap (n1 + 12)) /\ (IntKind.i64.wrap (n1 + 12)).toNat ≤ s0.size /\ 0 ≤ (IntKind.i64.wrap (n1 + 10)) /\ (IntKind.i64.wrap (n1 + 10)).toNat ≤ (IntKind.i64.wrap (n1 + 12)).toNat /\
 ((((s0.extract ((IntKind.i64.wrap (n1 + 2)).toNat) ((IntKind.i64.wrap (n1 + 6)).toNat)) ++ (s0.extract ((IntKind.i64.wrap (n1 + 7)).toNat) ((IntKind.i64.wrap (n1 + 9)).toNat))).size + (s0.extract ((IntKind.i64.wrap (n1 + 10)).toNat) ((IntKind.i64.wrap (n1 + 12)).toNat)).size : Nat) : Int) ≤ 9223372036854775807 /\
 Calls prog 86 #[.string (((s0.extract ((IntKind.i64.wrap (n1 + 2)).toNat) ((IntKind.i64.wrap (n1 + 6)).toNat)) ++ (s0.extract ((IntKind.i64.wrap (n1 + 7)).toNat) ((IntKind.i64.wrap (n1 + 9)).toNat))) ++ (s0.extract ((IntKind.i64.wrap (n1 + 10)).toNat) ((IntKind.i64.wrap (n1 + 12)).toNat)))] w2 fun e w3 =>
 ∃ n78_0 : Int, ∃ b78_1 : Bool, e = .returned (.tuple #[.int .i64 n78_0, .bool b78_1]) /\
 Br (!b78_1) (
 runD prog ds w3 fun w4 =>
 R (.returned (.tuple #[.string (⟨#[]⟩ : ByteArray), .int .i64 0])) w4) (
 ∃ b85 : UInt8, 0 ≤ (0 : Int) /\ (((s0.extract ((IntKind.i64.wrap (n1 + 2)).toNat) ((IntKind.i64.wrap (n1 + 6)).toNat)) ++ (s0.extract ((IntKind.i64.wrap (n1 + 7)).toNat) ((IntKind.i64.wrap (n1 + 9)).toNat))) ++ (s0.extract ((IntKind.i64.wrap (n1 + 10)).toNat) ((IntKind.i64.wrap (n1 + 12)).toNat)))[(0 : Int).toNat]? = some b85 /\
 Br ((b85.toNat : Int) == 32) (
 runD prog ds w3 fun w5 =>
 R (.returned (.tuple #[.string (⟨#[]⟩ : ByteArray), .int .i64 0])) w5) (
 runD prog ds w3 fun w6 =>
 R (.returned (.tuple #[.string (((s0.extract ((IntKind.i64.wrap (n1 + 2)).toNat) ((IntKind.i64.wrap (n1 + 6)).toNat)) ++ (s0.extract ((IntKind.i64.wrap (n1 + 7)).toNat) ((IntKind.i64.wrap (n1 + 9)).toNat))) ++ (s0.extract ((IntKind.i64.wrap (n1 + 10)).toNat) ((IntKind.i64.wrap (n1 + 12)).toNat))), .int .i64 13])) w6)))
def F71_k2 (R : Rt) : EP := (fun E ds w => dStr (E 0) fun s0 => dInt .i64 (E 1) fun n1 => dBl (E 55) fun b55 => F71_1 R s0 n1 b55 ds w)
def F71_2 (R : Rt) (s0 : ByteArray) (n1 : Int) (ds : Ds) (w : World) : Prop :=
 Br (decide ((IntKind.i64.wrap (n1 + 13)) > (s0.size : Int))) (
 F71_1 R s0 n1 true ds w) (
 0 ≤ (IntKind.i64.wrap (n1 + 2)) /\ (IntKind.i64.wrap (n1 + 2)).toNat ≤ s0.size /\ 0 ≤ n1 /\ n1.toNat ≤ (IntKind.i64.wrap (n1 + 2)).toNat /\
 Br (!((s0.extract n1.toNat ((IntKind.i64.wrap (n1 + 2)).toNat)).toList == (⟨#[123, 94]⟩ : ByteArray).toList)) (
 F71_1 R s0 n1 true ds w) (
 ∃ b39 : UInt8, 0 ≤ (IntKind.i64.wrap (n1 + 6)) /\ s0[(IntKind.i64.wrap (n1 + 6)).toNat]? = some b39 /\
 Br ((b39.toNat : Int) != 45) (
 F71_1 R s0 n1 true ds w) (
 ∃ b46 : UInt8, 0 ≤ (IntKind.i64.wrap (n1 + 9)) /\ s0[(IntKind.i64.wrap (n1 + 9)).toNat]? = some b46 /\
 Br ((b46.toNat : Int) != 45) (
 F71_1 R s0 n1 true ds w) (
 ∃ b53 : UInt8, 0 ≤ (IntKind.i64.wrap (n1 + 12)) /\ s0[(IntKind.i64.wrap (n1 + 12)).toNat]? = some b53 /\
 F71_1 R s0 n1 ((b53.toNat : Int) != 125) ds w))))
def F71_k3 (R : Rt) : EP := (fun E ds w => dStr (E 0) fun s0 => dInt .i64 (E 1) fun n1 => F71_2 R s0 n1 ds w)
def F71_3 (R : Rt) (s0 : ByteArray) (n1 : Int) (ds : Ds) (w : World) : Prop :=
 Br (decide ((IntKind.i64.wrap (n1 + 1)) < (s0.size : Int))) (
 0 ≤ (IntKind.i64.wrap (n1 + 2)) /\ (IntKind.i64.wrap (n1 + 2)).toNat ≤ s0.size /\ 0 ≤ n1 /\ n1.toNat ≤ (IntKind.i64.wrap (n1 + 2)).toNat /\
 Br ((s0.extract n1.toNat ((IntKind.i64.wrap (n1 + 2)).toNat)).toList == (⟨#[123, 125]⟩ : ByteArray).toList) (
 runD prog ds w fun w7 =>
 R (.returned (.tuple #[.string (⟨#[]⟩ : ByteArray), .int .i64 2])) w7) (
 F71_2 R s0 n1 ds w)) (
 F71_2 R s0 n1 ds w)
theorem c71_l : flat (bodyOf f71) = [c71_0, c71_1, c71_2, c71_3, c71_4, c71_5, c71_6, c71_7, c71_8, c71_9, c71_10] := by kernel_rfl
theorem F71_1_ok (R : Rt) (s0 : ByteArray) (n1 : Int) (b55 : Bool) (ds : Ds) (w : World) (E : Env) (e0 : E 0 = .string s0) (e1 : E 1 = .int .i64 n1) (e55 : E 55 = .bool b55) (h : F71_1 R s0 n1 b55 ds w) :
    TrL prog f71.ntmps [c71_4, c71_5, c71_6, c71_7, c71_8, c71_9, c71_10] (F71_q1 R) E ds w :=
  TrL_leaf (X := F71_1 R s0 n1 b55 ds w) (setAll_cons e0 (setAll_cons e1 (setAll_cons e55 setAll_nil))) (by kernel_rfl) (by kernel_rfl) h
theorem F71_2_ok (R : Rt) (s0 : ByteArray) (n1 : Int) (ds : Ds) (w : World) (E : Env) (e0 : E 0 = .string s0) (e1 : E 1 = .int .i64 n1) (h : F71_2 R s0 n1 ds w) :
    TrL prog f71.ntmps [c71_3, c71_4, c71_5, c71_6, c71_7, c71_8, c71_9, c71_10] (F71_q1 R) E ds w :=
  TrL_piece (pre := [c71_3]) (K := (F71_k2 R)) (X := F71_2 R s0 n1 ds w) (setAll_cons e0 (setAll_cons e1 setAll_nil)) (by kernel_rfl) (by kernel_rfl)
    (fun E' ds' w' hD => by
      obtain ⟨s0, e0, hD⟩ := dStr_elim hD; obtain ⟨n1, e1, hD⟩ := dInt_elim hD; obtain ⟨b55, e55, hD⟩ := dBl_elim hD; exact F71_1_ok R s0 n1 b55 ds' w' E' e0 e1 e55 hD) h
theorem F71_3_ok (R : Rt) (s0 : ByteArray) (n1 : Int) (ds : Ds) (w : World) (E : Env) (e0 : E 0 = .string s0) (e1 : E 1 = .int .i64 n1) (h : F71_3 R s0 n1 ds w) :
    TrL prog f71.ntmps [c71_0, c71_1, c71_2, c71_3, c71_4, c71_5, c71_6, c71_7, c71_8, c71_9, c71_10] (F71_q1 R) E ds w :=
  TrL_piece (pre := [c71_0, c71_1, c71_2]) (K := (F71_k3 R)) (X := F71_3 R s0 n1 ds w) (setAll_cons e0 (setAll_cons e1 setAll_nil)) (by kernel_rfl) (by kernel_rfl)
    (fun E' ds' w' hD => by
      obtain ⟨s0, e0, hD⟩ := dStr_elim hD; obtain ⟨n1, e1, hD⟩ := dInt_elim hD; exact F71_2_ok R s0 n1 ds' w' E' e0 e1 hD) h
theorem F71_calls (s0 : ByteArray) (n1 : Int) (w : World) (R : Rt) (h : F71_3 R s0 n1 [] w) : Calls prog 71 #[.string s0, .int .i64 n1] w R :=
  calls_of_L (l := [c71_0, c71_1, c71_2, c71_3, c71_4, c71_5, c71_6, c71_7, c71_8, c71_9, c71_10]) func71 (by kernel_rfl) (by rw [ntmps71]; exact Nat.le_of_ble_eq_true (by kernel_rfl)) c71_l
    (F71_3_ok R s0 n1 [] w _ rfl rfl h)
noncomputable def c72_0 := cI7 f72 0
noncomputable def c72_1 := cI7 f72 1
noncomputable def c72_2 := cI7 f72 2
noncomputable def c72_3 := cI7 f72 3
noncomputable def c72_4 := cI7 f72 4
noncomputable def c72_5 := cI7 f72 5
noncomputable def c72_3_0 := cJ7 c72_3 0
noncomputable def c72_3_0_0 := cJ7 c72_3_0 0
noncomputable def c72_3_0_1 := cJ7 c72_3_0 1
noncomputable def c72_3_0_2 := cJ7 c72_3_0 2
noncomputable def c72_3_0_3 := cJ7 c72_3_0 3
def F72_q1 (R : Rt) : EQ := endQ prog f72.results.toList R
def F72_1 (R : Rt) (ds : Ds) (w : World) : Prop :=
 runD prog ds w fun w1 =>
 R (.returned (.string (⟨#[]⟩ : ByteArray))) w1
def F72_k2 (R : Rt) : EP := (fun E ds w => F72_1 R ds w)
def F72_q3 (R : Rt) : EQ := (thenQ (F72_k2 R) (F72_q1 R))
def F72_q4 (R : Rt) : EQ := (blockQ 0 (F72_q3 R))
def F72_q5 (R : Rt) (J1 : (Int) -> World -> Prop) : EQ := (thenQ (fun E _ w => dInt .i64 (E 6) fun n6 => J1 n6 w) (F72_q4 R))
def F72_2 (R : Rt) (J1 : (Int) -> World -> Prop) (s0 : ByteArray) (n1 : Int) (l5 : SV) (n6 : Int) (ds : Ds) (w : World) : Prop :=
 Br (decide (n6 < (l5.len : Int))) (
 ∃ a2 : Addr, l5.a = some a2 /\ 0 ≤ n6 /\ n6 < (l5.len : Int) /\
 ∃ s19 : ByteArray, w.cell? (a2.add (n6.toNat * 1)) = some (.string s19) /\
 dwE w fun w3 =>
 ∃ S1 : World -> Prop, S1 w3 /\
 Br (decide ((IntKind.i64.wrap (n1 + (s19.size : Int))) ≤ (s0.size : Int))) (
 0 ≤ (IntKind.i64.wrap (n1 + (s19.size : Int))) /\ (IntKind.i64.wrap (n1 + (s19.size : Int))).toNat ≤ s0.size /\ 0 ≤ n1 /\ n1.toNat ≤ (IntKind.i64.wrap (n1 + (s19.size : Int))).toNat /\
 ∃ a4 : Addr, l5.a = some a4 /\ 0 ≤ n6 /\ n6 < (l5.len : Int) /\
 ∃ s35 : ByteArray, (∀ w', S1 w' -> w'.cell? (a4.add (n6.toNat * 1)) = some (.string s35)) /\
 Calls prog 68 #[.string (s0.extract n1.toNat ((IntKind.i64.wrap (n1 + (s19.size : Int))).toNat))] w3 fun e w5 =>
 ∃ s31 : ByteArray, e = .returned (.string s31) /\
 S1 w5 /\
 Br (s31.toList == s35.toList) (
 ∃ a6 : Addr, l5.a = some a6 /\ 0 ≤ n6 /\ n6 < (l5.len : Int) /\
 ∃ s41 : ByteArray, w5.cell? (a6.add (n6.toNat * 1)) = some (.string s41) /\
 runD prog ds w5 fun w7 =>
 R (.returned (.string s41)) w7) (
 J1 (IntKind.i64.wrap (n6 + 1)) w5)) (
 J1 (IntKind.i64.wrap (n6 + 1)) w3)) (
 F72_1 R ds w)
def F72_3 (R : Rt) (s0 : ByteArray) (n1 : Int) (l5 : SV) (n6 : Int) (ds : Ds) (w : World) : Prop :=
 loopT (fun (J1 : (Int) -> World -> Prop) (s : Int) (w : World) => F72_2 R J1 s0 n1 l5 s ds w) n6 w
abbrev F72_4 (R : Rt) (s0 : ByteArray) (n1 : Int) (l5 : SV) (n6 : Int) (ds : Ds) (w : World) : Prop := F72_3 R s0 n1 l5 n6 ds w
def F72_k6 (R : Rt) : EP := (fun E ds w => dStr (E 0) fun s0 => dInt .i64 (E 1) fun n1 => dSl (E 5) fun l5 => dInt .i64 (E 6) fun n6 => F72_4 R s0 n1 l5 n6 ds w)
def F72_5 (R : Rt) (s0 : ByteArray) (n1 : Int) (ds : Ds) (w : World) : Prop :=
 Calls prog 87 #[] w fun e w8 =>
 ∃ l8 : SV, e = .returned (.slice l8.a l8.len l8.cap) /\
 F72_4 R s0 n1 l8 0 ds w8
theorem c72_l : flat (bodyOf f72) = [c72_0, c72_1, c72_2, c72_3, c72_4, c72_5] := by kernel_rfl
theorem c72_3_l : flat (innerC c72_3) = [c72_3_0] := by kernel_rfl
theorem c72_3_0_l : flat (innerC c72_3_0) = [c72_3_0_0, c72_3_0_1, c72_3_0_2, c72_3_0_3] := by kernel_rfl
theorem F72_1_ok (R : Rt) (ds : Ds) (w : World) (E : Env) (h : F72_1 R ds w) :
    TrL prog f72.ntmps [c72_4, c72_5] (F72_q1 R) E ds w :=
  TrL_leaf (X := F72_1 R ds w) setAll_nil (by kernel_rfl) (by kernel_rfl) h
theorem F72_2_ok (R : Rt) (J1 : (Int) -> World -> Prop) (s0 : ByteArray) (n1 : Int) (l5 : SV) (n6 : Int) (ds : Ds) (w : World) (E : Env) (e0 : E 0 = .string s0) (e1 : E 1 = .int .i64 n1) (e5 : E 5 = .slice l5.a l5.len l5.cap) (e6 : E 6 = .int .i64 n6) (h : F72_2 R J1 s0 n1 l5 n6 ds w) :
    TrL prog f72.ntmps [c72_3_0_0, c72_3_0_1, c72_3_0_2, c72_3_0_3] (F72_q5 R J1) E ds w :=
  TrL_leaf (X := F72_2 R J1 s0 n1 l5 n6 ds w) (setAll_cons e0 (setAll_cons e1 (setAll_cons e5 (setAll_cons e6 setAll_nil)))) (by kernel_rfl) (by kernel_rfl) h
theorem F72_3_ok (R : Rt) (s0 : ByteArray) (n1 : Int) (l5 : SV) (n6 : Int) (ds : Ds) (w : World) (E : Env) (e0 : E 0 = .string s0) (e1 : E 1 = .int .i64 n1) (e5 : E 5 = .slice l5.a l5.len l5.cap) (e6 : E 6 = .int .i64 n6) (h : F72_3 R s0 n1 l5 n6 ds w) :
    TrL prog f72.ntmps [c72_3_0] (F72_q4 R) E ds w :=
  TrL_one (Tr_loop' (c := innerC c72_3_0) (σ := Int) (enc := (fun (s : Int) (E : Env) => E 6 = .int .i64 s)) (D := (fun E K => dInt .i64 (E 6) fun n6 => K n6)) (F := (fun (J1 : (Int) -> World -> Prop) (s : Int) (w : World) => F72_2 R J1 s0 n1 l5 s ds w)) (s0 := n6) (by kernel_rfl) c72_3_0_l e6 (by kernel_rfl) (fun E K hD => by obtain ⟨n6, e6, hD⟩ := dInt_elim hD; exact ⟨n6, e6, hD⟩)
      (fun J1 s E' w' he ha hF => by
      have e6' := he
      exact F72_2_ok R J1 s0 n1 l5 s ds w' E' ((ha 0 (by kernel_rfl)).trans e0) ((ha 1 (by kernel_rfl)).trans e1) ((ha 5 (by kernel_rfl)).trans e5) e6' hF) h)
theorem F72_4_ok (R : Rt) (s0 : ByteArray) (n1 : Int) (l5 : SV) (n6 : Int) (ds : Ds) (w : World) (E : Env) (e0 : E 0 = .string s0) (e1 : E 1 = .int .i64 n1) (e5 : E 5 = .slice l5.a l5.len l5.cap) (e6 : E 6 = .int .i64 n6) (h : F72_4 R s0 n1 l5 n6 ds w) :
    TrL prog f72.ntmps [c72_3, c72_4, c72_5] (F72_q1 R) E ds w :=
  TrL_head (K := (F72_k2 R)) (Tr_block' (c := innerC c72_3) (by kernel_rfl) c72_3_l (F72_3_ok R s0 n1 l5 n6 ds w E e0 e1 e5 e6 h))
    (fun E' ds' w' hD => by
      exact F72_1_ok R ds' w' E'  hD)
theorem F72_5_ok (R : Rt) (s0 : ByteArray) (n1 : Int) (ds : Ds) (w : World) (E : Env) (e0 : E 0 = .string s0) (e1 : E 1 = .int .i64 n1) (h : F72_5 R s0 n1 ds w) :
    TrL prog f72.ntmps [c72_0, c72_1, c72_2, c72_3, c72_4, c72_5] (F72_q1 R) E ds w :=
  TrL_piece (pre := [c72_0, c72_1, c72_2]) (K := (F72_k6 R)) (X := F72_5 R s0 n1 ds w) (setAll_cons e0 (setAll_cons e1 setAll_nil)) (by kernel_rfl) (by kernel_rfl)
    (fun E' ds' w' hD => by
      obtain ⟨s0, e0, hD⟩ := dStr_elim hD; obtain ⟨n1, e1, hD⟩ := dInt_elim hD; obtain ⟨l5, e5, hD⟩ := dSl_elim hD; obtain ⟨n6, e6, hD⟩ := dInt_elim hD; exact F72_4_ok R s0 n1 l5 n6 ds' w' E' e0 e1 e5 e6 hD) h
theorem F72_calls (s0 : ByteArray) (n1 : Int) (w : World) (R : Rt) (h : F72_5 R s0 n1 [] w) : Calls prog 72 #[.string s0, .int .i64 n1] w R :=
  calls_of_L (l := [c72_0, c72_1, c72_2, c72_3, c72_4, c72_5]) func72 (by kernel_rfl) (by rw [ntmps72]; exact Nat.le_of_ble_eq_true (by kernel_rfl)) c72_l
    (F72_5_ok R s0 n1 [] w _ rfl rfl h)
noncomputable def c87_0 := cI7 f87 0
noncomputable def c87_1 := cI7 f87 1
noncomputable def c87_2 := cI7 f87 2
def F87_q1 (R : Rt) : EQ := endQ prog f87.results.toList R
def F87_1 (R : Rt) (ds : Ds) (w : World) : Prop :=
 alE (.cells #[.string (⟨#[46, 78, 85, 76, 76, 46]⟩ : ByteArray), .string (⟨#[46, 65, 78, 68, 46]⟩ : ByteArray), .string (⟨#[46, 78, 79, 84, 46]⟩ : ByteArray), .string (⟨#[46, 79, 82, 46]⟩ : ByteArray), .string (⟨#[46, 84, 46]⟩ : ByteArray), .string (⟨#[46, 70, 46]⟩ : ByteArray), .string (⟨#[58, 61]⟩ : ByteArray), .string (⟨#[61, 61]⟩ : ByteArray), .string (⟨#[60, 62]⟩ : ByteArray), .string (⟨#[33, 61]⟩ : ByteArray), .string (⟨#[60, 61]⟩ : ByteArray), .string (⟨#[62, 61]⟩ : ByteArray), .string (⟨#[45, 62]⟩ : ByteArray), .string (⟨#[40]⟩ : ByteArray), .string (⟨#[41]⟩ : ByteArray), .string (⟨#[91]⟩ : ByteArray), .string (⟨#[93]⟩ : ByteArray), .string (⟨#[123]⟩ : ByteArray), .string (⟨#[125]⟩ : ByteArray), .string (⟨#[44]⟩ : ByteArray), .string (⟨#[124]⟩ : ByteArray), .string (⟨#[58]⟩ : ByteArray), .string (⟨#[46]⟩ : ByteArray), .string (⟨#[61]⟩ : ByteArray), .string (⟨#[35]⟩ : ByteArray), .string (⟨#[60]⟩ : ByteArray), .string (⟨#[62]⟩ : ByteArray), .string (⟨#[43]⟩ : ByteArray), .string (⟨#[45]⟩ : ByteArray), .string (⟨#[42]⟩ : ByteArray), .string (⟨#[47]⟩ : ByteArray), .string (⟨#[37]⟩ : ByteArray), .string (⟨#[94]⟩ : ByteArray), .string (⟨#[36]⟩ : ByteArray), .string (⟨#[38]⟩ : ByteArray), .string (⟨#[63]⟩ : ByteArray), .string (⟨#[64]⟩ : ByteArray), .string (⟨#[33]⟩ : ByteArray)] 9) w fun r1 w1 =>
 runD prog ds w1 fun w2 =>
 R (.returned (.slice (some ⟨r1, 0, none⟩) 38 38)) w2
theorem c87_l : flat (bodyOf f87) = [c87_0, c87_1, c87_2] := by kernel_rfl
theorem F87_1_ok (R : Rt) (ds : Ds) (w : World) (E : Env) (h : F87_1 R ds w) :
    TrL prog f87.ntmps [c87_0, c87_1, c87_2] (F87_q1 R) E ds w :=
  TrL_leaf (X := F87_1 R ds w) setAll_nil (by kernel_rfl) (by kernel_rfl) h
theorem F87_calls  (w : World) (R : Rt) (h : F87_1 R [] w) : Calls prog 87 #[] w R :=
  calls_of_L (l := [c87_0, c87_1, c87_2]) func87 (by kernel_rfl) (by rw [ntmps87]; exact Nat.le_of_ble_eq_true (by kernel_rfl)) c87_l
    (F87_1_ok R [] w _  h)
noncomputable def c45_0 := cI7 f45 0
noncomputable def c45_1 := cI7 f45 1
def F45_q1 (R : Rt) : EQ := endQ prog f45.results.toList R
def F45_1 (R : Rt) (p0 : Option Addr) (ds : Ds) (w : World) : Prop :=
 dwE w fun w1 =>
 ptrE p0 fun a2 =>
 ∃ s11 : ByteArray, w1.cell? a2 = some (.string s11) /\
 ptrE p0 fun a3 =>
 ∃ n15 : Int, w1.cell? (a3.add 1) = some (.int .i64 n15) /\
 ∃ b16 : UInt8, 0 ≤ n15 /\ s11[n15.toNat]? = some b16 /\
 Calls prog 65 #[.int .u8 (b16.toNat : Int)] w1 fun e w4 =>
 ∃ b59 : Bool, e = .returned (.bool b59) /\
 Br b59 (
 Calls prog 66 #[.pointer p0, .bool true] w4 fun e w5 =>
 ∃ n61 : Int, e = .returned (.int .i64 n61) /\
 Br (decide (n61 > 24)) (
 ptrE p0 fun a6 =>
 ∃ n68 : Int, w5.cell? (a6.add 1) = some (.int .i64 n68) /\
 Calls prog 64 #[.pointer p0, .int .i64 n68] w5 fun e w7 =>
 e = .returned (.tuple #[]) /\
 runD prog ds w7 fun w8 =>
 R (.returned (.tuple #[])) w8) (
 dwE w5 fun w9 =>
 ptrE p0 fun a10 =>
 ∃ s74 : ByteArray, w9.cell? a10 = some (.string s74) /\
 ptrE p0 fun a11 =>
 ∃ n78 : Int, w9.cell? (a11.add 1) = some (.int .i64 n78) /\
 ptrE p0 fun a12 =>
 ∃ n82 : Int, w9.cell? (a12.add 1) = some (.int .i64 n82) /\
 0 ≤ (IntKind.i64.wrap (n82 + n61)) /\ (IntKind.i64.wrap (n82 + n61)).toNat ≤ s74.size /\ 0 ≤ n78 /\ n78.toNat ≤ (IntKind.i64.wrap (n82 + n61)).toNat /\
 Calls prog 68 #[.string (s74.extract n78.toNat ((IntKind.i64.wrap (n82 + n61)).toNat))] w9 fun e w13 =>
 ∃ s86 : ByteArray, e = .returned (.string s86) /\
 Calls prog 67 #[.pointer p0, .int .i64 0, .string s86, .int .i64 n61] w13 fun e w14 =>
 e = .returned (.tuple #[]) /\
 runD prog ds w14 fun w15 =>
 R (.returned (.tuple #[])) w15)) (
 Calls prog 69 #[.int .u8 (b16.toNat : Int)] w4 fun e w16 =>
 ∃ b91 : Bool, e = .returned (.bool b91) /\
 Br b91 (
 Calls prog 66 #[.pointer p0, .bool false] w16 fun e w17 =>
 ∃ n93 : Int, e = .returned (.int .i64 n93) /\
 Br (decide (n93 > 15)) (
 ptrE p0 fun a18 =>
 ∃ n100 : Int, w17.cell? (a18.add 1) = some (.int .i64 n100) /\
 Calls prog 64 #[.pointer p0, .int .i64 n100] w17 fun e w19 =>
 e = .returned (.tuple #[]) /\
 runD prog ds w19 fun w20 =>
 R (.returned (.tuple #[])) w20) (
 dwE w17 fun w21 =>
 ptrE p0 fun a22 =>
 ∃ s106 : ByteArray, w21.cell? a22 = some (.string s106) /\
 ptrE p0 fun a23 =>
 ∃ n110 : Int, w21.cell? (a23.add 1) = some (.int .i64 n110) /\
 ptrE p0 fun a24 =>
 ∃ n114 : Int, w21.cell? (a24.add 1) = some (.int .i64 n114) /\
 0 ≤ (IntKind.i64.wrap (n114 + n93)) /\ (IntKind.i64.wrap (n114 + n93)).toNat ≤ s106.size /\ 0 ≤ n110 /\ n110.toNat ≤ (IntKind.i64.wrap (n114 + n93)).toNat /\
 Calls prog 67 #[.pointer p0, .int .i64 1, .string (s106.extract n110.toNat ((IntKind.i64.wrap (n114 + n93)).toNat)), .int .i64 n93] w21 fun e w25 =>
 e = .returned (.tuple #[]) /\
 runD prog ds w25 fun w26 =>
 R (.returned (.tuple #[])) w26)) (
 Br ((b16.toNat : Int) == 34) (
 Calls prog 70 #[.pointer p0] w16 fun e w27 =>
 e = .returned (.tuple #[]) /\
 runD prog ds w27 fun w28 =>
 R (.returned (.tuple #[])) w28) (
 Br ((b16.toNat : Int) == 39) (
 Calls prog 70 #[.pointer p0] w16 fun e w29 =>
 e = .returned (.tuple #[]) /\
 runD prog ds w29 fun w30 =>
 R (.returned (.tuple #[])) w30) (
 dwE w16 fun w31 =>
 ptrE p0 fun a32 =>
 ∃ s21 : ByteArray, w31.cell? a32 = some (.string s21) /\
 ptrE p0 fun a33 =>
 ∃ n25 : Int, w31.cell? (a33.add 1) = some (.int .i64 n25) /\
 Calls prog 71 #[.string s21, .int .i64 n25] w31 fun e w34 =>
 ∃ s26_0 : ByteArray, ∃ n26_1 : Int, e = .returned (.tuple #[.string s26_0, .int .i64 n26_1]) /\
 Br (decide (n26_1 > 0)) (
 Calls prog 67 #[.pointer p0, .int .i64 3, .string s26_0, .int .i64 n26_1] w34 fun e w35 =>
 e = .returned (.tuple #[]) /\
 runD prog ds w35 fun w36 =>
 R (.returned (.tuple #[])) w36) (
 dwE w34 fun w37 =>
 ptrE p0 fun a38 =>
 ∃ s38 : ByteArray, w37.cell? a38 = some (.string s38) /\
 ptrE p0 fun a39 =>
 ∃ n42 : Int, w37.cell? (a39.add 1) = some (.int .i64 n42) /\
 Calls prog 72 #[.string s38, .int .i64 n42] w37 fun e w40 =>
 ∃ s43 : ByteArray, e = .returned (.string s43) /\
 Br (s43.toList == (⟨#[]⟩ : ByteArray).toList) (
 ptrE p0 fun a41 =>
 ∃ n50 : Int, w40.cell? (a41.add 1) = some (.int .i64 n50) /\
 Calls prog 64 #[.pointer p0, .int .i64 n50] w40 fun e w42 =>
 e = .returned (.tuple #[]) /\
 runD prog ds w42 fun w43 =>
 R (.returned (.tuple #[])) w43) (
 Calls prog 67 #[.pointer p0, .int .i64 4, .string s43, .int .i64 (s43.size : Int)] w40 fun e w44 =>
 e = .returned (.tuple #[]) /\
 runD prog ds w44 fun w45 =>
 R (.returned (.tuple #[])) w45))))))
theorem c45_l : flat (bodyOf f45) = [c45_0, c45_1] := by kernel_rfl
theorem F45_1_ok (R : Rt) (p0 : Option Addr) (ds : Ds) (w : World) (E : Env) (e0 : E 0 = .pointer p0) (h : F45_1 R p0 ds w) :
    TrL prog f45.ntmps [c45_0, c45_1] (F45_q1 R) E ds w :=
  TrL_leaf (X := F45_1 R p0 ds w) (setAll_cons e0 setAll_nil) (by kernel_rfl) (by kernel_rfl) h
theorem F45_calls (p0 : Option Addr) (w : World) (R : Rt) (h : F45_1 R p0 [] w) : Calls prog 45 #[.pointer p0] w R :=
  calls_of_L (l := [c45_0, c45_1]) func45 (by kernel_rfl) (by rw [ntmps45]; exact Nat.le_of_ble_eq_true (by kernel_rfl)) c45_l
    (F45_1_ok R p0 [] w _ rfl h)
noncomputable def c25_0 := cI7 f25 0
noncomputable def c25_1 := cI7 f25 1
def F25_q1 (R : Rt) : EQ := endQ prog f25.results.toList R
def F25_1 (R : Rt) (p0 : Option Addr) (n2 : Int) (ds : Ds) (w : World) : Prop :=
 Br (n2 == 10) (
 Calls prog 26 #[.pointer p0] w fun e w1 =>
 e = .returned (.tuple #[]) /\
 ptrE p0 fun a2 =>
 ∃ n23 : Int, w1.cell? (a2.add 1) = some (.int .i64 n23) /\
 ptrE p0 fun a3 =>
 st1 (a3.add 1) (.int .i64 (IntKind.i64.wrap (n23 + 1))) w1 fun w4 =>
 runD prog ds w4 fun w5 =>
 R (.returned (.tuple #[])) w5) (
 Calls prog 39 #[.int .u8 n2] w fun e w6 =>
 ∃ b29 : Bool, e = .returned (.bool b29) /\
 Br b29 (
 ptrE p0 fun a7 =>
 ∃ n33 : Int, w6.cell? (a7.add 1) = some (.int .i64 n33) /\
 ptrE p0 fun a8 =>
 st1 (a8.add 1) (.int .i64 (IntKind.i64.wrap (n33 + 1))) w6 fun w9 =>
 runD prog ds w9 fun w10 =>
 R (.returned (.tuple #[])) w10) (
 Calls prog 40 #[.pointer p0] w6 fun e w11 =>
 ∃ b39 : Bool, e = .returned (.bool b39) /\
 Br b39 (
 Br b39 (
 ptrE p0 fun a12 =>
 ∃ n58 : Int, w11.cell? (a12.add 1) = some (.int .i64 n58) /\
 Calls prog 43 #[.pointer p0, .int .i64 n58] w11 fun e w13 =>
 ∃ n59 : Int, e = .returned (.int .i64 n59) /\
 Calls prog 42 #[.pointer p0, .int .i64 n59] w13 fun e w14 =>
 e = .returned (.tuple #[]) /\
 runD prog ds w14 fun w15 =>
 R (.returned (.tuple #[])) w15) (
 Br (n2 == 59) (
 Calls prog 44 #[.pointer p0] w11 fun e w16 =>
 ∃ b66 : Bool, e = .returned (.bool b66) /\
 Br b66 (
 ptrE p0 fun a17 =>
 ∃ n71 : Int, w16.cell? (a17.add 1) = some (.int .i64 n71) /\
 ptrE p0 fun a18 =>
 st1 (a18.add 1) (.int .i64 (IntKind.i64.wrap (n71 + 1))) w16 fun w19 =>
 ptrE p0 fun a20 =>
 ∃ n79 : Int, w19.cell? (a20.add 1) = some (.int .i64 n79) /\
 Calls prog 43 #[.pointer p0, .int .i64 n79] w19 fun e w21 =>
 ∃ n80 : Int, e = .returned (.int .i64 n80) /\
 Calls prog 42 #[.pointer p0, .int .i64 n80] w21 fun e w22 =>
 e = .returned (.tuple #[]) /\
 dwE w22 fun w23 =>
 ptrE p0 fun a24 =>
 ∃ n87 : Int, w23.cell? (a24.add 1) = some (.int .i64 n87) /\
 ptrE p0 fun a25 =>
 ∃ s91 : ByteArray, w23.cell? a25 = some (.string s91) /\
 Br (decide (n87 < (s91.size : Int))) (
 ptrE p0 fun a26 =>
 ∃ n97 : Int, w23.cell? (a26.add 1) = some (.int .i64 n97) /\
 ptrE p0 fun a27 =>
 st1 (a27.add 1) (.int .i64 (IntKind.i64.wrap (n97 + 1))) w23 fun w28 =>
 runD prog ds w28 fun w29 =>
 R (.returned (.tuple #[])) w29) (
 runD prog ds w23 fun w30 =>
 R (.returned (.tuple #[])) w30)) (
 Calls prog 45 #[.pointer p0] w16 fun e w31 =>
 e = .returned (.tuple #[]) /\
 runD prog ds w31 fun w32 =>
 R (.returned (.tuple #[])) w32)) (
 Calls prog 45 #[.pointer p0] w11 fun e w33 =>
 e = .returned (.tuple #[]) /\
 runD prog ds w33 fun w34 =>
 R (.returned (.tuple #[])) w34))) (
 Br (n2 == 42) (
 ptrE p0 fun a35 =>
 ∃ b46 : Bool, w11.cell? (a35.add 2) = some (.bool b46) /\
 Br (!b46) (
 Calls prog 41 #[.pointer p0] w11 fun e w36 =>
 ∃ b51 : Bool, e = .returned (.bool b51) /\
 Br b51 (
 ptrE p0 fun a37 =>
 ∃ n58 : Int, w36.cell? (a37.add 1) = some (.int .i64 n58) /\
 Calls prog 43 #[.pointer p0, .int .i64 n58] w36 fun e w38 =>
 ∃ n59 : Int, e = .returned (.int .i64 n59) /\
 Calls prog 42 #[.pointer p0, .int .i64 n59] w38 fun e w39 =>
 e = .returned (.tuple #[]) /\
 runD prog ds w39 fun w40 =>
 R (.returned (.tuple #[])) w40) (
 Br (n2 == 59) (
 Calls prog 44 #[.pointer p0] w36 fun e w41 =>
 ∃ b66 : Bool, e = .returned (.bool b66) /\
 Br b66 (
 ptrE p0 fun a42 =>
 ∃ n71 : Int, w41.cell? (a42.add 1) = some (.int .i64 n71) /\
 ptrE p0 fun a43 =>
 st1 (a43.add 1) (.int .i64 (IntKind.i64.wrap (n71 + 1))) w41 fun w44 =>
 ptrE p0 fun a45 =>
 ∃ n79 : Int, w44.cell? (a45.add 1) = some (.int .i64 n79) /\
 Calls prog 43 #[.pointer p0, .int .i64 n79] w44 fun e w46 =>
 ∃ n80 : Int, e = .returned (.int .i64 n80) /\
 Calls prog 42 #[.pointer p0, .int .i64 n80] w46 fun e w47 =>
 e = .returned (.tuple #[]) /\
 dwE w47 fun w48 =>
 ptrE p0 fun a49 =>
 ∃ n87 : Int, w48.cell? (a49.add 1) = some (.int .i64 n87) /\
 ptrE p0 fun a50 =>
 ∃ s91 : ByteArray, w48.cell? a50 = some (.string s91) /\
 Br (decide (n87 < (s91.size : Int))) (
 ptrE p0 fun a51 =>
 ∃ n97 : Int, w48.cell? (a51.add 1) = some (.int .i64 n97) /\
 ptrE p0 fun a52 =>
 st1 (a52.add 1) (.int .i64 (IntKind.i64.wrap (n97 + 1))) w48 fun w53 =>
 runD prog ds w53 fun w54 =>
 R (.returned (.tuple #[])) w54) (
 runD prog ds w48 fun w55 =>
 R (.returned (.tuple #[])) w55)) (
 Calls prog 45 #[.pointer p0] w41 fun e w56 =>
 e = .returned (.tuple #[]) /\
 runD prog ds w56 fun w57 =>
 R (.returned (.tuple #[])) w57)) (
 Calls prog 45 #[.pointer p0] w36 fun e w58 =>
 e = .returned (.tuple #[]) /\
 runD prog ds w58 fun w59 =>
 R (.returned (.tuple #[])) w59))) (
 Br (n2 == 59) (
 Calls prog 44 #[.pointer p0] w11 fun e w60 =>
 ∃ b66 : Bool, e = .returned (.bool b66) /\
 Br b66 (
 ptrE p0 fun a61 =>
 ∃ n71 : Int, w60.cell? (a61.add 1) = some (.int .i64 n71) /\
 ptrE p0 fun a62 =>
 st1 (a62.add 1) (.int .i64 (IntKind.i64.wrap (n71 + 1))) w60 fun w63 =>
 ptrE p0 fun a64 =>
 ∃ n79 : Int, w63.cell? (a64.add 1) = some (.int .i64 n79) /\
 Calls prog 43 #[.pointer p0, .int .i64 n79] w63 fun e w65 =>
 ∃ n80 : Int, e = .returned (.int .i64 n80) /\
 Calls prog 42 #[.pointer p0, .int .i64 n80] w65 fun e w66 =>
 e = .returned (.tuple #[]) /\
 dwE w66 fun w67 =>
 ptrE p0 fun a68 =>
 ∃ n87 : Int, w67.cell? (a68.add 1) = some (.int .i64 n87) /\
 ptrE p0 fun a69 =>
 ∃ s91 : ByteArray, w67.cell? a69 = some (.string s91) /\
 Br (decide (n87 < (s91.size : Int))) (
 ptrE p0 fun a70 =>
 ∃ n97 : Int, w67.cell? (a70.add 1) = some (.int .i64 n97) /\
 ptrE p0 fun a71 =>
 st1 (a71.add 1) (.int .i64 (IntKind.i64.wrap (n97 + 1))) w67 fun w72 =>
 runD prog ds w72 fun w73 =>
 R (.returned (.tuple #[])) w73) (
 runD prog ds w67 fun w74 =>
 R (.returned (.tuple #[])) w74)) (
 Calls prog 45 #[.pointer p0] w60 fun e w75 =>
 e = .returned (.tuple #[]) /\
 runD prog ds w75 fun w76 =>
 R (.returned (.tuple #[])) w76)) (
 Calls prog 45 #[.pointer p0] w11 fun e w77 =>
 e = .returned (.tuple #[]) /\
 runD prog ds w77 fun w78 =>
 R (.returned (.tuple #[])) w78))) (
 Br (n2 == 59) (
 Calls prog 44 #[.pointer p0] w11 fun e w79 =>
 ∃ b66 : Bool, e = .returned (.bool b66) /\
 Br b66 (
 ptrE p0 fun a80 =>
 ∃ n71 : Int, w79.cell? (a80.add 1) = some (.int .i64 n71) /\
 ptrE p0 fun a81 =>
 st1 (a81.add 1) (.int .i64 (IntKind.i64.wrap (n71 + 1))) w79 fun w82 =>
 ptrE p0 fun a83 =>
 ∃ n79 : Int, w82.cell? (a83.add 1) = some (.int .i64 n79) /\
 Calls prog 43 #[.pointer p0, .int .i64 n79] w82 fun e w84 =>
 ∃ n80 : Int, e = .returned (.int .i64 n80) /\
 Calls prog 42 #[.pointer p0, .int .i64 n80] w84 fun e w85 =>
 e = .returned (.tuple #[]) /\
 dwE w85 fun w86 =>
 ptrE p0 fun a87 =>
 ∃ n87 : Int, w86.cell? (a87.add 1) = some (.int .i64 n87) /\
 ptrE p0 fun a88 =>
 ∃ s91 : ByteArray, w86.cell? a88 = some (.string s91) /\
 Br (decide (n87 < (s91.size : Int))) (
 ptrE p0 fun a89 =>
 ∃ n97 : Int, w86.cell? (a89.add 1) = some (.int .i64 n97) /\
 ptrE p0 fun a90 =>
 st1 (a90.add 1) (.int .i64 (IntKind.i64.wrap (n97 + 1))) w86 fun w91 =>
 runD prog ds w91 fun w92 =>
 R (.returned (.tuple #[])) w92) (
 runD prog ds w86 fun w93 =>
 R (.returned (.tuple #[])) w93)) (
 Calls prog 45 #[.pointer p0] w79 fun e w94 =>
 e = .returned (.tuple #[]) /\
 runD prog ds w94 fun w95 =>
 R (.returned (.tuple #[])) w95)) (
 Calls prog 45 #[.pointer p0] w11 fun e w96 =>
 e = .returned (.tuple #[]) /\
 runD prog ds w96 fun w97 =>
 R (.returned (.tuple #[])) w97)))))
def F25_k2 (R : Rt) : EP := (fun E ds w => dPtr (E 0) fun p0 => dInt .u8 (E 2) fun n2 => F25_1 R p0 n2 ds w)
def F25_2 (R : Rt) (p0 : Option Addr) (ds : Ds) (w : World) : Prop :=
 dwE w fun w98 =>
 ptrE p0 fun a99 =>
 ∃ s7 : ByteArray, w98.cell? a99 = some (.string s7) /\
 ptrE p0 fun a100 =>
 ∃ n11 : Int, w98.cell? (a100.add 1) = some (.int .i64 n11) /\
 ∃ b12 : UInt8, 0 ≤ n11 /\ s7[n11.toNat]? = some b12 /\
 F25_1 R p0 (b12.toNat : Int) ds w98
theorem c25_l : flat (bodyOf f25) = [c25_0, c25_1] := by kernel_rfl
theorem F25_1_ok (R : Rt) (p0 : Option Addr) (n2 : Int) (ds : Ds) (w : World) (E : Env) (e0 : E 0 = .pointer p0) (e2 : E 2 = .int .u8 n2) (h : F25_1 R p0 n2 ds w) :
    TrL prog f25.ntmps [c25_1] (F25_q1 R) E ds w :=
  TrL_leaf (X := F25_1 R p0 n2 ds w) (setAll_cons e0 (setAll_cons e2 setAll_nil)) (by kernel_rfl) (by kernel_rfl) h
theorem F25_2_ok (R : Rt) (p0 : Option Addr) (ds : Ds) (w : World) (E : Env) (e0 : E 0 = .pointer p0) (h : F25_2 R p0 ds w) :
    TrL prog f25.ntmps [c25_0, c25_1] (F25_q1 R) E ds w :=
  TrL_piece (pre := [c25_0]) (K := (F25_k2 R)) (X := F25_2 R p0 ds w) (setAll_cons e0 setAll_nil) (by kernel_rfl) (by kernel_rfl)
    (fun E' ds' w' hD => by
      obtain ⟨p0, e0, hD⟩ := dPtr_elim hD; obtain ⟨n2, e2, hD⟩ := dInt_elim hD; exact F25_1_ok R p0 n2 ds' w' E' e0 e2 hD) h
theorem F25_calls (p0 : Option Addr) (w : World) (R : Rt) (h : F25_2 R p0 [] w) : Calls prog 25 #[.pointer p0] w R :=
  calls_of_L (l := [c25_0, c25_1]) func25 (by kernel_rfl) (by rw [ntmps25]; exact Nat.le_of_ble_eq_true (by kernel_rfl)) c25_l
    (F25_2_ok R p0 [] w _ rfl h)
noncomputable def c10_0 := cI7 f10 0
noncomputable def c10_1 := cI7 f10 1
noncomputable def c10_2 := cI7 f10 2
noncomputable def c10_3 := cI7 f10 3
noncomputable def c10_4 := cI7 f10 4
noncomputable def c10_5 := cI7 f10 5
noncomputable def c10_6 := cI7 f10 6
noncomputable def c10_7 := cI7 f10 7
noncomputable def c10_8 := cI7 f10 8
noncomputable def c10_9 := cI7 f10 9
noncomputable def c10_10 := cI7 f10 10
noncomputable def c10_11 := cI7 f10 11
noncomputable def c10_4_0 := cJ7 c10_4 0
noncomputable def c10_4_0_0 := cJ7 c10_4_0 0
noncomputable def c10_4_0_1 := cJ7 c10_4_0 1
noncomputable def c10_4_0_2 := cJ7 c10_4_0 2
def F10_q1 (R : Rt) : EQ := endQ prog f10.results.toList R
def F10_1 (R : Rt) (p5 : Option Addr) (ds : Ds) (w : World) : Prop :=
 ptrE p5 fun a1 =>
 ∃ n31 : Int, w.cell? (a1.add 3) = some (.int .i64 n31) /\
 Br (decide (n31 ≥ 0)) (
 dwE w fun w2 =>
 ptrE p5 fun a3 =>
 ∃ n36 : Int, w2.cell? (a3.add 3) = some (.int .i64 n36) /\
 runD prog ds w2 fun w4 =>
 R (.returned (.tuple #[.slice none 0 0, .int .i64 n36, .int .i64 2])) w4) (
 Calls prog 26 #[.pointer p5] w fun e w5 =>
 e = .returned (.tuple #[]) /\
 ptrE p5 fun a6 =>
 ∃ l42 : SV, w5.cell? (a6.add 4) = some (.slice l42.a l42.len l42.cap) /\
 Br (decide ((l42.len : Int) > 1200)) (
 runD prog ds w5 fun w7 =>
 R (.returned (.tuple #[.slice none 0 0, .int .i64 0, .int .i64 3])) w7) (
 dwE w5 fun w8 =>
 ptrE p5 fun a9 =>
 ∃ l48 : SV, w8.cell? (a9.add 4) = some (.slice l48.a l48.len l48.cap) /\
 ptrE p5 fun a10 =>
 ∃ l52 : SV, w8.cell? (a10.add 4) = some (.slice l52.a l52.len l52.cap) /\
 runD prog ds w8 fun w11 =>
 R (.returned (.tuple #[.slice l48.a l48.len l48.cap, .int .i64 (l52.len : Int), .int .i64 0])) w11))
def F10_k2 (R : Rt) : EP := (fun E ds w => dPtr (E 5) fun p5 => F10_1 R p5 ds w)
def F10_q3 (R : Rt) : EQ := (thenQ (F10_k2 R) (F10_q1 R))
def F10_q4 (R : Rt) : EQ := (blockQ 0 (F10_q3 R))
def F10_q5 (R : Rt) (J1 : (Unit) -> World -> Prop) : EQ := (thenQ (fun E _ w => J1 () w) (F10_q4 R))
def F10_2 (R : Rt) (J1 : (Unit) -> World -> Prop) (s0 : ByteArray) (p5 : Option Addr) (ds : Ds) (w : World) : Prop :=
 ptrE p5 fun a12 =>
 ∃ n15 : Int, w.cell? (a12.add 1) = some (.int .i64 n15) /\
 Br (decide (n15 < (s0.size : Int))) (
 ptrE p5 fun a13 =>
 ∃ n23 : Int, w.cell? (a13.add 3) = some (.int .i64 n23) /\
 Br (decide (n23 < 0)) (
 Calls prog 25 #[.pointer p5] w fun e w14 =>
 e = .returned (.tuple #[]) /\
 J1 () w14) (
 F10_1 R p5 ds w)) (
 F10_1 R p5 ds w)
def F10_3 (R : Rt) (s0 : ByteArray) (p5 : Option Addr) (ds : Ds) (w : World) : Prop :=
 loopT (fun (J1 : (Unit) -> World -> Prop) (_ : Unit) (w : World) => F10_2 R J1 s0 p5 ds w) () w
abbrev F10_4 (R : Rt) (s0 : ByteArray) (p5 : Option Addr) (ds : Ds) (w : World) : Prop := F10_3 R s0 p5 ds w
def F10_k6 (R : Rt) : EP := (fun E ds w => dStr (E 0) fun s0 => dPtr (E 5) fun p5 => F10_4 R s0 p5 ds w)
def F10_5 (R : Rt) (s0 : ByteArray) (ds : Ds) (w : World) : Prop :=
 Br (decide ((s0.size : Int) > 4000)) (
 runD prog ds w fun w15 =>
 R (.returned (.tuple #[.slice none 0 0, .int .i64 0, .int .i64 3])) w15) (
 alE (.cells #[.string s0, .int .i64 0, .bool false, .int .i64 (-1), .slice none 0 0] 55) w fun r11 w16 =>
 F10_4 R s0 (some (⟨r11, 0, none⟩ : Addr)) ds w16)
theorem c10_l : flat (bodyOf f10) = [c10_0, c10_1, c10_2, c10_3, c10_4, c10_5, c10_6, c10_7, c10_8, c10_9, c10_10, c10_11] := by kernel_rfl
theorem c10_4_l : flat (innerC c10_4) = [c10_4_0] := by kernel_rfl
theorem c10_4_0_l : flat (innerC c10_4_0) = [c10_4_0_0, c10_4_0_1, c10_4_0_2] := by kernel_rfl
theorem F10_1_ok (R : Rt) (p5 : Option Addr) (ds : Ds) (w : World) (E : Env) (e5 : E 5 = .pointer p5) (h : F10_1 R p5 ds w) :
    TrL prog f10.ntmps [c10_5, c10_6, c10_7, c10_8, c10_9, c10_10, c10_11] (F10_q1 R) E ds w :=
  TrL_leaf (X := F10_1 R p5 ds w) (setAll_cons e5 setAll_nil) (by kernel_rfl) (by kernel_rfl) h
theorem F10_2_ok (R : Rt) (J1 : (Unit) -> World -> Prop) (s0 : ByteArray) (p5 : Option Addr) (ds : Ds) (w : World) (E : Env) (e0 : E 0 = .string s0) (e5 : E 5 = .pointer p5) (h : F10_2 R J1 s0 p5 ds w) :
    TrL prog f10.ntmps [c10_4_0_0, c10_4_0_1, c10_4_0_2] (F10_q5 R J1) E ds w :=
  TrL_leaf (X := F10_2 R J1 s0 p5 ds w) (setAll_cons e0 (setAll_cons e5 setAll_nil)) (by kernel_rfl) (by kernel_rfl) h
theorem F10_3_ok (R : Rt) (s0 : ByteArray) (p5 : Option Addr) (ds : Ds) (w : World) (E : Env) (e0 : E 0 = .string s0) (e5 : E 5 = .pointer p5) (h : F10_3 R s0 p5 ds w) :
    TrL prog f10.ntmps [c10_4_0] (F10_q4 R) E ds w :=
  TrL_one (Tr_loop' (c := innerC c10_4_0) (σ := Unit) (enc := (fun (_ : Unit) (_ : Env) => True)) (D := (fun E K => K ())) (F := (fun (J1 : (Unit) -> World -> Prop) (_ : Unit) (w : World) => F10_2 R J1 s0 p5 ds w)) (s0 := ()) (by kernel_rfl) c10_4_0_l trivial (by kernel_rfl) (fun E K hD => by exact ⟨(), trivial, hD⟩)
      (fun J1 _ E' w' he ha hF => by
      skip
      exact F10_2_ok R J1 s0 p5 ds w' E' ((ha 0 (by kernel_rfl)).trans e0) ((ha 5 (by kernel_rfl)).trans e5) hF) h)
theorem F10_4_ok (R : Rt) (s0 : ByteArray) (p5 : Option Addr) (ds : Ds) (w : World) (E : Env) (e0 : E 0 = .string s0) (e5 : E 5 = .pointer p5) (h : F10_4 R s0 p5 ds w) :
    TrL prog f10.ntmps [c10_4, c10_5, c10_6, c10_7, c10_8, c10_9, c10_10, c10_11] (F10_q1 R) E ds w :=
  TrL_head (K := (F10_k2 R)) (Tr_block' (c := innerC c10_4) (by kernel_rfl) c10_4_l (F10_3_ok R s0 p5 ds w E e0 e5 h))
    (fun E' ds' w' hD => by
      obtain ⟨p5, e5, hD⟩ := dPtr_elim hD; exact F10_1_ok R p5 ds' w' E' e5 hD)
theorem F10_5_ok (R : Rt) (s0 : ByteArray) (ds : Ds) (w : World) (E : Env) (e0 : E 0 = .string s0) (h : F10_5 R s0 ds w) :
    TrL prog f10.ntmps [c10_0, c10_1, c10_2, c10_3, c10_4, c10_5, c10_6, c10_7, c10_8, c10_9, c10_10, c10_11] (F10_q1 R) E ds w :=
  TrL_piece (pre := [c10_0, c10_1, c10_2, c10_3]) (K := (F10_k6 R)) (X := F10_5 R s0 ds w) (setAll_cons e0 setAll_nil) (by kernel_rfl) (by kernel_rfl)
    (fun E' ds' w' hD => by
      obtain ⟨s0, e0, hD⟩ := dStr_elim hD; obtain ⟨p5, e5, hD⟩ := dPtr_elim hD; exact F10_4_ok R s0 p5 ds' w' E' e0 e5 hD) h
theorem F10_calls (s0 : ByteArray) (w : World) (R : Rt) (h : F10_5 R s0 [] w) : Calls prog 10 #[.string s0] w R :=
  calls_of_L (l := [c10_0, c10_1, c10_2, c10_3, c10_4, c10_5, c10_6, c10_7, c10_8, c10_9, c10_10, c10_11]) func10 (by kernel_rfl) (by rw [ntmps10]; exact Nat.le_of_ble_eq_true (by kernel_rfl)) c10_l
    (F10_5_ok R s0 [] w _ rfl h)
end Go.Proofs.YtlogipcgejfnnaaGreatDoor

/- Shallow texts of functions, printed by program, each checked by the kernel against the loaded code. No condition. -/
set_option maxRecDepth 100000
set_option linter.unusedVariables false
namespace Go.Proofs.YtlogipcgejfnnaaGreatDoor
open Go.Sh
open Tryz
@[reducible] noncomputable def cI8 (f : Func) (i : Nat) : Code := itemAt (flat (bodyOf f)) i
noncomputable def c9_0 := cI8 f9 0
noncomputable def c9_1 := cI8 f9 1
noncomputable def c9_2 := cI8 f9 2
noncomputable def c9_3 := cI8 f9 3
noncomputable def c9_4 := cI8 f9 4
noncomputable def c9_5 := cI8 f9 5
noncomputable def c9_6 := cI8 f9 6
noncomputable def c9_7 := cI8 f9 7
noncomputable def c9_8 := cI8 f9 8
noncomputable def c9_9 := cI8 f9 9
noncomputable def c9_10 := cI8 f9 10
def F9_q1 (R : Rt) : EQ := endQ prog f9.results.toList R
def F9_1 (R : Rt) (s0 : ByteArray) (ds : Ds) (w : World) : Prop :=
 Br (decide ((s0.size : Int) > 4000)) (
 runD prog ds w fun w1 =>
 R (.returned (.tuple #[.slice none 0 0, .int .i64 0, .int .i64 3])) w1) (
 Calls prog 22 #[] w fun e w2 =>
 ∃ c11 : Array Value, c11.size = 256 /\ e = .returned (.agg c11) /\
 rawE prog (Instr.build 46 #[(0, .string s0), (2, .agg c11), (5, .int .i64 (-1))]) w2 fun b12 w3 =>
 alE (.cells ((b12).cells) 46) w3 fun r13 w4 =>
 Calls prog 24 #[.pointer (some (⟨r13, 0, none⟩ : Addr))] w4 fun e w5 =>
 ∃ v15 : Value, e = .returned (v15) /\
 Calls prog 23 #[v15] w5 fun e w6 =>
 ∃ l16 : SV, e = .returned (.slice l16.a l16.len l16.cap) /\
 ∃ n20 : Int, w6.cell? ((⟨r13, 0, none⟩ : Addr).add 260) = some (.int .i64 n20) /\
 Br (decide (n20 ≥ 0)) (
 dwE w6 fun w7 =>
 ∃ n25 : Int, w7.cell? ((⟨r13, 0, none⟩ : Addr).add 260) = some (.int .i64 n25) /\
 runD prog ds w7 fun w8 =>
 R (.returned (.tuple #[.slice none 0 0, .int .i64 n25, .int .i64 2])) w8) (
 Br (decide ((l16.len : Int) > 1200)) (
 runD prog ds w6 fun w9 =>
 R (.returned (.tuple #[.slice none 0 0, .int .i64 0, .int .i64 3])) w9) (
 runD prog ds w6 fun w10 =>
 R (.returned (.tuple #[.slice l16.a l16.len l16.cap, .int .i64 (l16.len : Int), .int .i64 0])) w10)))
theorem c9_l : flat (bodyOf f9) = [c9_0, c9_1, c9_2, c9_3, c9_4, c9_5, c9_6, c9_7, c9_8, c9_9, c9_10] := by kernel_rfl
theorem F9_1_ok (R : Rt) (s0 : ByteArray) (ds : Ds) (w : World) (E : Env) (e0 : E 0 = .string s0) (h : F9_1 R s0 ds w) :
    TrL prog f9.ntmps [c9_0, c9_1, c9_2, c9_3, c9_4, c9_5, c9_6, c9_7, c9_8, c9_9, c9_10] (F9_q1 R) E ds w :=
  TrL_leaf (X := F9_1 R s0 ds w) (setAll_cons e0 setAll_nil) (by kernel_rfl) (by kernel_rfl) h
theorem F9_calls (s0 : ByteArray) (w : World) (R : Rt) (h : F9_1 R s0 [] w) : Calls prog 9 #[.string s0] w R :=
  calls_of_L (l := [c9_0, c9_1, c9_2, c9_3, c9_4, c9_5, c9_6, c9_7, c9_8, c9_9, c9_10]) func9 (by kernel_rfl) (by rw [ntmps9]; exact Nat.le_of_ble_eq_true (by kernel_rfl)) c9_l
    (F9_1_ok R s0 [] w _ rfl h)
noncomputable def c23_0 := cI8 f23 0
noncomputable def c23_1 := cI8 f23 1
noncomputable def c23_2 := cI8 f23 2
def F23_q1 (R : Rt) : EQ := endQ prog f23.results.toList R
def F23_1 (R : Rt) (v0 : Value) (ds : Ds) (w : World) : Prop :=
 Calls prog 36 #[.slice none 0 0, v0] w fun e w1 =>
 ∃ l4 : SV, e = .returned (.slice l4.a l4.len l4.cap) /\
 runD prog ds w1 fun w2 =>
 R (.returned (.slice l4.a l4.len l4.cap)) w2
theorem c23_l : flat (bodyOf f23) = [c23_0, c23_1, c23_2] := by kernel_rfl
theorem F23_1_ok (R : Rt) (v0 : Value) (ds : Ds) (w : World) (E : Env) (e0 : E 0 = v0) (h : F23_1 R v0 ds w) :
    TrL prog f23.ntmps [c23_0, c23_1, c23_2] (F23_q1 R) E ds w :=
  TrL_leaf (X := F23_1 R v0 ds w) (setAll_cons e0 setAll_nil) (by kernel_rfl) (by kernel_rfl) h
theorem F23_calls (v0 : Value) (w : World) (R : Rt) (h : F23_1 R v0 [] w) : Calls prog 23 #[v0] w R :=
  calls_of_L (l := [c23_0, c23_1, c23_2]) func23 (by kernel_rfl) (by rw [ntmps23]; exact Nat.le_of_ble_eq_true (by kernel_rfl)) c23_l
    (F23_1_ok R v0 [] w _ rfl h)
noncomputable def c24_0 := cI8 f24 0
noncomputable def c24_1 := cI8 f24 1
noncomputable def c24_2 := cI8 f24 2
def F24_q1 (R : Rt) : EQ := endQ prog f24.results.toList R
def F24_1 (R : Rt) (p0 : Option Addr) (ds : Ds) (w : World) : Prop :=
 alE (.cells #[.pointer p0] 42) w fun r1 w1 =>
 runD prog ds w1 fun w2 =>
 R (.returned (.func (.func 37) #[] #[.pointer (some (⟨r1, 0, none⟩ : Addr))])) w2
theorem c24_l : flat (bodyOf f24) = [c24_0, c24_1, c24_2] := by kernel_rfl
theorem F24_1_ok (R : Rt) (p0 : Option Addr) (ds : Ds) (w : World) (E : Env) (e0 : E 0 = .pointer p0) (h : F24_1 R p0 ds w) :
    TrL prog f24.ntmps [c24_0, c24_1, c24_2] (F24_q1 R) E ds w :=
  TrL_leaf (X := F24_1 R p0 ds w) (setAll_cons e0 setAll_nil) (by kernel_rfl) (by kernel_rfl) h
theorem F24_calls (p0 : Option Addr) (w : World) (R : Rt) (h : F24_1 R p0 [] w) : Calls prog 24 #[.pointer p0] w R :=
  calls_of_L (l := [c24_0, c24_1, c24_2]) func24 (by kernel_rfl) (by rw [ntmps24]; exact Nat.le_of_ble_eq_true (by kernel_rfl)) c24_l
    (F24_1_ok R p0 [] w _ rfl h)
end Go.Proofs.YtlogipcgejfnnaaGreatDoor

/- Shallow texts of functions, printed by program, each checked by the kernel against the loaded code. No condition. -/
set_option maxRecDepth 100000
set_option linter.unusedVariables false
namespace Go.Proofs.YtlogipcgejfnnaaGreatDoor
open Go.Sh
open Tryz
@[reducible] noncomputable def cI9 (f : Func) (i : Nat) : Code := itemAt (flat (bodyOf f)) i
@[reducible] noncomputable def cJ9 (c : Code) (i : Nat) : Code := itemAt (flat (innerC c)) i
noncomputable def c64_0 := cI9 f64 0
noncomputable def c64_1 := cI9 f64 1
def F64_q1 (R : Rt) : EQ := endQ prog f64.results.toList R
def F64_1 (R : Rt) (p0 : Option Addr) (n1 : Int) (ds : Ds) (w : World) : Prop :=
 ptrE p0 fun a1 =>
 ∃ n7 : Int, w.cell? (a1.add 3) = some (.int .i64 n7) /\
 Br (decide (n7 < 0)) (
 ptrE p0 fun a2 =>
 st1 (a2.add 3) (.int .i64 n1) w fun w3 =>
 runD prog ds w3 fun w4 =>
 R (.returned (.tuple #[])) w4) (
 ptrE p0 fun a5 =>
 ∃ n14 : Int, w.cell? (a5.add 3) = some (.int .i64 n14) /\
 Br (decide (n1 < n14)) (
 ptrE p0 fun a6 =>
 st1 (a6.add 3) (.int .i64 n1) w fun w7 =>
 runD prog ds w7 fun w8 =>
 R (.returned (.tuple #[])) w8) (
 runD prog ds w fun w9 =>
 R (.returned (.tuple #[])) w9))
theorem c64_l : flat (bodyOf f64) = [c64_0, c64_1] := by kernel_rfl
theorem F64_1_ok (R : Rt) (p0 : Option Addr) (n1 : Int) (ds : Ds) (w : World) (E : Env) (e0 : E 0 = .pointer p0) (e1 : E 1 = .int .i64 n1) (h : F64_1 R p0 n1 ds w) :
    TrL prog f64.ntmps [c64_0, c64_1] (F64_q1 R) E ds w :=
  TrL_leaf (X := F64_1 R p0 n1 ds w) (setAll_cons e0 (setAll_cons e1 setAll_nil)) (by kernel_rfl) (by kernel_rfl) h
theorem F64_calls (p0 : Option Addr) (n1 : Int) (w : World) (R : Rt) (h : F64_1 R p0 n1 [] w) : Calls prog 64 #[.pointer p0, .int .i64 n1] w R :=
  calls_of_L (l := [c64_0, c64_1]) func64 (by kernel_rfl) (by rw [ntmps64]; exact Nat.le_of_ble_eq_true (by kernel_rfl)) c64_l
    (F64_1_ok R p0 n1 [] w _ rfl rfl h)
noncomputable def c43_0 := cI9 f43 0
noncomputable def c43_1 := cI9 f43 1
noncomputable def c43_2 := cI9 f43 2
noncomputable def c43_3 := cI9 f43 3
noncomputable def c43_1_0 := cJ9 c43_1 0
noncomputable def c43_1_0_0 := cJ9 c43_1_0 0
noncomputable def c43_1_0_1 := cJ9 c43_1_0 1
noncomputable def c43_1_0_2 := cJ9 c43_1_0 2
def F43_q1 (R : Rt) : EQ := endQ prog f43.results.toList R
def F43_1 (R : Rt) (n1 : Int) (ds : Ds) (w : World) : Prop :=
 runD prog ds w fun w1 =>
 R (.returned (.int .i64 n1)) w1
def F43_k2 (R : Rt) : EP := (fun E ds w => dInt .i64 (E 1) fun n1 => F43_1 R n1 ds w)
def F43_q3 (R : Rt) : EQ := (thenQ (F43_k2 R) (F43_q1 R))
def F43_q4 (R : Rt) : EQ := (blockQ 0 (F43_q3 R))
def F43_q5 (R : Rt) (J1 : (Int) -> World -> Prop) : EQ := (thenQ (fun E _ w => dInt .i64 (E 1) fun n1 => J1 n1 w) (F43_q4 R))
def F43_2 (R : Rt) (J1 : (Int) -> World -> Prop) (p0 : Option Addr) (n1 : Int) (ds : Ds) (w : World) : Prop :=
 ptrE p0 fun a2 =>
 ∃ s9 : ByteArray, w.cell? a2 = some (.string s9) /\
 Br (decide (n1 < (s9.size : Int))) (
 ptrE p0 fun a3 =>
 ∃ s16 : ByteArray, w.cell? a3 = some (.string s16) /\
 ∃ b18 : UInt8, 0 ≤ n1 /\ s16[n1.toNat]? = some b18 /\
 Br ((b18.toNat : Int) != 10) (
 J1 (IntKind.i64.wrap (n1 + 1)) w) (
 F43_1 R n1 ds w)) (
 F43_1 R n1 ds w)
def F43_3 (R : Rt) (p0 : Option Addr) (n1 : Int) (ds : Ds) (w : World) : Prop :=
 loopT (fun (J1 : (Int) -> World -> Prop) (s : Int) (w : World) => F43_2 R J1 p0 s ds w) n1 w
abbrev F43_4 (R : Rt) (p0 : Option Addr) (n1 : Int) (ds : Ds) (w : World) : Prop := F43_3 R p0 n1 ds w
def F43_k6 (R : Rt) : EP := (fun E ds w => dPtr (E 0) fun p0 => dInt .i64 (E 1) fun n1 => F43_4 R p0 n1 ds w)
def F43_5 (R : Rt) (p0 : Option Addr) (n1 : Int) (ds : Ds) (w : World) : Prop :=
 F43_4 R p0 n1 ds w
theorem c43_l : flat (bodyOf f43) = [c43_0, c43_1, c43_2, c43_3] := by kernel_rfl
theorem c43_1_l : flat (innerC c43_1) = [c43_1_0] := by kernel_rfl
theorem c43_1_0_l : flat (innerC c43_1_0) = [c43_1_0_0, c43_1_0_1, c43_1_0_2] := by kernel_rfl
theorem F43_1_ok (R : Rt) (n1 : Int) (ds : Ds) (w : World) (E : Env) (e1 : E 1 = .int .i64 n1) (h : F43_1 R n1 ds w) :
    TrL prog f43.ntmps [c43_2, c43_3] (F43_q1 R) E ds w :=
  TrL_leaf (X := F43_1 R n1 ds w) (setAll_cons e1 setAll_nil) (by kernel_rfl) (by kernel_rfl) h
theorem F43_2_ok (R : Rt) (J1 : (Int) -> World -> Prop) (p0 : Option Addr) (n1 : Int) (ds : Ds) (w : World) (E : Env) (e0 : E 0 = .pointer p0) (e1 : E 1 = .int .i64 n1) (h : F43_2 R J1 p0 n1 ds w) :
    TrL prog f43.ntmps [c43_1_0_0, c43_1_0_1, c43_1_0_2] (F43_q5 R J1) E ds w :=
  TrL_leaf (X := F43_2 R J1 p0 n1 ds w) (setAll_cons e0 (setAll_cons e1 setAll_nil)) (by kernel_rfl) (by kernel_rfl) h
theorem F43_3_ok (R : Rt) (p0 : Option Addr) (n1 : Int) (ds : Ds) (w : World) (E : Env) (e0 : E 0 = .pointer p0) (e1 : E 1 = .int .i64 n1) (h : F43_3 R p0 n1 ds w) :
    TrL prog f43.ntmps [c43_1_0] (F43_q4 R) E ds w :=
  TrL_one (Tr_loop' (c := innerC c43_1_0) (σ := Int) (enc := (fun (s : Int) (E : Env) => E 1 = .int .i64 s)) (D := (fun E K => dInt .i64 (E 1) fun n1 => K n1)) (F := (fun (J1 : (Int) -> World -> Prop) (s : Int) (w : World) => F43_2 R J1 p0 s ds w)) (s0 := n1) (by kernel_rfl) c43_1_0_l e1 (by kernel_rfl) (fun E K hD => by obtain ⟨n1, e1, hD⟩ := dInt_elim hD; exact ⟨n1, e1, hD⟩)
      (fun J1 s E' w' he ha hF => by
      have e1' := he
      exact F43_2_ok R J1 p0 s ds w' E' ((ha 0 (by kernel_rfl)).trans e0) e1' hF) h)
theorem F43_4_ok (R : Rt) (p0 : Option Addr) (n1 : Int) (ds : Ds) (w : World) (E : Env) (e0 : E 0 = .pointer p0) (e1 : E 1 = .int .i64 n1) (h : F43_4 R p0 n1 ds w) :
    TrL prog f43.ntmps [c43_1, c43_2, c43_3] (F43_q1 R) E ds w :=
  TrL_head (K := (F43_k2 R)) (Tr_block' (c := innerC c43_1) (by kernel_rfl) c43_1_l (F43_3_ok R p0 n1 ds w E e0 e1 h))
    (fun E' ds' w' hD => by
      obtain ⟨n1, e1, hD⟩ := dInt_elim hD; exact F43_1_ok R n1 ds' w' E' e1 hD)
theorem F43_5_ok (R : Rt) (p0 : Option Addr) (n1 : Int) (ds : Ds) (w : World) (E : Env) (e0 : E 0 = .pointer p0) (e1 : E 1 = .int .i64 n1) (h : F43_5 R p0 n1 ds w) :
    TrL prog f43.ntmps [c43_0, c43_1, c43_2, c43_3] (F43_q1 R) E ds w :=
  TrL_piece (pre := [c43_0]) (K := (F43_k6 R)) (X := F43_5 R p0 n1 ds w) (setAll_cons e0 (setAll_cons e1 setAll_nil)) (by kernel_rfl) (by kernel_rfl)
    (fun E' ds' w' hD => by
      obtain ⟨p0, e0, hD⟩ := dPtr_elim hD; obtain ⟨n1, e1, hD⟩ := dInt_elim hD; exact F43_4_ok R p0 n1 ds' w' E' e0 e1 hD) h
theorem F43_calls (p0 : Option Addr) (n1 : Int) (w : World) (R : Rt) (h : F43_5 R p0 n1 [] w) : Calls prog 43 #[.pointer p0, .int .i64 n1] w R :=
  calls_of_L (l := [c43_0, c43_1, c43_2, c43_3]) func43 (by kernel_rfl) (by rw [ntmps43]; exact Nat.le_of_ble_eq_true (by kernel_rfl)) c43_l
    (F43_5_ok R p0 n1 [] w _ rfl rfl h)
noncomputable def c42_0 := cI9 f42 0
noncomputable def c42_0_0 := cJ9 c42_0 0
noncomputable def c42_0_0_0 := cJ9 c42_0_0 0
noncomputable def c42_0_0_1 := cJ9 c42_0_0 1
noncomputable def c42_0_0_2 := cJ9 c42_0_0 2
def F42_q1 (R : Rt) : EQ := endQ prog f42.results.toList R
def F42_q2 (R : Rt) : EQ := (blockQ 0 (F42_q1 R))
def F42_q3 (R : Rt) (J1 : (Unit) -> World -> Prop) : EQ := (thenQ (fun E _ w => J1 () w) (F42_q2 R))
def F42_1 (R : Rt) (J1 : (Unit) -> World -> Prop) (p0 : Option Addr) (n1 : Int) (ds : Ds) (w : World) : Prop :=
 ptrE p0 fun a1 =>
 ∃ n7 : Int, w.cell? (a1.add 1) = some (.int .i64 n7) /\
 Br (decide (n7 < n1)) (
 dwE w fun w2 =>
 ptrE p0 fun a3 =>
 ∃ s13 : ByteArray, w2.cell? a3 = some (.string s13) /\
 ptrE p0 fun a4 =>
 ∃ n17 : Int, w2.cell? (a4.add 1) = some (.int .i64 n17) /\
 ∃ b18 : UInt8, 0 ≤ n17 /\ s13[n17.toNat]? = some b18 /\
 Calls prog 63 #[.int .u8 (b18.toNat : Int)] w2 fun e w5 =>
 ∃ b19 : Bool, e = .returned (.bool b19) /\
 Br (!b19) (
 ptrE p0 fun a6 =>
 ∃ n25 : Int, w5.cell? (a6.add 1) = some (.int .i64 n25) /\
 Calls prog 64 #[.pointer p0, .int .i64 n25] w5 fun e w7 =>
 e = .returned (.tuple #[]) /\
 ptrE p0 fun a8 =>
 ∃ n30 : Int, w7.cell? (a8.add 1) = some (.int .i64 n30) /\
 ptrE p0 fun a9 =>
 st1 (a9.add 1) (.int .i64 (IntKind.i64.wrap (n30 + 1))) w7 fun w10 =>
 J1 () w10) (
 ptrE p0 fun a11 =>
 ∃ n30 : Int, w5.cell? (a11.add 1) = some (.int .i64 n30) /\
 ptrE p0 fun a12 =>
 st1 (a12.add 1) (.int .i64 (IntKind.i64.wrap (n30 + 1))) w5 fun w13 =>
 J1 () w13)) (
 runD prog ds w fun w14 =>
 R (.returned (.tuple #[])) w14)
def F42_2 (R : Rt) (p0 : Option Addr) (n1 : Int) (ds : Ds) (w : World) : Prop :=
 loopT (fun (J1 : (Unit) -> World -> Prop) (_ : Unit) (w : World) => F42_1 R J1 p0 n1 ds w) () w
abbrev F42_3 (R : Rt) (p0 : Option Addr) (n1 : Int) (ds : Ds) (w : World) : Prop := F42_2 R p0 n1 ds w
theorem c42_l : flat (bodyOf f42) = [c42_0] := by kernel_rfl
theorem c42_0_l : flat (innerC c42_0) = [c42_0_0] := by kernel_rfl
theorem c42_0_0_l : flat (innerC c42_0_0) = [c42_0_0_0, c42_0_0_1, c42_0_0_2] := by kernel_rfl
theorem F42_1_ok (R : Rt) (J1 : (Unit) -> World -> Prop) (p0 : Option Addr) (n1 : Int) (ds : Ds) (w : World) (E : Env) (e0 : E 0 = .pointer p0) (e1 : E 1 = .int .i64 n1) (h : F42_1 R J1 p0 n1 ds w) :
    TrL prog f42.ntmps [c42_0_0_0, c42_0_0_1, c42_0_0_2] (F42_q3 R J1) E ds w :=
  TrL_leaf (X := F42_1 R J1 p0 n1 ds w) (setAll_cons e0 (setAll_cons e1 setAll_nil)) (by kernel_rfl) (by kernel_rfl) h
theorem F42_2_ok (R : Rt) (p0 : Option Addr) (n1 : Int) (ds : Ds) (w : World) (E : Env) (e0 : E 0 = .pointer p0) (e1 : E 1 = .int .i64 n1) (h : F42_2 R p0 n1 ds w) :
    TrL prog f42.ntmps [c42_0_0] (F42_q2 R) E ds w :=
  TrL_one (Tr_loop' (c := innerC c42_0_0) (σ := Unit) (enc := (fun (_ : Unit) (_ : Env) => True)) (D := (fun E K => K ())) (F := (fun (J1 : (Unit) -> World -> Prop) (_ : Unit) (w : World) => F42_1 R J1 p0 n1 ds w)) (s0 := ()) (by kernel_rfl) c42_0_0_l trivial (by kernel_rfl) (fun E K hD => by exact ⟨(), trivial, hD⟩)
      (fun J1 _ E' w' he ha hF => by
      skip
      exact F42_1_ok R J1 p0 n1 ds w' E' ((ha 0 (by kernel_rfl)).trans e0) ((ha 1 (by kernel_rfl)).trans e1) hF) h)
theorem F42_3_ok (R : Rt) (p0 : Option Addr) (n1 : Int) (ds : Ds) (w : World) (E : Env) (e0 : E 0 = .pointer p0) (e1 : E 1 = .int .i64 n1) (h : F42_3 R p0 n1 ds w) :
    TrL prog f42.ntmps [c42_0] (F42_q1 R) E ds w :=
  TrL_one (Tr_block' (c := innerC c42_0) (by kernel_rfl) c42_0_l (F42_2_ok R p0 n1 ds w E e0 e1 h))
theorem F42_calls (p0 : Option Addr) (n1 : Int) (w : World) (R : Rt) (h : F42_3 R p0 n1 [] w) : Calls prog 42 #[.pointer p0, .int .i64 n1] w R :=
  calls_of_L (l := [c42_0]) func42 (by kernel_rfl) (by rw [ntmps42]; exact Nat.le_of_ble_eq_true (by kernel_rfl)) c42_l
    (F42_3_ok R p0 n1 [] w _ rfl rfl h)
noncomputable def c40_0 := cI9 f40 0
noncomputable def c40_1 := cI9 f40 1
noncomputable def c40_2 := cI9 f40 2
def F40_q1 (R : Rt) : EQ := endQ prog f40.results.toList R
def F40_1 (R : Rt) (p0 : Option Addr) (ds : Ds) (w : World) : Prop :=
 dwE w fun w1 =>
 ptrE p0 fun a2 =>
 ∃ n6 : Int, w1.cell? (a2.add 1) = some (.int .i64 n6) /\
 ptrE p0 fun a3 =>
 ∃ s11 : ByteArray, w1.cell? a3 = some (.string s11) /\
 Br (decide ((IntKind.i64.wrap (n6 + 1)) < (s11.size : Int))) (
 ptrE p0 fun a4 =>
 ∃ s18 : ByteArray, w1.cell? a4 = some (.string s18) /\
 ptrE p0 fun a5 =>
 ∃ n22 : Int, w1.cell? (a5.add 1) = some (.int .i64 n22) /\
 ∃ b23 : UInt8, 0 ≤ n22 /\ s18[n22.toNat]? = some b23 /\
 Br ((b23.toNat : Int) == 38) (
 ptrE p0 fun a6 =>
 ∃ s30 : ByteArray, w1.cell? a6 = some (.string s30) /\
 ptrE p0 fun a7 =>
 ∃ n34 : Int, w1.cell? (a7.add 1) = some (.int .i64 n34) /\
 ∃ b36 : UInt8, 0 ≤ (IntKind.i64.wrap (n34 + 1)) /\ s30[(IntKind.i64.wrap (n34 + 1)).toNat]? = some b36 /\
 runD prog ds w1 fun w8 =>
 R (.returned (.bool ((b36.toNat : Int) == 38))) w8) (
 runD prog ds w1 fun w9 =>
 R (.returned (.bool false)) w9)) (
 runD prog ds w1 fun w10 =>
 R (.returned (.bool false)) w10)
theorem c40_l : flat (bodyOf f40) = [c40_0, c40_1, c40_2] := by kernel_rfl
theorem F40_1_ok (R : Rt) (p0 : Option Addr) (ds : Ds) (w : World) (E : Env) (e0 : E 0 = .pointer p0) (h : F40_1 R p0 ds w) :
    TrL prog f40.ntmps [c40_0, c40_1, c40_2] (F40_q1 R) E ds w :=
  TrL_leaf (X := F40_1 R p0 ds w) (setAll_cons e0 setAll_nil) (by kernel_rfl) (by kernel_rfl) h
theorem F40_calls (p0 : Option Addr) (w : World) (R : Rt) (h : F40_1 R p0 [] w) : Calls prog 40 #[.pointer p0] w R :=
  calls_of_L (l := [c40_0, c40_1, c40_2]) func40 (by kernel_rfl) (by rw [ntmps40]; exact Nat.le_of_ble_eq_true (by kernel_rfl)) c40_l
    (F40_1_ok R p0 [] w _ rfl h)
noncomputable def c41_0 := cI9 f41 0
noncomputable def c41_1 := cI9 f41 1
noncomputable def c41_2 := cI9 f41 2
noncomputable def c41_3 := cI9 f41 3
noncomputable def c41_4 := cI9 f41 4
noncomputable def c41_2_0 := cJ9 c41_2 0
noncomputable def c41_2_0_0 := cJ9 c41_2_0 0
noncomputable def c41_2_0_1 := cJ9 c41_2_0 1
noncomputable def c41_2_0_2 := cJ9 c41_2_0 2
def F41_q1 (R : Rt) : EQ := endQ prog f41.results.toList R
def F41_1 (R : Rt) (p0 : Option Addr) (n3 : Int) (ds : Ds) (w : World) : Prop :=
 Br (decide (n3 < 0)) (
 runD prog ds w fun w1 =>
 R (.returned (.bool true)) w1) (
 ptrE p0 fun a2 =>
 ∃ s28 : ByteArray, w.cell? a2 = some (.string s28) /\
 ∃ b30 : UInt8, 0 ≤ n3 /\ s28[n3.toNat]? = some b30 /\
 runD prog ds w fun w3 =>
 R (.returned (.bool ((b30.toNat : Int) == 10))) w3)
def F41_k2 (R : Rt) : EP := (fun E ds w => dPtr (E 0) fun p0 => dInt .i64 (E 3) fun n3 => F41_1 R p0 n3 ds w)
def F41_q3 (R : Rt) : EQ := (thenQ (F41_k2 R) (F41_q1 R))
def F41_q4 (R : Rt) : EQ := (blockQ 0 (F41_q3 R))
def F41_q5 (R : Rt) (J1 : (Int) -> World -> Prop) : EQ := (thenQ (fun E _ w => dInt .i64 (E 3) fun n3 => J1 n3 w) (F41_q4 R))
def F41_2 (R : Rt) (J1 : (Int) -> World -> Prop) (p0 : Option Addr) (n3 : Int) (ds : Ds) (w : World) : Prop :=
 Br (decide (n3 ≥ 0)) (
 ptrE p0 fun a4 =>
 ∃ s15 : ByteArray, w.cell? a4 = some (.string s15) /\
 ∃ b17 : UInt8, 0 ≤ n3 /\ s15[n3.toNat]? = some b17 /\
 Calls prog 39 #[.int .u8 (b17.toNat : Int)] w fun e w5 =>
 ∃ b18 : Bool, e = .returned (.bool b18) /\
 Br b18 (
 J1 (IntKind.i64.wrap (n3 - 1)) w5) (
 F41_1 R p0 n3 ds w5)) (
 F41_1 R p0 n3 ds w)
def F41_3 (R : Rt) (p0 : Option Addr) (n3 : Int) (ds : Ds) (w : World) : Prop :=
 loopT (fun (J1 : (Int) -> World -> Prop) (s : Int) (w : World) => F41_2 R J1 p0 s ds w) n3 w
abbrev F41_4 (R : Rt) (p0 : Option Addr) (n3 : Int) (ds : Ds) (w : World) : Prop := F41_3 R p0 n3 ds w
def F41_k6 (R : Rt) : EP := (fun E ds w => dPtr (E 0) fun p0 => dInt .i64 (E 3) fun n3 => F41_4 R p0 n3 ds w)
def F41_5 (R : Rt) (p0 : Option Addr) (ds : Ds) (w : World) : Prop :=
 ptrE p0 fun a6 =>
 ∃ n7 : Int, w.cell? (a6.add 1) = some (.int .i64 n7) /\
 F41_4 R p0 (IntKind.i64.wrap (n7 - 1)) ds w
theorem c41_l : flat (bodyOf f41) = [c41_0, c41_1, c41_2, c41_3, c41_4] := by kernel_rfl
theorem c41_2_l : flat (innerC c41_2) = [c41_2_0] := by kernel_rfl
theorem c41_2_0_l : flat (innerC c41_2_0) = [c41_2_0_0, c41_2_0_1, c41_2_0_2] := by kernel_rfl
theorem F41_1_ok (R : Rt) (p0 : Option Addr) (n3 : Int) (ds : Ds) (w : World) (E : Env) (e0 : E 0 = .pointer p0) (e3 : E 3 = .int .i64 n3) (h : F41_1 R p0 n3 ds w) :
    TrL prog f41.ntmps [c41_3, c41_4] (F41_q1 R) E ds w :=
  TrL_leaf (X := F41_1 R p0 n3 ds w) (setAll_cons e0 (setAll_cons e3 setAll_nil)) (by kernel_rfl) (by kernel_rfl) h
theorem F41_2_ok (R : Rt) (J1 : (Int) -> World -> Prop) (p0 : Option Addr) (n3 : Int) (ds : Ds) (w : World) (E : Env) (e0 : E 0 = .pointer p0) (e3 : E 3 = .int .i64 n3) (h : F41_2 R J1 p0 n3 ds w) :
    TrL prog f41.ntmps [c41_2_0_0, c41_2_0_1, c41_2_0_2] (F41_q5 R J1) E ds w :=
  TrL_leaf (X := F41_2 R J1 p0 n3 ds w) (setAll_cons e0 (setAll_cons e3 setAll_nil)) (by kernel_rfl) (by kernel_rfl) h
theorem F41_3_ok (R : Rt) (p0 : Option Addr) (n3 : Int) (ds : Ds) (w : World) (E : Env) (e0 : E 0 = .pointer p0) (e3 : E 3 = .int .i64 n3) (h : F41_3 R p0 n3 ds w) :
    TrL prog f41.ntmps [c41_2_0] (F41_q4 R) E ds w :=
  TrL_one (Tr_loop' (c := innerC c41_2_0) (σ := Int) (enc := (fun (s : Int) (E : Env) => E 3 = .int .i64 s)) (D := (fun E K => dInt .i64 (E 3) fun n3 => K n3)) (F := (fun (J1 : (Int) -> World -> Prop) (s : Int) (w : World) => F41_2 R J1 p0 s ds w)) (s0 := n3) (by kernel_rfl) c41_2_0_l e3 (by kernel_rfl) (fun E K hD => by obtain ⟨n3, e3, hD⟩ := dInt_elim hD; exact ⟨n3, e3, hD⟩)
      (fun J1 s E' w' he ha hF => by
      have e3' := he
      exact F41_2_ok R J1 p0 s ds w' E' ((ha 0 (by kernel_rfl)).trans e0) e3' hF) h)
theorem F41_4_ok (R : Rt) (p0 : Option Addr) (n3 : Int) (ds : Ds) (w : World) (E : Env) (e0 : E 0 = .pointer p0) (e3 : E 3 = .int .i64 n3) (h : F41_4 R p0 n3 ds w) :
    TrL prog f41.ntmps [c41_2, c41_3, c41_4] (F41_q1 R) E ds w :=
  TrL_head (K := (F41_k2 R)) (Tr_block' (c := innerC c41_2) (by kernel_rfl) c41_2_l (F41_3_ok R p0 n3 ds w E e0 e3 h))
    (fun E' ds' w' hD => by
      obtain ⟨p0, e0, hD⟩ := dPtr_elim hD; obtain ⟨n3, e3, hD⟩ := dInt_elim hD; exact F41_1_ok R p0 n3 ds' w' E' e0 e3 hD)
theorem F41_5_ok (R : Rt) (p0 : Option Addr) (ds : Ds) (w : World) (E : Env) (e0 : E 0 = .pointer p0) (h : F41_5 R p0 ds w) :
    TrL prog f41.ntmps [c41_0, c41_1, c41_2, c41_3, c41_4] (F41_q1 R) E ds w :=
  TrL_piece (pre := [c41_0, c41_1]) (K := (F41_k6 R)) (X := F41_5 R p0 ds w) (setAll_cons e0 setAll_nil) (by kernel_rfl) (by kernel_rfl)
    (fun E' ds' w' hD => by
      obtain ⟨p0, e0, hD⟩ := dPtr_elim hD; obtain ⟨n3, e3, hD⟩ := dInt_elim hD; exact F41_4_ok R p0 n3 ds' w' E' e0 e3 hD) h
theorem F41_calls (p0 : Option Addr) (w : World) (R : Rt) (h : F41_5 R p0 [] w) : Calls prog 41 #[.pointer p0] w R :=
  calls_of_L (l := [c41_0, c41_1, c41_2, c41_3, c41_4]) func41 (by kernel_rfl) (by rw [ntmps41]; exact Nat.le_of_ble_eq_true (by kernel_rfl)) c41_l
    (F41_5_ok R p0 [] w _ rfl h)
noncomputable def c44_0 := cI9 f44 0
noncomputable def c44_1 := cI9 f44 1
noncomputable def c44_2 := cI9 f44 2
noncomputable def c44_3 := cI9 f44 3
noncomputable def c44_4 := cI9 f44 4
noncomputable def c44_2_0 := cJ9 c44_2 0
noncomputable def c44_2_0_0 := cJ9 c44_2_0 0
noncomputable def c44_2_0_1 := cJ9 c44_2_0 1
noncomputable def c44_2_0_2 := cJ9 c44_2_0 2
def F44_q1 (R : Rt) : EQ := endQ prog f44.results.toList R
def F44_1 (R : Rt) (p0 : Option Addr) (n3 : Int) (ds : Ds) (w : World) : Prop :=
 ptrE p0 fun a1 =>
 ∃ s31 : ByteArray, w.cell? a1 = some (.string s31) /\
 Br (decide (n3 ≥ (s31.size : Int))) (
 runD prog ds w fun w2 =>
 R (.returned (.bool true)) w2) (
 ptrE p0 fun a3 =>
 ∃ s38 : ByteArray, w.cell? a3 = some (.string s38) /\
 ∃ b40 : UInt8, 0 ≤ n3 /\ s38[n3.toNat]? = some b40 /\
 Br ((b40.toNat : Int) == 10) (
 runD prog ds w fun w4 =>
 R (.returned (.bool true)) w4) (
 ptrE p0 fun a5 =>
 ∃ s49 : ByteArray, w.cell? a5 = some (.string s49) /\
 Br (decide ((IntKind.i64.wrap (n3 + 1)) < (s49.size : Int))) (
 ptrE p0 fun a6 =>
 ∃ s56 : ByteArray, w.cell? a6 = some (.string s56) /\
 0 ≤ (IntKind.i64.wrap (n3 + 2)) /\ (IntKind.i64.wrap (n3 + 2)).toNat ≤ s56.size /\ 0 ≤ n3 /\ n3.toNat ≤ (IntKind.i64.wrap (n3 + 2)).toNat /\
 runD prog ds w fun w7 =>
 R (.returned (.bool ((s56.extract n3.toNat ((IntKind.i64.wrap (n3 + 2)).toNat)).toList == (⟨#[38, 38]⟩ : ByteArray).toList))) w7) (
 runD prog ds w fun w8 =>
 R (.returned (.bool false)) w8)))
def F44_k2 (R : Rt) : EP := (fun E ds w => dPtr (E 0) fun p0 => dInt .i64 (E 3) fun n3 => F44_1 R p0 n3 ds w)
def F44_q3 (R : Rt) : EQ := (thenQ (F44_k2 R) (F44_q1 R))
def F44_q4 (R : Rt) : EQ := (blockQ 0 (F44_q3 R))
def F44_q5 (R : Rt) (J1 : (Int) -> World -> Prop) : EQ := (thenQ (fun E _ w => dInt .i64 (E 3) fun n3 => J1 n3 w) (F44_q4 R))
def F44_2 (R : Rt) (J1 : (Int) -> World -> Prop) (p0 : Option Addr) (n3 : Int) (ds : Ds) (w : World) : Prop :=
 ptrE p0 fun a9 =>
 ∃ s13 : ByteArray, w.cell? a9 = some (.string s13) /\
 Br (decide (n3 < (s13.size : Int))) (
 ptrE p0 fun a10 =>
 ∃ s20 : ByteArray, w.cell? a10 = some (.string s20) /\
 ∃ b22 : UInt8, 0 ≤ n3 /\ s20[n3.toNat]? = some b22 /\
 Calls prog 39 #[.int .u8 (b22.toNat : Int)] w fun e w11 =>
 ∃ b23 : Bool, e = .returned (.bool b23) /\
 Br b23 (
 J1 (IntKind.i64.wrap (n3 + 1)) w11) (
 F44_1 R p0 n3 ds w11)) (
 F44_1 R p0 n3 ds w)
def F44_3 (R : Rt) (p0 : Option Addr) (n3 : Int) (ds : Ds) (w : World) : Prop :=
 loopT (fun (J1 : (Int) -> World -> Prop) (s : Int) (w : World) => F44_2 R J1 p0 s ds w) n3 w
abbrev F44_4 (R : Rt) (p0 : Option Addr) (n3 : Int) (ds : Ds) (w : World) : Prop := F44_3 R p0 n3 ds w
def F44_k6 (R : Rt) : EP := (fun E ds w => dPtr (E 0) fun p0 => dInt .i64 (E 3) fun n3 => F44_4 R p0 n3 ds w)
def F44_5 (R : Rt) (p0 : Option Addr) (ds : Ds) (w : World) : Prop :=
 ptrE p0 fun a12 =>
 ∃ n7 : Int, w.cell? (a12.add 1) = some (.int .i64 n7) /\
 F44_4 R p0 (IntKind.i64.wrap (n7 + 1)) ds w
theorem c44_l : flat (bodyOf f44) = [c44_0, c44_1, c44_2, c44_3, c44_4] := by kernel_rfl
theorem c44_2_l : flat (innerC c44_2) = [c44_2_0] := by kernel_rfl
theorem c44_2_0_l : flat (innerC c44_2_0) = [c44_2_0_0, c44_2_0_1, c44_2_0_2] := by kernel_rfl
theorem F44_1_ok (R : Rt) (p0 : Option Addr) (n3 : Int) (ds : Ds) (w : World) (E : Env) (e0 : E 0 = .pointer p0) (e3 : E 3 = .int .i64 n3) (h : F44_1 R p0 n3 ds w) :
    TrL prog f44.ntmps [c44_3, c44_4] (F44_q1 R) E ds w :=
  TrL_leaf (X := F44_1 R p0 n3 ds w) (setAll_cons e0 (setAll_cons e3 setAll_nil)) (by kernel_rfl) (by kernel_rfl) h
theorem F44_2_ok (R : Rt) (J1 : (Int) -> World -> Prop) (p0 : Option Addr) (n3 : Int) (ds : Ds) (w : World) (E : Env) (e0 : E 0 = .pointer p0) (e3 : E 3 = .int .i64 n3) (h : F44_2 R J1 p0 n3 ds w) :
    TrL prog f44.ntmps [c44_2_0_0, c44_2_0_1, c44_2_0_2] (F44_q5 R J1) E ds w :=
  TrL_leaf (X := F44_2 R J1 p0 n3 ds w) (setAll_cons e0 (setAll_cons e3 setAll_nil)) (by kernel_rfl) (by kernel_rfl) h
theorem F44_3_ok (R : Rt) (p0 : Option Addr) (n3 : Int) (ds : Ds) (w : World) (E : Env) (e0 : E 0 = .pointer p0) (e3 : E 3 = .int .i64 n3) (h : F44_3 R p0 n3 ds w) :
    TrL prog f44.ntmps [c44_2_0] (F44_q4 R) E ds w :=
  TrL_one (Tr_loop' (c := innerC c44_2_0) (σ := Int) (enc := (fun (s : Int) (E : Env) => E 3 = .int .i64 s)) (D := (fun E K => dInt .i64 (E 3) fun n3 => K n3)) (F := (fun (J1 : (Int) -> World -> Prop) (s : Int) (w : World) => F44_2 R J1 p0 s ds w)) (s0 := n3) (by kernel_rfl) c44_2_0_l e3 (by kernel_rfl) (fun E K hD => by obtain ⟨n3, e3, hD⟩ := dInt_elim hD; exact ⟨n3, e3, hD⟩)
      (fun J1 s E' w' he ha hF => by
      have e3' := he
      exact F44_2_ok R J1 p0 s ds w' E' ((ha 0 (by kernel_rfl)).trans e0) e3' hF) h)
theorem F44_4_ok (R : Rt) (p0 : Option Addr) (n3 : Int) (ds : Ds) (w : World) (E : Env) (e0 : E 0 = .pointer p0) (e3 : E 3 = .int .i64 n3) (h : F44_4 R p0 n3 ds w) :
    TrL prog f44.ntmps [c44_2, c44_3, c44_4] (F44_q1 R) E ds w :=
  TrL_head (K := (F44_k2 R)) (Tr_block' (c := innerC c44_2) (by kernel_rfl) c44_2_l (F44_3_ok R p0 n3 ds w E e0 e3 h))
    (fun E' ds' w' hD => by
      obtain ⟨p0, e0, hD⟩ := dPtr_elim hD; obtain ⟨n3, e3, hD⟩ := dInt_elim hD; exact F44_1_ok R p0 n3 ds' w' E' e0 e3 hD)
theorem F44_5_ok (R : Rt) (p0 : Option Addr) (ds : Ds) (w : World) (E : Env) (e0 : E 0 = .pointer p0) (h : F44_5 R p0 ds w) :
    TrL prog f44.ntmps [c44_0, c44_1, c44_2, c44_3, c44_4] (F44_q1 R) E ds w :=
  TrL_piece (pre := [c44_0, c44_1]) (K := (F44_k6 R)) (X := F44_5 R p0 ds w) (setAll_cons e0 setAll_nil) (by kernel_rfl) (by kernel_rfl)
    (fun E' ds' w' hD => by
      obtain ⟨p0, e0, hD⟩ := dPtr_elim hD; obtain ⟨n3, e3, hD⟩ := dInt_elim hD; exact F44_4_ok R p0 n3 ds' w' E' e0 e3 hD) h
theorem F44_calls (p0 : Option Addr) (w : World) (R : Rt) (h : F44_5 R p0 [] w) : Calls prog 44 #[.pointer p0] w R :=
  calls_of_L (l := [c44_0, c44_1, c44_2, c44_3, c44_4]) func44 (by kernel_rfl) (by rw [ntmps44]; exact Nat.le_of_ble_eq_true (by kernel_rfl)) c44_l
    (F44_5_ok R p0 [] w _ rfl h)
noncomputable def c67_0 := cI9 f67 0
noncomputable def c67_1 := cI9 f67 1
noncomputable def c67_2 := cI9 f67 2
def F67_q1 (R : Rt) : EQ := endQ prog f67.results.toList R
def F67_1 (R : Rt) (p0 : Option Addr) (n1 : Int) (s2 : ByteArray) (n3 : Int) (ds : Ds) (w : World) : Prop :=
 dwE w fun w1 =>
 ∃ S1 : World -> Prop, S1 w1 /\
 ptrE p0 fun a2 =>
 ∃ l12 : SV, (∀ w', S1 w' -> w'.cell? (a2.add 4) = some (.slice l12.a l12.len l12.cap)) /\
 ptrE p0 fun a3 =>
 ∃ n17 : Int, (∀ w', S1 w' -> w'.cell? (a3.add 1) = some (.int .i64 n17)) /\
 alE (.cells #[.int .i64 n1, .int .i64 n17, .string s2] 49) w1 fun r20 w4 =>
 S1 w4 /\
 ∃ l21 : SV, ∃ w5 : World, (Builtin.append_ #[23, 23] 23 #[.slice l12.a l12.len l12.cap, .slice (some ⟨r20, 0, none⟩) 1 1]).run prog w4 = .ok (.slice l21.a l21.len l21.cap) w5 /\
 ptrE p0 fun a6 =>
 st1 (a6.add 4) (.slice l21.a l21.len l21.cap) w5 fun w7 =>
 ptrE p0 fun a8 =>
 ∃ n27 : Int, w7.cell? (a8.add 1) = some (.int .i64 n27) /\
 ptrE p0 fun a9 =>
 st1 (a9.add 1) (.int .i64 (IntKind.i64.wrap (n27 + n3))) w7 fun w10 =>
 ptrE p0 fun a11 =>
 st1 (a11.add 2) (.bool true) w10 fun w12 =>
 runD prog ds w12 fun w13 =>
 R (.returned (.tuple #[])) w13
theorem c67_l : flat (bodyOf f67) = [c67_0, c67_1, c67_2] := by kernel_rfl
theorem F67_1_ok (R : Rt) (p0 : Option Addr) (n1 : Int) (s2 : ByteArray) (n3 : Int) (ds : Ds) (w : World) (E : Env) (e0 : E 0 = .pointer p0) (e1 : E 1 = .int .i64 n1) (e2 : E 2 = .string s2) (e3 : E 3 = .int .i64 n3) (h : F67_1 R p0 n1 s2 n3 ds w) :
    TrL prog f67.ntmps [c67_0, c67_1, c67_2] (F67_q1 R) E ds w :=
  TrL_leaf (X := F67_1 R p0 n1 s2 n3 ds w) (setAll_cons e0 (setAll_cons e1 (setAll_cons e2 (setAll_cons e3 setAll_nil)))) (by kernel_rfl) (by kernel_rfl) h
theorem F67_calls (p0 : Option Addr) (n1 : Int) (s2 : ByteArray) (n3 : Int) (w : World) (R : Rt) (h : F67_1 R p0 n1 s2 n3 [] w) : Calls prog 67 #[.pointer p0, .int .i64 n1, .string s2, .int .i64 n3] w R :=
  calls_of_L (l := [c67_0, c67_1, c67_2]) func67 (by kernel_rfl) (by rw [ntmps67]; exact Nat.le_of_ble_eq_true (by kernel_rfl)) c67_l
    (F67_1_ok R p0 n1 s2 n3 [] w _ rfl rfl rfl rfl h)
noncomputable def c26_0 := cI9 f26 0
noncomputable def c26_1 := cI9 f26 1
noncomputable def c26_2 := cI9 f26 2
def F26_q1 (R : Rt) : EQ := endQ prog f26.results.toList R
def F26_1 (R : Rt) (p0 : Option Addr) (ds : Ds) (w : World) : Prop :=
 ptrE p0 fun a1 =>
 ∃ b5 : Bool, w.cell? (a1.add 2) = some (.bool b5) /\
 Br b5 (
 dwE w fun w2 =>
 ∃ S1 : World -> Prop, S1 w2 /\
 ptrE p0 fun a3 =>
 ∃ l10 : SV, (∀ w', S1 w' -> w'.cell? (a3.add 4) = some (.slice l10.a l10.len l10.cap)) /\
 ptrE p0 fun a4 =>
 ∃ n14 : Int, (∀ w', S1 w' -> w'.cell? (a4.add 1) = some (.int .i64 n14)) /\
 alE (.cells #[.int .i64 5, .int .i64 n14, .string (⟨#[]⟩ : ByteArray)] 49) w2 fun r16 w5 =>
 S1 w5 /\
 ∃ l17 : SV, ∃ w6 : World, (Builtin.append_ #[23, 23] 23 #[.slice l10.a l10.len l10.cap, .slice (some ⟨r16, 0, none⟩) 1 1]).run prog w5 = .ok (.slice l17.a l17.len l17.cap) w6 /\
 ptrE p0 fun a7 =>
 st1 (a7.add 4) (.slice l17.a l17.len l17.cap) w6 fun w8 =>
 ptrE p0 fun a9 =>
 st1 (a9.add 2) (.bool false) w8 fun w10 =>
 runD prog ds w10 fun w11 =>
 R (.returned (.tuple #[])) w11) (
 ptrE p0 fun a12 =>
 st1 (a12.add 2) (.bool false) w fun w13 =>
 runD prog ds w13 fun w14 =>
 R (.returned (.tuple #[])) w14)
theorem c26_l : flat (bodyOf f26) = [c26_0, c26_1, c26_2] := by kernel_rfl
theorem F26_1_ok (R : Rt) (p0 : Option Addr) (ds : Ds) (w : World) (E : Env) (e0 : E 0 = .pointer p0) (h : F26_1 R p0 ds w) :
    TrL prog f26.ntmps [c26_0, c26_1, c26_2] (F26_q1 R) E ds w :=
  TrL_leaf (X := F26_1 R p0 ds w) (setAll_cons e0 setAll_nil) (by kernel_rfl) (by kernel_rfl) h
theorem F26_calls (p0 : Option Addr) (w : World) (R : Rt) (h : F26_1 R p0 [] w) : Calls prog 26 #[.pointer p0] w R :=
  calls_of_L (l := [c26_0, c26_1, c26_2]) func26 (by kernel_rfl) (by rw [ntmps26]; exact Nat.le_of_ble_eq_true (by kernel_rfl)) c26_l
    (F26_1_ok R p0 [] w _ rfl h)
noncomputable def c66_0 := cI9 f66 0
noncomputable def c66_1 := cI9 f66 1
noncomputable def c66_2 := cI9 f66 2
noncomputable def c66_3 := cI9 f66 3
noncomputable def c66_4 := cI9 f66 4
noncomputable def c66_2_0 := cJ9 c66_2 0
noncomputable def c66_2_0_0 := cJ9 c66_2_0 0
noncomputable def c66_2_0_1 := cJ9 c66_2_0 1
noncomputable def c66_2_0_2 := cJ9 c66_2_0 2
def F66_q1 (R : Rt) : EQ := endQ prog f66.results.toList R
def F66_1 (R : Rt) (n5 : Int) (ds : Ds) (w : World) : Prop :=
 runD prog ds w fun w1 =>
 R (.returned (.int .i64 n5)) w1
def F66_k2 (R : Rt) : EP := (fun E ds w => dInt .i64 (E 5) fun n5 => F66_1 R n5 ds w)
def F66_q3 (R : Rt) : EQ := (thenQ (F66_k2 R) (F66_q1 R))
def F66_q4 (R : Rt) : EQ := (blockQ 0 (F66_q3 R))
def F66_q5 (R : Rt) (J1 : (Int) -> World -> Prop) : EQ := (thenQ (fun E _ w => dInt .i64 (E 5) fun n5 => J1 n5 w) (F66_q4 R))
def F66_2 (R : Rt) (J1 : (Int) -> World -> Prop) (p0 : Option Addr) (b1 : Bool) (n5 : Int) (ds : Ds) (w : World) : Prop :=
 dwE w fun w2 =>
 ptrE p0 fun a3 =>
 ∃ n10 : Int, w2.cell? (a3.add 1) = some (.int .i64 n10) /\
 ptrE p0 fun a4 =>
 ∃ s16 : ByteArray, w2.cell? a4 = some (.string s16) /\
 Br (decide ((IntKind.i64.wrap (n10 + n5)) < (s16.size : Int))) (
 dwE w2 fun w5 =>
 ptrE p0 fun a6 =>
 ∃ s22 : ByteArray, w5.cell? a6 = some (.string s22) /\
 ptrE p0 fun a7 =>
 ∃ n26 : Int, w5.cell? (a7.add 1) = some (.int .i64 n26) /\
 ∃ b29 : UInt8, 0 ≤ (IntKind.i64.wrap (n26 + n5)) /\ s22[(IntKind.i64.wrap (n26 + n5)).toNat]? = some b29 /\
 Calls prog 69 #[.int .u8 (b29.toNat : Int)] w5 fun e w8 =>
 ∃ b31 : Bool, e = .returned (.bool b31) /\
 Br (!b31) (
 Br b1 (
 Calls prog 65 #[.int .u8 (b29.toNat : Int)] w8 fun e w9 =>
 ∃ b37 : Bool, e = .returned (.bool b37) /\
 Br (!b37) (
 F66_1 R n5 ds w9) (
 J1 (IntKind.i64.wrap (n5 + 1)) w9)) (
 F66_1 R n5 ds w8)) (
 J1 (IntKind.i64.wrap (n5 + 1)) w8)) (
 F66_1 R n5 ds w2)
def F66_3 (R : Rt) (p0 : Option Addr) (b1 : Bool) (n5 : Int) (ds : Ds) (w : World) : Prop :=
 loopT (fun (J1 : (Int) -> World -> Prop) (s : Int) (w : World) => F66_2 R J1 p0 b1 s ds w) n5 w
abbrev F66_4 (R : Rt) (p0 : Option Addr) (b1 : Bool) (n5 : Int) (ds : Ds) (w : World) : Prop := F66_3 R p0 b1 n5 ds w
def F66_k6 (R : Rt) : EP := (fun E ds w => dPtr (E 0) fun p0 => dBl (E 1) fun b1 => dInt .i64 (E 5) fun n5 => F66_4 R p0 b1 n5 ds w)
def F66_5 (R : Rt) (p0 : Option Addr) (b1 : Bool) (ds : Ds) (w : World) : Prop :=
 F66_4 R p0 b1 0 ds w
theorem c66_l : flat (bodyOf f66) = [c66_0, c66_1, c66_2, c66_3, c66_4] := by kernel_rfl
theorem c66_2_l : flat (innerC c66_2) = [c66_2_0] := by kernel_rfl
theorem c66_2_0_l : flat (innerC c66_2_0) = [c66_2_0_0, c66_2_0_1, c66_2_0_2] := by kernel_rfl
theorem F66_1_ok (R : Rt) (n5 : Int) (ds : Ds) (w : World) (E : Env) (e5 : E 5 = .int .i64 n5) (h : F66_1 R n5 ds w) :
    TrL prog f66.ntmps [c66_3, c66_4] (F66_q1 R) E ds w :=
  TrL_leaf (X := F66_1 R n5 ds w) (setAll_cons e5 setAll_nil) (by kernel_rfl) (by kernel_rfl) h
theorem F66_2_ok (R : Rt) (J1 : (Int) -> World -> Prop) (p0 : Option Addr) (b1 : Bool) (n5 : Int) (ds : Ds) (w : World) (E : Env) (e0 : E 0 = .pointer p0) (e1 : E 1 = .bool b1) (e5 : E 5 = .int .i64 n5) (h : F66_2 R J1 p0 b1 n5 ds w) :
    TrL prog f66.ntmps [c66_2_0_0, c66_2_0_1, c66_2_0_2] (F66_q5 R J1) E ds w :=
  TrL_leaf (X := F66_2 R J1 p0 b1 n5 ds w) (setAll_cons e0 (setAll_cons e1 (setAll_cons e5 setAll_nil))) (by kernel_rfl) (by kernel_rfl) h
theorem F66_3_ok (R : Rt) (p0 : Option Addr) (b1 : Bool) (n5 : Int) (ds : Ds) (w : World) (E : Env) (e0 : E 0 = .pointer p0) (e1 : E 1 = .bool b1) (e5 : E 5 = .int .i64 n5) (h : F66_3 R p0 b1 n5 ds w) :
    TrL prog f66.ntmps [c66_2_0] (F66_q4 R) E ds w :=
  TrL_one (Tr_loop' (c := innerC c66_2_0) (σ := Int) (enc := (fun (s : Int) (E : Env) => E 5 = .int .i64 s)) (D := (fun E K => dInt .i64 (E 5) fun n5 => K n5)) (F := (fun (J1 : (Int) -> World -> Prop) (s : Int) (w : World) => F66_2 R J1 p0 b1 s ds w)) (s0 := n5) (by kernel_rfl) c66_2_0_l e5 (by kernel_rfl) (fun E K hD => by obtain ⟨n5, e5, hD⟩ := dInt_elim hD; exact ⟨n5, e5, hD⟩)
      (fun J1 s E' w' he ha hF => by
      have e5' := he
      exact F66_2_ok R J1 p0 b1 s ds w' E' ((ha 0 (by kernel_rfl)).trans e0) ((ha 1 (by kernel_rfl)).trans e1) e5' hF) h)
theorem F66_4_ok (R : Rt) (p0 : Option Addr) (b1 : Bool) (n5 : Int) (ds : Ds) (w : World) (E : Env) (e0 : E 0 = .pointer p0) (e1 : E 1 = .bool b1) (e5 : E 5 = .int .i64 n5) (h : F66_4 R p0 b1 n5 ds w) :
    TrL prog f66.ntmps [c66_2, c66_3, c66_4] (F66_q1 R) E ds w :=
  TrL_head (K := (F66_k2 R)) (Tr_block' (c := innerC c66_2) (by kernel_rfl) c66_2_l (F66_3_ok R p0 b1 n5 ds w E e0 e1 e5 h))
    (fun E' ds' w' hD => by
      obtain ⟨n5, e5, hD⟩ := dInt_elim hD; exact F66_1_ok R n5 ds' w' E' e5 hD)
theorem F66_5_ok (R : Rt) (p0 : Option Addr) (b1 : Bool) (ds : Ds) (w : World) (E : Env) (e0 : E 0 = .pointer p0) (e1 : E 1 = .bool b1) (h : F66_5 R p0 b1 ds w) :
    TrL prog f66.ntmps [c66_0, c66_1, c66_2, c66_3, c66_4] (F66_q1 R) E ds w :=
  TrL_piece (pre := [c66_0, c66_1]) (K := (F66_k6 R)) (X := F66_5 R p0 b1 ds w) (setAll_cons e0 (setAll_cons e1 setAll_nil)) (by kernel_rfl) (by kernel_rfl)
    (fun E' ds' w' hD => by
      obtain ⟨p0, e0, hD⟩ := dPtr_elim hD; obtain ⟨b1, e1, hD⟩ := dBl_elim hD; obtain ⟨n5, e5, hD⟩ := dInt_elim hD; exact F66_4_ok R p0 b1 n5 ds' w' E' e0 e1 e5 hD) h
theorem F66_calls (p0 : Option Addr) (b1 : Bool) (w : World) (R : Rt) (h : F66_5 R p0 b1 [] w) : Calls prog 66 #[.pointer p0, .bool b1] w R :=
  calls_of_L (l := [c66_0, c66_1, c66_2, c66_3, c66_4]) func66 (by kernel_rfl) (by rw [ntmps66]; exact Nat.le_of_ble_eq_true (by kernel_rfl)) c66_l
    (F66_5_ok R p0 b1 [] w _ rfl rfl h)
end Go.Proofs.YtlogipcgejfnnaaGreatDoor

/- Shallow texts of functions, printed by program, each checked by the kernel against the loaded code. No condition. -/
set_option maxRecDepth 100000
set_option linter.unusedVariables false
namespace Go.Proofs.YtlogipcgejfnnaaGreatDoor
open Go.Sh
open Tryz
@[reducible] noncomputable def cI10 (f : Func) (i : Nat) : Code := itemAt (flat (bodyOf f)) i
@[reducible] noncomputable def cJ10 (c : Code) (i : Nat) : Code := itemAt (flat (innerC c)) i
noncomputable def c52_0 := cI10 f52 0
noncomputable def c52_1 := cI10 f52 1
noncomputable def c52_2 := cI10 f52 2
noncomputable def c52_3 := cI10 f52 3
noncomputable def c52_4 := cI10 f52 4
def F52_q1 (R : Rt) : EQ := endQ prog f52.results.toList R
def F52_1 (R : Rt) (n0_0 n0_1 : Int) (s0_2 : ByteArray) (ds : Ds) (w : World) : Prop :=
 alE (.cells #[.int .i64 n0_0, .int .i64 n0_1, .string s0_2] 49) w fun r1 w1 =>
 ∃ n4 : Int, w1.cell? (⟨r1, 0, none⟩ : Addr) = some (.int .i64 n4) /\
 Br (n4 == 2) (
 ∃ s8 : ByteArray, w1.cell? ((⟨r1, 0, none⟩ : Addr).add 2) = some (.string s8) /\
 Calls prog 75 #[.string s8, .int .u8 34] w1 fun e w2 =>
 ∃ b9 : Bool, e = .returned (.bool b9) /\
 Br b9 (
 ∃ s11 : ByteArray, w2.cell? ((⟨r1, 0, none⟩ : Addr).add 2) = some (.string s11) /\
 (((⟨#[39]⟩ : ByteArray).size + s11.size : Nat) : Int) ≤ 9223372036854775807 /\
 ((((⟨#[39]⟩ : ByteArray) ++ s11).size + (⟨#[39]⟩ : ByteArray).size : Nat) : Int) ≤ 9223372036854775807 /\
 runD prog ds w2 fun w3 =>
 R (.returned (.string (((⟨#[39]⟩ : ByteArray) ++ s11) ++ (⟨#[39]⟩ : ByteArray)))) w3) (
 ∃ s15 : ByteArray, w2.cell? ((⟨r1, 0, none⟩ : Addr).add 2) = some (.string s15) /\
 (((⟨#[34]⟩ : ByteArray).size + s15.size : Nat) : Int) ≤ 9223372036854775807 /\
 ((((⟨#[34]⟩ : ByteArray) ++ s15).size + (⟨#[34]⟩ : ByteArray).size : Nat) : Int) ≤ 9223372036854775807 /\
 runD prog ds w2 fun w4 =>
 R (.returned (.string (((⟨#[34]⟩ : ByteArray) ++ s15) ++ (⟨#[34]⟩ : ByteArray)))) w4)) (
 Br (n4 == 3) (
 ∃ s21 : ByteArray, w1.cell? ((⟨r1, 0, none⟩ : Addr).add 2) = some (.string s21) /\
 Br ((s21.size : Int) != 8) (
 ∃ s25 : ByteArray, w1.cell? ((⟨r1, 0, none⟩ : Addr).add 2) = some (.string s25) /\
 (((⟨#[123]⟩ : ByteArray).size + s25.size : Nat) : Int) ≤ 9223372036854775807 /\
 ((((⟨#[123]⟩ : ByteArray) ++ s25).size + (⟨#[125]⟩ : ByteArray).size : Nat) : Int) ≤ 9223372036854775807 /\
 runD prog ds w1 fun w5 =>
 R (.returned (.string (((⟨#[123]⟩ : ByteArray) ++ s25) ++ (⟨#[125]⟩ : ByteArray)))) w5) (
 dwE w1 fun w6 =>
 ∃ s29 : ByteArray, w6.cell? ((⟨r1, 0, none⟩ : Addr).add 2) = some (.string s29) /\
 0 ≤ (4 : Int) /\ (4 : Int).toNat ≤ s29.size /\ 0 ≤ (4 : Int).toNat /\
 (((⟨#[123, 94]⟩ : ByteArray).size + (s29.extract 0 ((4 : Int).toNat)).size : Nat) : Int) ≤ 9223372036854775807 /\
 ((((⟨#[123, 94]⟩ : ByteArray) ++ (s29.extract 0 ((4 : Int).toNat))).size + (⟨#[45]⟩ : ByteArray).size : Nat) : Int) ≤ 9223372036854775807 /\
 ∃ s34 : ByteArray, w6.cell? ((⟨r1, 0, none⟩ : Addr).add 2) = some (.string s34) /\
 0 ≤ (6 : Int) /\ (6 : Int).toNat ≤ s34.size /\ 0 ≤ (4 : Int) /\ (4 : Int).toNat ≤ (6 : Int).toNat /\
 (((((⟨#[123, 94]⟩ : ByteArray) ++ (s29.extract 0 ((4 : Int).toNat))) ++ (⟨#[45]⟩ : ByteArray)).size + (s34.extract ((4 : Int).toNat) ((6 : Int).toNat)).size : Nat) : Int) ≤ 9223372036854775807 /\
 ((((((⟨#[123, 94]⟩ : ByteArray) ++ (s29.extract 0 ((4 : Int).toNat))) ++ (⟨#[45]⟩ : ByteArray)) ++ (s34.extract ((4 : Int).toNat) ((6 : Int).toNat))).size + (⟨#[45]⟩ : ByteArray).size : Nat) : Int) ≤ 9223372036854775807 /\
 ∃ s39 : ByteArray, w6.cell? ((⟨r1, 0, none⟩ : Addr).add 2) = some (.string s39) /\
 s39.size ≤ s39.size /\ 0 ≤ (6 : Int) /\ (6 : Int).toNat ≤ s39.size /\
 (((((((⟨#[123, 94]⟩ : ByteArray) ++ (s29.extract 0 ((4 : Int).toNat))) ++ (⟨#[45]⟩ : ByteArray)) ++ (s34.extract ((4 : Int).toNat) ((6 : Int).toNat))) ++ (⟨#[45]⟩ : ByteArray)).size + (s39.extract ((6 : Int).toNat) s39.size).size : Nat) : Int) ≤ 9223372036854775807 /\
 ((((((((⟨#[123, 94]⟩ : ByteArray) ++ (s29.extract 0 ((4 : Int).toNat))) ++ (⟨#[45]⟩ : ByteArray)) ++ (s34.extract ((4 : Int).toNat) ((6 : Int).toNat))) ++ (⟨#[45]⟩ : ByteArray)) ++ (s39.extract ((6 : Int).toNat) s39.size)).size + (⟨#[125]⟩ : ByteArray).size : Nat) : Int) ≤ 9223372036854775807 /\
 runD prog ds w6 fun w7 =>
 R (.returned (.string (((((((⟨#[123, 94]⟩ : ByteArray) ++ (s29.extract 0 ((4 : Int).toNat))) ++ (⟨#[45]⟩ : ByteArray)) ++ (s34.extract ((4 : Int).toNat) ((6 : Int).toNat))) ++ (⟨#[45]⟩ : ByteArray)) ++ (s39.extract ((6 : Int).toNat) s39.size)) ++ (⟨#[125]⟩ : ByteArray)))) w7)) (
 Br (n4 == 5) (
 runD prog ds w1 fun w8 =>
 R (.returned (.string (⟨#[10]⟩ : ByteArray))) w8) (
 ∃ s46 : ByteArray, w1.cell? ((⟨r1, 0, none⟩ : Addr).add 2) = some (.string s46) /\
 runD prog ds w1 fun w9 =>
 R (.returned (.string s46)) w9)))
theorem c52_l : flat (bodyOf f52) = [c52_0, c52_1, c52_2, c52_3, c52_4] := by kernel_rfl
theorem F52_1_ok (R : Rt) (n0_0 n0_1 : Int) (s0_2 : ByteArray) (ds : Ds) (w : World) (E : Env) (e0 : E 0 = .agg #[.int .i64 n0_0, .int .i64 n0_1, .string s0_2]) (h : F52_1 R n0_0 n0_1 s0_2 ds w) :
    TrL prog f52.ntmps [c52_0, c52_1, c52_2, c52_3, c52_4] (F52_q1 R) E ds w :=
  TrL_leaf (X := F52_1 R n0_0 n0_1 s0_2 ds w) (setAll_cons e0 setAll_nil) (by kernel_rfl) (by kernel_rfl) h
theorem F52_calls (n0_0 n0_1 : Int) (s0_2 : ByteArray) (w : World) (R : Rt) (h : F52_1 R n0_0 n0_1 s0_2 [] w) : Calls prog 52 #[.agg #[.int .i64 n0_0, .int .i64 n0_1, .string s0_2]] w R :=
  calls_of_L (l := [c52_0, c52_1, c52_2, c52_3, c52_4]) func52 (by kernel_rfl) (by rw [ntmps52]; exact Nat.le_of_ble_eq_true (by kernel_rfl)) c52_l
    (F52_1_ok R n0_0 n0_1 s0_2 [] w _ rfl h)
noncomputable def c30_0 := cI10 f30 0
noncomputable def c30_1 := cI10 f30 1
noncomputable def c30_2 := cI10 f30 2
noncomputable def c30_3 := cI10 f30 3
noncomputable def c30_4 := cI10 f30 4
noncomputable def c30_5 := cI10 f30 5
noncomputable def c30_3_0 := cJ10 c30_3 0
noncomputable def c30_3_0_0 := cJ10 c30_3_0 0
noncomputable def c30_3_0_1 := cJ10 c30_3_0 1
noncomputable def c30_3_0_2 := cJ10 c30_3_0 2
noncomputable def c30_3_0_3 := cJ10 c30_3_0 3
def F30_q1 (R : Rt) : EQ := endQ prog f30.results.toList R
def F30_1 (R : Rt) (s3 : ByteArray) (ds : Ds) (w : World) : Prop :=
 runD prog ds w fun w1 =>
 R (.returned (.string s3)) w1
def F30_k2 (R : Rt) : EP := (fun E ds w => dStr (E 3) fun s3 => F30_1 R s3 ds w)
def F30_q3 (R : Rt) : EQ := (thenQ (F30_k2 R) (F30_q1 R))
def F30_q4 (R : Rt) : EQ := (blockQ 0 (F30_q3 R))
def F30_q5 (R : Rt) (J1 : (ByteArray × Int) -> World -> Prop) : EQ := (thenQ (fun E _ w => dStr (E 3) fun s3 => dInt .i64 (E 4) fun n4 => J1 (s3, n4) w) (F30_q4 R))
def F30_2 (R : Rt) (J1 : (ByteArray × Int) -> World -> Prop) (l0 : SV) (s3 : ByteArray) (n4 : Int) (ds : Ds) (w : World) : Prop :=
 J1 (s3, (IntKind.i64.wrap (n4 + 1))) w
def F30_k6 (R : Rt) (J1 : (ByteArray × Int) -> World -> Prop) : EP := (fun E ds w => dSl (E 0) fun l0 => dStr (E 3) fun s3 => dInt .i64 (E 4) fun n4 => F30_2 R J1 l0 s3 n4 ds w)
def F30_3 (R : Rt) (J1 : (ByteArray × Int) -> World -> Prop) (l0 : SV) (s3 : ByteArray) (n4 : Int) (ds : Ds) (w : World) : Prop :=
 Br (decide (n4 > 0)) (
 ∃ a2 : Addr, l0.a = some a2 /\ 0 ≤ n4 /\ n4 < (l0.len : Int) /\
 ∃ n18 : Int, w.cell? (a2.add (n4.toNat * 3)) = some (.int .i64 n18) /\
 Br (n18 != 5) (
 ∃ a3 : Addr, l0.a = some a3 /\ 0 ≤ (IntKind.i64.wrap (n4 - 1)) /\ (IntKind.i64.wrap (n4 - 1)) < (l0.len : Int) /\
 ∃ n27 : Int, w.cell? (a3.add ((IntKind.i64.wrap (n4 - 1)).toNat * 3)) = some (.int .i64 n27) /\
 Br (n27 != 5) (
 ((s3.size + (⟨#[32]⟩ : ByteArray).size : Nat) : Int) ≤ 9223372036854775807 /\
 ∃ a4 : Addr, l0.a = some a4 /\ 0 ≤ n4 /\ n4 < (l0.len : Int) /\
 ∃ n36_0 : Int, w.cell? ((a4.add (n4.toNat * 3)).add 0) = some (.int .i64 n36_0) /\
 ∃ n36_1 : Int, w.cell? ((a4.add (n4.toNat * 3)).add 1) = some (.int .i64 n36_1) /\
 ∃ s36_2 : ByteArray, w.cell? ((a4.add (n4.toNat * 3)).add 2) = some (.string s36_2) /\
 Calls prog 52 #[.agg #[.int .i64 n36_0, .int .i64 n36_1, .string s36_2]] w fun e w5 =>
 ∃ s37 : ByteArray, e = .returned (.string s37) /\
 (((s3 ++ (⟨#[32]⟩ : ByteArray)).size + s37.size : Nat) : Int) ≤ 9223372036854775807 /\
 F30_2 R J1 l0 ((s3 ++ (⟨#[32]⟩ : ByteArray)) ++ s37) n4 ds w5) (
 ∃ a6 : Addr, l0.a = some a6 /\ 0 ≤ n4 /\ n4 < (l0.len : Int) /\
 ∃ n36_0 : Int, w.cell? ((a6.add (n4.toNat * 3)).add 0) = some (.int .i64 n36_0) /\
 ∃ n36_1 : Int, w.cell? ((a6.add (n4.toNat * 3)).add 1) = some (.int .i64 n36_1) /\
 ∃ s36_2 : ByteArray, w.cell? ((a6.add (n4.toNat * 3)).add 2) = some (.string s36_2) /\
 Calls prog 52 #[.agg #[.int .i64 n36_0, .int .i64 n36_1, .string s36_2]] w fun e w7 =>
 ∃ s37 : ByteArray, e = .returned (.string s37) /\
 ((s3.size + s37.size : Nat) : Int) ≤ 9223372036854775807 /\
 F30_2 R J1 l0 (s3 ++ s37) n4 ds w7)) (
 ∃ a8 : Addr, l0.a = some a8 /\ 0 ≤ n4 /\ n4 < (l0.len : Int) /\
 ∃ n36_0 : Int, w.cell? ((a8.add (n4.toNat * 3)).add 0) = some (.int .i64 n36_0) /\
 ∃ n36_1 : Int, w.cell? ((a8.add (n4.toNat * 3)).add 1) = some (.int .i64 n36_1) /\
 ∃ s36_2 : ByteArray, w.cell? ((a8.add (n4.toNat * 3)).add 2) = some (.string s36_2) /\
 Calls prog 52 #[.agg #[.int .i64 n36_0, .int .i64 n36_1, .string s36_2]] w fun e w9 =>
 ∃ s37 : ByteArray, e = .returned (.string s37) /\
 ((s3.size + s37.size : Nat) : Int) ≤ 9223372036854775807 /\
 F30_2 R J1 l0 (s3 ++ s37) n4 ds w9)) (
 ∃ a10 : Addr, l0.a = some a10 /\ 0 ≤ n4 /\ n4 < (l0.len : Int) /\
 ∃ n36_0 : Int, w.cell? ((a10.add (n4.toNat * 3)).add 0) = some (.int .i64 n36_0) /\
 ∃ n36_1 : Int, w.cell? ((a10.add (n4.toNat * 3)).add 1) = some (.int .i64 n36_1) /\
 ∃ s36_2 : ByteArray, w.cell? ((a10.add (n4.toNat * 3)).add 2) = some (.string s36_2) /\
 Calls prog 52 #[.agg #[.int .i64 n36_0, .int .i64 n36_1, .string s36_2]] w fun e w11 =>
 ∃ s37 : ByteArray, e = .returned (.string s37) /\
 ((s3.size + s37.size : Nat) : Int) ≤ 9223372036854775807 /\
 F30_2 R J1 l0 (s3 ++ s37) n4 ds w11)
def F30_k7 (R : Rt) (J1 : (ByteArray × Int) -> World -> Prop) : EP := (fun E ds w => dSl (E 0) fun l0 => dStr (E 3) fun s3 => dInt .i64 (E 4) fun n4 => F30_3 R J1 l0 s3 n4 ds w)
def F30_4 (R : Rt) (J1 : (ByteArray × Int) -> World -> Prop) (l0 : SV) (s3 : ByteArray) (n4 : Int) (ds : Ds) (w : World) : Prop :=
 Br (decide (n4 < (l0.len : Int))) (
 F30_3 R J1 l0 s3 n4 ds w) (
 F30_1 R s3 ds w)
def F30_5 (R : Rt) (l0 : SV) (s3 : ByteArray) (n4 : Int) (ds : Ds) (w : World) : Prop :=
 loopT (fun (J1 : (ByteArray × Int) -> World -> Prop) (s : ByteArray × Int) (w : World) => F30_4 R J1 l0 s.1 s.2 ds w) (s3, n4) w
abbrev F30_6 (R : Rt) (l0 : SV) (s3 : ByteArray) (n4 : Int) (ds : Ds) (w : World) : Prop := F30_5 R l0 s3 n4 ds w
def F30_k8 (R : Rt) : EP := (fun E ds w => dSl (E 0) fun l0 => dStr (E 3) fun s3 => dInt .i64 (E 4) fun n4 => F30_6 R l0 s3 n4 ds w)
def F30_7 (R : Rt) (l0 : SV) (ds : Ds) (w : World) : Prop :=
 F30_6 R l0 (⟨#[]⟩ : ByteArray) 0 ds w
theorem c30_l : flat (bodyOf f30) = [c30_0, c30_1, c30_2, c30_3, c30_4, c30_5] := by kernel_rfl
theorem c30_3_l : flat (innerC c30_3) = [c30_3_0] := by kernel_rfl
theorem c30_3_0_l : flat (innerC c30_3_0) = [c30_3_0_0, c30_3_0_1, c30_3_0_2, c30_3_0_3] := by kernel_rfl
theorem F30_1_ok (R : Rt) (s3 : ByteArray) (ds : Ds) (w : World) (E : Env) (e3 : E 3 = .string s3) (h : F30_1 R s3 ds w) :
    TrL prog f30.ntmps [c30_4, c30_5] (F30_q1 R) E ds w :=
  TrL_leaf (X := F30_1 R s3 ds w) (setAll_cons e3 setAll_nil) (by kernel_rfl) (by kernel_rfl) h
theorem F30_2_ok (R : Rt) (J1 : (ByteArray × Int) -> World -> Prop) (l0 : SV) (s3 : ByteArray) (n4 : Int) (ds : Ds) (w : World) (E : Env) (e0 : E 0 = .slice l0.a l0.len l0.cap) (e3 : E 3 = .string s3) (e4 : E 4 = .int .i64 n4) (h : F30_2 R J1 l0 s3 n4 ds w) :
    TrL prog f30.ntmps [c30_3_0_3] (F30_q5 R J1) E ds w :=
  TrL_leaf (X := F30_2 R J1 l0 s3 n4 ds w) (setAll_cons e0 (setAll_cons e3 (setAll_cons e4 setAll_nil))) (by kernel_rfl) (by kernel_rfl) h
theorem F30_3_ok (R : Rt) (J1 : (ByteArray × Int) -> World -> Prop) (l0 : SV) (s3 : ByteArray) (n4 : Int) (ds : Ds) (w : World) (E : Env) (e0 : E 0 = .slice l0.a l0.len l0.cap) (e3 : E 3 = .string s3) (e4 : E 4 = .int .i64 n4) (h : F30_3 R J1 l0 s3 n4 ds w) :
    TrL prog f30.ntmps [c30_3_0_2, c30_3_0_3] (F30_q5 R J1) E ds w :=
  TrL_piece (pre := [c30_3_0_2]) (K := (F30_k6 R J1)) (X := F30_3 R J1 l0 s3 n4 ds w) (setAll_cons e0 (setAll_cons e3 (setAll_cons e4 setAll_nil))) (by kernel_rfl) (by kernel_rfl)
    (fun E' ds' w' hD => by
      obtain ⟨l0, e0, hD⟩ := dSl_elim hD; obtain ⟨s3, e3, hD⟩ := dStr_elim hD; obtain ⟨n4, e4, hD⟩ := dInt_elim hD; exact F30_2_ok R J1 l0 s3 n4 ds' w' E' e0 e3 e4 hD) h
theorem F30_4_ok (R : Rt) (J1 : (ByteArray × Int) -> World -> Prop) (l0 : SV) (s3 : ByteArray) (n4 : Int) (ds : Ds) (w : World) (E : Env) (e0 : E 0 = .slice l0.a l0.len l0.cap) (e3 : E 3 = .string s3) (e4 : E 4 = .int .i64 n4) (h : F30_4 R J1 l0 s3 n4 ds w) :
    TrL prog f30.ntmps [c30_3_0_0, c30_3_0_1, c30_3_0_2, c30_3_0_3] (F30_q5 R J1) E ds w :=
  TrL_piece (pre := [c30_3_0_0, c30_3_0_1]) (K := (F30_k7 R J1)) (X := F30_4 R J1 l0 s3 n4 ds w) (setAll_cons e0 (setAll_cons e3 (setAll_cons e4 setAll_nil))) (by kernel_rfl) (by kernel_rfl)
    (fun E' ds' w' hD => by
      obtain ⟨l0, e0, hD⟩ := dSl_elim hD; obtain ⟨s3, e3, hD⟩ := dStr_elim hD; obtain ⟨n4, e4, hD⟩ := dInt_elim hD; exact F30_3_ok R J1 l0 s3 n4 ds' w' E' e0 e3 e4 hD) h
theorem F30_5_ok (R : Rt) (l0 : SV) (s3 : ByteArray) (n4 : Int) (ds : Ds) (w : World) (E : Env) (e0 : E 0 = .slice l0.a l0.len l0.cap) (e3 : E 3 = .string s3) (e4 : E 4 = .int .i64 n4) (h : F30_5 R l0 s3 n4 ds w) :
    TrL prog f30.ntmps [c30_3_0] (F30_q4 R) E ds w :=
  TrL_one (Tr_loop' (c := innerC c30_3_0) (σ := ByteArray × Int) (enc := (fun (s : ByteArray × Int) (E : Env) => E 3 = .string s.1 /\ E 4 = .int .i64 s.2)) (D := (fun E K => dStr (E 3) fun s3 => dInt .i64 (E 4) fun n4 => K (s3, n4))) (F := (fun (J1 : (ByteArray × Int) -> World -> Prop) (s : ByteArray × Int) (w : World) => F30_4 R J1 l0 s.1 s.2 ds w)) (s0 := (s3, n4)) (by kernel_rfl) c30_3_0_l ⟨e3, e4⟩ (by kernel_rfl) (fun E K hD => by obtain ⟨s3, e3, hD⟩ := dStr_elim hD; obtain ⟨n4, e4, hD⟩ := dInt_elim hD; exact ⟨(s3, n4), ⟨e3, e4⟩, hD⟩)
      (fun J1 s E' w' he ha hF => by
      obtain ⟨e3', e4'⟩ := he
      exact F30_4_ok R J1 l0 s.1 s.2 ds w' E' ((ha 0 (by kernel_rfl)).trans e0) e3' e4' hF) h)
theorem F30_6_ok (R : Rt) (l0 : SV) (s3 : ByteArray) (n4 : Int) (ds : Ds) (w : World) (E : Env) (e0 : E 0 = .slice l0.a l0.len l0.cap) (e3 : E 3 = .string s3) (e4 : E 4 = .int .i64 n4) (h : F30_6 R l0 s3 n4 ds w) :
    TrL prog f30.ntmps [c30_3, c30_4, c30_5] (F30_q1 R) E ds w :=
  TrL_head (K := (F30_k2 R)) (Tr_block' (c := innerC c30_3) (by kernel_rfl) c30_3_l (F30_5_ok R l0 s3 n4 ds w E e0 e3 e4 h))
    (fun E' ds' w' hD => by
      obtain ⟨s3, e3, hD⟩ := dStr_elim hD; exact F30_1_ok R s3 ds' w' E' e3 hD)
theorem F30_7_ok (R : Rt) (l0 : SV) (ds : Ds) (w : World) (E : Env) (e0 : E 0 = .slice l0.a l0.len l0.cap) (h : F30_7 R l0 ds w) :
    TrL prog f30.ntmps [c30_0, c30_1, c30_2, c30_3, c30_4, c30_5] (F30_q1 R) E ds w :=
  TrL_piece (pre := [c30_0, c30_1, c30_2]) (K := (F30_k8 R)) (X := F30_7 R l0 ds w) (setAll_cons e0 setAll_nil) (by kernel_rfl) (by kernel_rfl)
    (fun E' ds' w' hD => by
      obtain ⟨l0, e0, hD⟩ := dSl_elim hD; obtain ⟨s3, e3, hD⟩ := dStr_elim hD; obtain ⟨n4, e4, hD⟩ := dInt_elim hD; exact F30_6_ok R l0 s3 n4 ds' w' E' e0 e3 e4 hD) h
theorem F30_calls (l0 : SV) (w : World) (R : Rt) (h : F30_7 R l0 [] w) : Calls prog 30 #[.slice l0.a l0.len l0.cap] w R :=
  calls_of_L (l := [c30_0, c30_1, c30_2, c30_3, c30_4, c30_5]) func30 (by kernel_rfl) (by rw [ntmps30]; exact Nat.le_of_ble_eq_true (by kernel_rfl)) c30_l
    (F30_7_ok R l0 [] w _ rfl h)
noncomputable def c27_0 := cI10 f27 0
noncomputable def c27_1 := cI10 f27 1
noncomputable def c27_2 := cI10 f27 2
noncomputable def c27_3 := cI10 f27 3
noncomputable def c27_4 := cI10 f27 4
noncomputable def c27_5 := cI10 f27 5
noncomputable def c27_6 := cI10 f27 6
noncomputable def c27_4_0 := cJ10 c27_4 0
noncomputable def c27_4_0_0 := cJ10 c27_4_0 0
noncomputable def c27_4_0_1 := cJ10 c27_4_0 1
noncomputable def c27_4_0_2 := cJ10 c27_4_0 2
noncomputable def c27_4_0_3 := cJ10 c27_4_0 3
def F27_q1 (R : Rt) : EQ := endQ prog f27.results.toList R
def F27_1 (R : Rt) (ds : Ds) (w : World) : Prop :=
 runD prog ds w fun w1 =>
 R (.returned (.bool true)) w1
def F27_k2 (R : Rt) : EP := (fun E ds w => F27_1 R ds w)
def F27_q3 (R : Rt) : EQ := (thenQ (F27_k2 R) (F27_q1 R))
def F27_q4 (R : Rt) : EQ := (blockQ 0 (F27_q3 R))
def F27_q5 (R : Rt) (J1 : (Int) -> World -> Prop) : EQ := (thenQ (fun E _ w => dInt .i64 (E 5) fun n5 => J1 n5 w) (F27_q4 R))
def F27_2 (R : Rt) (J1 : (Int) -> World -> Prop) (l0 l1 : SV) (n5 : Int) (ds : Ds) (w : World) : Prop :=
 Br (decide (n5 < (l0.len : Int))) (
 dwE w fun w2 =>
 ∃ a3 : Addr, l0.a = some a3 /\ 0 ≤ n5 /\ n5 < (l0.len : Int) /\
 ∃ n21 : Int, w2.cell? (a3.add (n5.toNat * 3)) = some (.int .i64 n21) /\
 ∃ a4 : Addr, l1.a = some a4 /\ 0 ≤ n5 /\ n5 < (l1.len : Int) /\
 ∃ n26 : Int, w2.cell? (a4.add (n5.toNat * 3)) = some (.int .i64 n26) /\
 Br (n21 != n26) (
 runD prog ds w2 fun w5 =>
 R (.returned (.bool false)) w5) (
 ∃ a6 : Addr, l0.a = some a6 /\ 0 ≤ n5 /\ n5 < (l0.len : Int) /\
 ∃ s33 : ByteArray, w2.cell? ((a6.add (n5.toNat * 3)).add 2) = some (.string s33) /\
 ∃ a7 : Addr, l1.a = some a7 /\ 0 ≤ n5 /\ n5 < (l1.len : Int) /\
 ∃ s38 : ByteArray, w2.cell? ((a7.add (n5.toNat * 3)).add 2) = some (.string s38) /\
 Br (!(s33.toList == s38.toList)) (
 runD prog ds w2 fun w8 =>
 R (.returned (.bool false)) w8) (
 J1 (IntKind.i64.wrap (n5 + 1)) w2))) (
 F27_1 R ds w)
def F27_3 (R : Rt) (l0 l1 : SV) (n5 : Int) (ds : Ds) (w : World) : Prop :=
 loopT (fun (J1 : (Int) -> World -> Prop) (s : Int) (w : World) => F27_2 R J1 l0 l1 s ds w) n5 w
abbrev F27_4 (R : Rt) (l0 l1 : SV) (n5 : Int) (ds : Ds) (w : World) : Prop := F27_3 R l0 l1 n5 ds w
def F27_k6 (R : Rt) : EP := (fun E ds w => dSl (E 0) fun l0 => dSl (E 1) fun l1 => dInt .i64 (E 5) fun n5 => F27_4 R l0 l1 n5 ds w)
def F27_5 (R : Rt) (l0 l1 : SV) (ds : Ds) (w : World) : Prop :=
 Br ((l0.len : Int) != (l1.len : Int)) (
 runD prog ds w fun w9 =>
 R (.returned (.bool false)) w9) (
 F27_4 R l0 l1 0 ds w)
theorem c27_l : flat (bodyOf f27) = [c27_0, c27_1, c27_2, c27_3, c27_4, c27_5, c27_6] := by kernel_rfl
theorem c27_4_l : flat (innerC c27_4) = [c27_4_0] := by kernel_rfl
theorem c27_4_0_l : flat (innerC c27_4_0) = [c27_4_0_0, c27_4_0_1, c27_4_0_2, c27_4_0_3] := by kernel_rfl
theorem F27_1_ok (R : Rt) (ds : Ds) (w : World) (E : Env) (h : F27_1 R ds w) :
    TrL prog f27.ntmps [c27_5, c27_6] (F27_q1 R) E ds w :=
  TrL_leaf (X := F27_1 R ds w) setAll_nil (by kernel_rfl) (by kernel_rfl) h
theorem F27_2_ok (R : Rt) (J1 : (Int) -> World -> Prop) (l0 l1 : SV) (n5 : Int) (ds : Ds) (w : World) (E : Env) (e0 : E 0 = .slice l0.a l0.len l0.cap) (e1 : E 1 = .slice l1.a l1.len l1.cap) (e5 : E 5 = .int .i64 n5) (h : F27_2 R J1 l0 l1 n5 ds w) :
    TrL prog f27.ntmps [c27_4_0_0, c27_4_0_1, c27_4_0_2, c27_4_0_3] (F27_q5 R J1) E ds w :=
  TrL_leaf (X := F27_2 R J1 l0 l1 n5 ds w) (setAll_cons e0 (setAll_cons e1 (setAll_cons e5 setAll_nil))) (by kernel_rfl) (by kernel_rfl) h
theorem F27_3_ok (R : Rt) (l0 l1 : SV) (n5 : Int) (ds : Ds) (w : World) (E : Env) (e0 : E 0 = .slice l0.a l0.len l0.cap) (e1 : E 1 = .slice l1.a l1.len l1.cap) (e5 : E 5 = .int .i64 n5) (h : F27_3 R l0 l1 n5 ds w) :
    TrL prog f27.ntmps [c27_4_0] (F27_q4 R) E ds w :=
  TrL_one (Tr_loop' (c := innerC c27_4_0) (σ := Int) (enc := (fun (s : Int) (E : Env) => E 5 = .int .i64 s)) (D := (fun E K => dInt .i64 (E 5) fun n5 => K n5)) (F := (fun (J1 : (Int) -> World -> Prop) (s : Int) (w : World) => F27_2 R J1 l0 l1 s ds w)) (s0 := n5) (by kernel_rfl) c27_4_0_l e5 (by kernel_rfl) (fun E K hD => by obtain ⟨n5, e5, hD⟩ := dInt_elim hD; exact ⟨n5, e5, hD⟩)
      (fun J1 s E' w' he ha hF => by
      have e5' := he
      exact F27_2_ok R J1 l0 l1 s ds w' E' ((ha 0 (by kernel_rfl)).trans e0) ((ha 1 (by kernel_rfl)).trans e1) e5' hF) h)
theorem F27_4_ok (R : Rt) (l0 l1 : SV) (n5 : Int) (ds : Ds) (w : World) (E : Env) (e0 : E 0 = .slice l0.a l0.len l0.cap) (e1 : E 1 = .slice l1.a l1.len l1.cap) (e5 : E 5 = .int .i64 n5) (h : F27_4 R l0 l1 n5 ds w) :
    TrL prog f27.ntmps [c27_4, c27_5, c27_6] (F27_q1 R) E ds w :=
  TrL_head (K := (F27_k2 R)) (Tr_block' (c := innerC c27_4) (by kernel_rfl) c27_4_l (F27_3_ok R l0 l1 n5 ds w E e0 e1 e5 h))
    (fun E' ds' w' hD => by
      exact F27_1_ok R ds' w' E'  hD)
theorem F27_5_ok (R : Rt) (l0 l1 : SV) (ds : Ds) (w : World) (E : Env) (e0 : E 0 = .slice l0.a l0.len l0.cap) (e1 : E 1 = .slice l1.a l1.len l1.cap) (h : F27_5 R l0 l1 ds w) :
    TrL prog f27.ntmps [c27_0, c27_1, c27_2, c27_3, c27_4, c27_5, c27_6] (F27_q1 R) E ds w :=
  TrL_piece (pre := [c27_0, c27_1, c27_2, c27_3]) (K := (F27_k6 R)) (X := F27_5 R l0 l1 ds w) (setAll_cons e0 (setAll_cons e1 setAll_nil)) (by kernel_rfl) (by kernel_rfl)
    (fun E' ds' w' hD => by
      obtain ⟨l0, e0, hD⟩ := dSl_elim hD; obtain ⟨l1, e1, hD⟩ := dSl_elim hD; obtain ⟨n5, e5, hD⟩ := dInt_elim hD; exact F27_4_ok R l0 l1 n5 ds' w' E' e0 e1 e5 hD) h
theorem F27_calls (l0 l1 : SV) (w : World) (R : Rt) (h : F27_5 R l0 l1 [] w) : Calls prog 27 #[.slice l0.a l0.len l0.cap, .slice l1.a l1.len l1.cap] w R :=
  calls_of_L (l := [c27_0, c27_1, c27_2, c27_3, c27_4, c27_5, c27_6]) func27 (by kernel_rfl) (by rw [ntmps27]; exact Nat.le_of_ble_eq_true (by kernel_rfl)) c27_l
    (F27_5_ok R l0 l1 [] w _ rfl rfl h)
noncomputable def c14_0 := cI10 f14 0
noncomputable def c14_1 := cI10 f14 1
noncomputable def c14_2 := cI10 f14 2
noncomputable def c14_3 := cI10 f14 3
noncomputable def c14_4 := cI10 f14 4
noncomputable def c14_5 := cI10 f14 5
noncomputable def c14_6 := cI10 f14 6
noncomputable def c14_7 := cI10 f14 7
noncomputable def c14_8 := cI10 f14 8
def F14_q1 (R : Rt) : EQ := endQ prog f14.results.toList R
def F14_1 (R : Rt) (l0 : SV) (ds : Ds) (w : World) : Prop :=
 Calls prog 30 #[.slice l0.a l0.len l0.cap] w fun e w1 =>
 ∃ s9 : ByteArray, e = .returned (.string s9) /\
 Calls prog 10 #[.string s9] w1 fun e w2 =>
 ∃ l12_0 : SV, ∃ n12_1 : Int, ∃ n12_2 : Int, e = .returned (.tuple #[.slice l12_0.a l12_0.len l12_0.cap, .int .i64 n12_1, .int .i64 n12_2]) /\
 Br (n12_2 != 0) (
 runD prog ds w2 fun w3 =>
 R (.returned (.tuple #[.string (⟨#[]⟩ : ByteArray), .int .i64 n12_2])) w3) (
 Calls prog 27 #[.slice l12_0.a l12_0.len l12_0.cap, .slice l0.a l0.len l0.cap] w2 fun e w4 =>
 ∃ b21 : Bool, e = .returned (.bool b21) /\
 Br (!b21) (
 runD prog ds w4 fun w5 =>
 R (.returned (.tuple #[.string (⟨#[]⟩ : ByteArray), .int .i64 1])) w5) (
 runD prog ds w4 fun w6 =>
 R (.returned (.tuple #[.string s9, .int .i64 0])) w6))
theorem c14_l : flat (bodyOf f14) = [c14_0, c14_1, c14_2, c14_3, c14_4, c14_5, c14_6, c14_7, c14_8] := by kernel_rfl
theorem F14_1_ok (R : Rt) (l0 : SV) (ds : Ds) (w : World) (E : Env) (e0 : E 0 = .slice l0.a l0.len l0.cap) (h : F14_1 R l0 ds w) :
    TrL prog f14.ntmps [c14_0, c14_1, c14_2, c14_3, c14_4, c14_5, c14_6, c14_7, c14_8] (F14_q1 R) E ds w :=
  TrL_leaf (X := F14_1 R l0 ds w) (setAll_cons e0 setAll_nil) (by kernel_rfl) (by kernel_rfl) h
theorem F14_calls (l0 : SV) (w : World) (R : Rt) (h : F14_1 R l0 [] w) : Calls prog 14 #[.slice l0.a l0.len l0.cap] w R :=
  calls_of_L (l := [c14_0, c14_1, c14_2, c14_3, c14_4, c14_5, c14_6, c14_7, c14_8]) func14 (by kernel_rfl) (by rw [ntmps14]; exact Nat.le_of_ble_eq_true (by kernel_rfl)) c14_l
    (F14_1_ok R l0 [] w _ rfl h)
end Go.Proofs.YtlogipcgejfnnaaGreatDoor

/- Shallow texts of functions, printed by program, each checked by the kernel against the loaded code. No condition. -/
set_option maxRecDepth 100000
set_option linter.unusedVariables false
namespace Go.Proofs.YtlogipcgejfnnaaGreatDoor
open Go.Sh
open Tryz
@[reducible] noncomputable def cI11 (f : Func) (i : Nat) : Code := itemAt (flat (bodyOf f)) i
@[reducible] noncomputable def cJ11 (c : Code) (i : Nat) : Code := itemAt (flat (innerC c)) i
noncomputable def c48_0 := cI11 f48 0
noncomputable def c48_1 := cI11 f48 1
noncomputable def c48_2 := cI11 f48 2
noncomputable def c48_3 := cI11 f48 3
noncomputable def c48_4 := cI11 f48 4
def F48_q1 (R : Rt) : EQ := endQ prog f48.results.toList R
def F48_1 (R : Rt) (n0_0 n0_1 : Int) (s0_2 : ByteArray) (ds : Ds) (w : World) : Prop :=
 alE (.cells #[.int .i64 n0_0, .int .i64 n0_1, .string s0_2] 49) w fun r1 w1 =>
 ∃ n4 : Int, w1.cell? (⟨r1, 0, none⟩ : Addr) = some (.int .i64 n4) /\
 Br (n4 == 2) (
 ∃ s8 : ByteArray, w1.cell? ((⟨r1, 0, none⟩ : Addr).add 2) = some (.string s8) /\
 Calls prog 74 #[.string s8, .string (⟨#[34]⟩ : ByteArray)] w1 fun e w2 =>
 ∃ b9 : Bool, e = .returned (.bool b9) /\
 Br b9 (
 ∃ s11 : ByteArray, w2.cell? ((⟨r1, 0, none⟩ : Addr).add 2) = some (.string s11) /\
 (((⟨#[39]⟩ : ByteArray).size + s11.size : Nat) : Int) ≤ 9223372036854775807 /\
 ((((⟨#[39]⟩ : ByteArray) ++ s11).size + (⟨#[39]⟩ : ByteArray).size : Nat) : Int) ≤ 9223372036854775807 /\
 runD prog ds w2 fun w3 =>
 R (.returned (.string (((⟨#[39]⟩ : ByteArray) ++ s11) ++ (⟨#[39]⟩ : ByteArray)))) w3) (
 ∃ s15 : ByteArray, w2.cell? ((⟨r1, 0, none⟩ : Addr).add 2) = some (.string s15) /\
 (((⟨#[34]⟩ : ByteArray).size + s15.size : Nat) : Int) ≤ 9223372036854775807 /\
 ((((⟨#[34]⟩ : ByteArray) ++ s15).size + (⟨#[34]⟩ : ByteArray).size : Nat) : Int) ≤ 9223372036854775807 /\
 runD prog ds w2 fun w4 =>
 R (.returned (.string (((⟨#[34]⟩ : ByteArray) ++ s15) ++ (⟨#[34]⟩ : ByteArray)))) w4)) (
 Br (n4 == 3) (
 ∃ s21 : ByteArray, w1.cell? ((⟨r1, 0, none⟩ : Addr).add 2) = some (.string s21) /\
 Br ((s21.size : Int) != 8) (
 ∃ s25 : ByteArray, w1.cell? ((⟨r1, 0, none⟩ : Addr).add 2) = some (.string s25) /\
 (((⟨#[123]⟩ : ByteArray).size + s25.size : Nat) : Int) ≤ 9223372036854775807 /\
 ((((⟨#[123]⟩ : ByteArray) ++ s25).size + (⟨#[125]⟩ : ByteArray).size : Nat) : Int) ≤ 9223372036854775807 /\
 runD prog ds w1 fun w5 =>
 R (.returned (.string (((⟨#[123]⟩ : ByteArray) ++ s25) ++ (⟨#[125]⟩ : ByteArray)))) w5) (
 dwE w1 fun w6 =>
 ∃ s29 : ByteArray, w6.cell? ((⟨r1, 0, none⟩ : Addr).add 2) = some (.string s29) /\
 0 ≤ (4 : Int) /\ (4 : Int).toNat ≤ s29.size /\ 0 ≤ (4 : Int).toNat /\
 (((⟨#[123, 94]⟩ : ByteArray).size + (s29.extract 0 ((4 : Int).toNat)).size : Nat) : Int) ≤ 9223372036854775807 /\
 ((((⟨#[123, 94]⟩ : ByteArray) ++ (s29.extract 0 ((4 : Int).toNat))).size + (⟨#[45]⟩ : ByteArray).size : Nat) : Int) ≤ 9223372036854775807 /\
 ∃ s34 : ByteArray, w6.cell? ((⟨r1, 0, none⟩ : Addr).add 2) = some (.string s34) /\
 0 ≤ (6 : Int) /\ (6 : Int).toNat ≤ s34.size /\ 0 ≤ (4 : Int) /\ (4 : Int).toNat ≤ (6 : Int).toNat /\
 (((((⟨#[123, 94]⟩ : ByteArray) ++ (s29.extract 0 ((4 : Int).toNat))) ++ (⟨#[45]⟩ : ByteArray)).size + (s34.extract ((4 : Int).toNat) ((6 : Int).toNat)).size : Nat) : Int) ≤ 9223372036854775807 /\
 ((((((⟨#[123, 94]⟩ : ByteArray) ++ (s29.extract 0 ((4 : Int).toNat))) ++ (⟨#[45]⟩ : ByteArray)) ++ (s34.extract ((4 : Int).toNat) ((6 : Int).toNat))).size + (⟨#[45]⟩ : ByteArray).size : Nat) : Int) ≤ 9223372036854775807 /\
 ∃ s39 : ByteArray, w6.cell? ((⟨r1, 0, none⟩ : Addr).add 2) = some (.string s39) /\
 s39.size ≤ s39.size /\ 0 ≤ (6 : Int) /\ (6 : Int).toNat ≤ s39.size /\
 (((((((⟨#[123, 94]⟩ : ByteArray) ++ (s29.extract 0 ((4 : Int).toNat))) ++ (⟨#[45]⟩ : ByteArray)) ++ (s34.extract ((4 : Int).toNat) ((6 : Int).toNat))) ++ (⟨#[45]⟩ : ByteArray)).size + (s39.extract ((6 : Int).toNat) s39.size).size : Nat) : Int) ≤ 9223372036854775807 /\
 ((((((((⟨#[123, 94]⟩ : ByteArray) ++ (s29.extract 0 ((4 : Int).toNat))) ++ (⟨#[45]⟩ : ByteArray)) ++ (s34.extract ((4 : Int).toNat) ((6 : Int).toNat))) ++ (⟨#[45]⟩ : ByteArray)) ++ (s39.extract ((6 : Int).toNat) s39.size)).size + (⟨#[125]⟩ : ByteArray).size : Nat) : Int) ≤ 9223372036854775807 /\
 runD prog ds w6 fun w7 =>
 R (.returned (.string (((((((⟨#[123, 94]⟩ : ByteArray) ++ (s29.extract 0 ((4 : Int).toNat))) ++ (⟨#[45]⟩ : ByteArray)) ++ (s34.extract ((4 : Int).toNat) ((6 : Int).toNat))) ++ (⟨#[45]⟩ : ByteArray)) ++ (s39.extract ((6 : Int).toNat) s39.size)) ++ (⟨#[125]⟩ : ByteArray)))) w7)) (
 ∃ s44 : ByteArray, w1.cell? ((⟨r1, 0, none⟩ : Addr).add 2) = some (.string s44) /\
 runD prog ds w1 fun w8 =>
 R (.returned (.string s44)) w8))
theorem c48_l : flat (bodyOf f48) = [c48_0, c48_1, c48_2, c48_3, c48_4] := by kernel_rfl
theorem F48_1_ok (R : Rt) (n0_0 n0_1 : Int) (s0_2 : ByteArray) (ds : Ds) (w : World) (E : Env) (e0 : E 0 = .agg #[.int .i64 n0_0, .int .i64 n0_1, .string s0_2]) (h : F48_1 R n0_0 n0_1 s0_2 ds w) :
    TrL prog f48.ntmps [c48_0, c48_1, c48_2, c48_3, c48_4] (F48_q1 R) E ds w :=
  TrL_leaf (X := F48_1 R n0_0 n0_1 s0_2 ds w) (setAll_cons e0 setAll_nil) (by kernel_rfl) (by kernel_rfl) h
theorem F48_calls (n0_0 n0_1 : Int) (s0_2 : ByteArray) (w : World) (R : Rt) (h : F48_1 R n0_0 n0_1 s0_2 [] w) : Calls prog 48 #[.agg #[.int .i64 n0_0, .int .i64 n0_1, .string s0_2]] w R :=
  calls_of_L (l := [c48_0, c48_1, c48_2, c48_3, c48_4]) func48 (by kernel_rfl) (by rw [ntmps48]; exact Nat.le_of_ble_eq_true (by kernel_rfl)) c48_l
    (F48_1_ok R n0_0 n0_1 s0_2 [] w _ rfl h)
noncomputable def c28_0 := cI11 f28 0
noncomputable def c28_1 := cI11 f28 1
noncomputable def c28_2 := cI11 f28 2
noncomputable def c28_3 := cI11 f28 3
noncomputable def c28_4 := cI11 f28 4
noncomputable def c28_5 := cI11 f28 5
noncomputable def c28_6 := cI11 f28 6
noncomputable def c28_4_0 := cJ11 c28_4 0
noncomputable def c28_4_0_0 := cJ11 c28_4_0 0
noncomputable def c28_4_0_1 := cJ11 c28_4_0 1
noncomputable def c28_4_0_2 := cJ11 c28_4_0 2
noncomputable def c28_4_0_3 := cJ11 c28_4_0 3
def F28_q1 (R : Rt) : EQ := endQ prog f28.results.toList R
def F28_1 (R : Rt) (p3 : Option Addr) (ds : Ds) (w : World) : Prop :=
 Calls prog 49 #[.pointer p3] w fun e w1 =>
 ∃ s23 : ByteArray, e = .returned (.string s23) /\
 runD prog ds w1 fun w2 =>
 R (.returned (.string s23)) w2
def F28_k2 (R : Rt) : EP := (fun E ds w => dPtr (E 3) fun p3 => F28_1 R p3 ds w)
def F28_q3 (R : Rt) : EQ := (thenQ (F28_k2 R) (F28_q1 R))
def F28_q4 (R : Rt) : EQ := (blockQ 0 (F28_q3 R))
def F28_q5 (R : Rt) (J1 : (Bool × Int) -> World -> Prop) : EQ := (thenQ (fun E _ w => dBl (E 4) fun b4 => dInt .i64 (E 9) fun n9 => J1 (b4, n9) w) (F28_q4 R))
def F28_2 (R : Rt) (J1 : (Bool × Int) -> World -> Prop) (p3 : Option Addr) (b4 : Bool) (l7 : SV) (n8 n9 : Int) (ds : Ds) (w : World) : Prop :=
 Br (decide (n9 < n8)) (
 ∃ a3 : Addr, l7.a = some a3 /\ 0 ≤ n9 /\ n9 < (l7.len : Int) /\
 ∃ n12_0 : Int, w.cell? ((a3.add (n9.toNat * 3)).add 0) = some (.int .i64 n12_0) /\
 ∃ n12_1 : Int, w.cell? ((a3.add (n9.toNat * 3)).add 1) = some (.int .i64 n12_1) /\
 ∃ s12_2 : ByteArray, w.cell? ((a3.add (n9.toNat * 3)).add 2) = some (.string s12_2) /\
 alE (.cells #[.int .i64 0, .int .i64 0, .string (⟨#[]⟩ : ByteArray)] 49) w fun r6 w4 =>
 stA prog 49 (⟨r6, 0, none⟩ : Addr) #[.int .i64 n12_0, .int .i64 n12_1, .string s12_2] w4 fun w5 =>
 ∃ n14 : Int, w5.cell? (⟨r6, 0, none⟩ : Addr) = some (.int .i64 n14) /\
 Br (n14 == 5) (
 Calls prog 46 #[.pointer p3, .int .u8 10] w5 fun e w6 =>
 ∃ v16 : Value, e = .returned (v16) /\
 J1 (false, (IntKind.i64.wrap (n9 + 1))) w6) (
 Br b4 (
 Calls prog 46 #[.pointer p3, .int .u8 32] w5 fun e w7 =>
 ∃ v18 : Value, e = .returned (v18) /\
 ∃ n19_0 : Int, w7.cell? ((⟨r6, 0, none⟩ : Addr).add 0) = some (.int .i64 n19_0) /\
 ∃ n19_1 : Int, w7.cell? ((⟨r6, 0, none⟩ : Addr).add 1) = some (.int .i64 n19_1) /\
 ∃ s19_2 : ByteArray, w7.cell? ((⟨r6, 0, none⟩ : Addr).add 2) = some (.string s19_2) /\
 Calls prog 48 #[.agg #[.int .i64 n19_0, .int .i64 n19_1, .string s19_2]] w7 fun e w8 =>
 ∃ s20 : ByteArray, e = .returned (.string s20) /\
 Calls prog 47 #[.pointer p3, .string s20] w8 fun e w9 =>
 ∃ n21_0 : Int, ∃ v21_1 : Value, e = .returned (.tuple #[.int .i64 n21_0, v21_1]) /\
 J1 (true, (IntKind.i64.wrap (n9 + 1))) w9) (
 ∃ n19_0 : Int, w5.cell? ((⟨r6, 0, none⟩ : Addr).add 0) = some (.int .i64 n19_0) /\
 ∃ n19_1 : Int, w5.cell? ((⟨r6, 0, none⟩ : Addr).add 1) = some (.int .i64 n19_1) /\
 ∃ s19_2 : ByteArray, w5.cell? ((⟨r6, 0, none⟩ : Addr).add 2) = some (.string s19_2) /\
 Calls prog 48 #[.agg #[.int .i64 n19_0, .int .i64 n19_1, .string s19_2]] w5 fun e w10 =>
 ∃ s20 : ByteArray, e = .returned (.string s20) /\
 Calls prog 47 #[.pointer p3, .string s20] w10 fun e w11 =>
 ∃ n21_0 : Int, ∃ v21_1 : Value, e = .returned (.tuple #[.int .i64 n21_0, v21_1]) /\
 J1 (true, (IntKind.i64.wrap (n9 + 1))) w11))) (
 F28_1 R p3 ds w)
def F28_3 (R : Rt) (p3 : Option Addr) (b4 : Bool) (l7 : SV) (n8 n9 : Int) (ds : Ds) (w : World) : Prop :=
 loopT (fun (J1 : (Bool × Int) -> World -> Prop) (s : Bool × Int) (w : World) => F28_2 R J1 p3 s.1 l7 n8 s.2 ds w) (b4, n9) w
abbrev F28_4 (R : Rt) (p3 : Option Addr) (b4 : Bool) (l7 : SV) (n8 n9 : Int) (ds : Ds) (w : World) : Prop := F28_3 R p3 b4 l7 n8 n9 ds w
def F28_k6 (R : Rt) : EP := (fun E ds w => dPtr (E 3) fun p3 => dBl (E 4) fun b4 => dSl (E 7) fun l7 => dInt .i64 (E 8) fun n8 => dInt .i64 (E 9) fun n9 => F28_4 R p3 b4 l7 n8 n9 ds w)
def F28_5 (R : Rt) (l0 : SV) (ds : Ds) (w : World) : Prop :=
 alE (.cells #[.pointer none, .slice none 0 0] 72) w fun r3 w12 =>
 F28_4 R (some (⟨r3, 0, none⟩ : Addr)) false l0 (l0.len : Int) 0 ds w12
theorem c28_l : flat (bodyOf f28) = [c28_0, c28_1, c28_2, c28_3, c28_4, c28_5, c28_6] := by kernel_rfl
theorem c28_4_l : flat (innerC c28_4) = [c28_4_0] := by kernel_rfl
theorem c28_4_0_l : flat (innerC c28_4_0) = [c28_4_0_0, c28_4_0_1, c28_4_0_2, c28_4_0_3] := by kernel_rfl
theorem F28_1_ok (R : Rt) (p3 : Option Addr) (ds : Ds) (w : World) (E : Env) (e3 : E 3 = .pointer p3) (h : F28_1 R p3 ds w) :
    TrL prog f28.ntmps [c28_5, c28_6] (F28_q1 R) E ds w :=
  TrL_leaf (X := F28_1 R p3 ds w) (setAll_cons e3 setAll_nil) (by kernel_rfl) (by kernel_rfl) h
theorem F28_2_ok (R : Rt) (J1 : (Bool × Int) -> World -> Prop) (p3 : Option Addr) (b4 : Bool) (l7 : SV) (n8 n9 : Int) (ds : Ds) (w : World) (E : Env) (e3 : E 3 = .pointer p3) (e4 : E 4 = .bool b4) (e7 : E 7 = .slice l7.a l7.len l7.cap) (e8 : E 8 = .int .i64 n8) (e9 : E 9 = .int .i64 n9) (h : F28_2 R J1 p3 b4 l7 n8 n9 ds w) :
    TrL prog f28.ntmps [c28_4_0_0, c28_4_0_1, c28_4_0_2, c28_4_0_3] (F28_q5 R J1) E ds w :=
  TrL_leaf (X := F28_2 R J1 p3 b4 l7 n8 n9 ds w) (setAll_cons e3 (setAll_cons e4 (setAll_cons e7 (setAll_cons e8 (setAll_cons e9 setAll_nil))))) (by kernel_rfl) (by kernel_rfl) h
theorem F28_3_ok (R : Rt) (p3 : Option Addr) (b4 : Bool) (l7 : SV) (n8 n9 : Int) (ds : Ds) (w : World) (E : Env) (e3 : E 3 = .pointer p3) (e4 : E 4 = .bool b4) (e7 : E 7 = .slice l7.a l7.len l7.cap) (e8 : E 8 = .int .i64 n8) (e9 : E 9 = .int .i64 n9) (h : F28_3 R p3 b4 l7 n8 n9 ds w) :
    TrL prog f28.ntmps [c28_4_0] (F28_q4 R) E ds w :=
  TrL_one (Tr_loop' (c := innerC c28_4_0) (σ := Bool × Int) (enc := (fun (s : Bool × Int) (E : Env) => E 4 = .bool s.1 /\ E 9 = .int .i64 s.2)) (D := (fun E K => dBl (E 4) fun b4 => dInt .i64 (E 9) fun n9 => K (b4, n9))) (F := (fun (J1 : (Bool × Int) -> World -> Prop) (s : Bool × Int) (w : World) => F28_2 R J1 p3 s.1 l7 n8 s.2 ds w)) (s0 := (b4, n9)) (by kernel_rfl) c28_4_0_l ⟨e4, e9⟩ (by kernel_rfl) (fun E K hD => by obtain ⟨b4, e4, hD⟩ := dBl_elim hD; obtain ⟨n9, e9, hD⟩ := dInt_elim hD; exact ⟨(b4, n9), ⟨e4, e9⟩, hD⟩)
      (fun J1 s E' w' he ha hF => by
      obtain ⟨e4', e9'⟩ := he
      exact F28_2_ok R J1 p3 s.1 l7 n8 s.2 ds w' E' ((ha 3 (by kernel_rfl)).trans e3) e4' ((ha 7 (by kernel_rfl)).trans e7) ((ha 8 (by kernel_rfl)).trans e8) e9' hF) h)
theorem F28_4_ok (R : Rt) (p3 : Option Addr) (b4 : Bool) (l7 : SV) (n8 n9 : Int) (ds : Ds) (w : World) (E : Env) (e3 : E 3 = .pointer p3) (e4 : E 4 = .bool b4) (e7 : E 7 = .slice l7.a l7.len l7.cap) (e8 : E 8 = .int .i64 n8) (e9 : E 9 = .int .i64 n9) (h : F28_4 R p3 b4 l7 n8 n9 ds w) :
    TrL prog f28.ntmps [c28_4, c28_5, c28_6] (F28_q1 R) E ds w :=
  TrL_head (K := (F28_k2 R)) (Tr_block' (c := innerC c28_4) (by kernel_rfl) c28_4_l (F28_3_ok R p3 b4 l7 n8 n9 ds w E e3 e4 e7 e8 e9 h))
    (fun E' ds' w' hD => by
      obtain ⟨p3, e3, hD⟩ := dPtr_elim hD; exact F28_1_ok R p3 ds' w' E' e3 hD)
theorem F28_5_ok (R : Rt) (l0 : SV) (ds : Ds) (w : World) (E : Env) (e0 : E 0 = .slice l0.a l0.len l0.cap) (h : F28_5 R l0 ds w) :
    TrL prog f28.ntmps [c28_0, c28_1, c28_2, c28_3, c28_4, c28_5, c28_6] (F28_q1 R) E ds w :=
  TrL_piece (pre := [c28_0, c28_1, c28_2, c28_3]) (K := (F28_k6 R)) (X := F28_5 R l0 ds w) (setAll_cons e0 setAll_nil) (by kernel_rfl) (by kernel_rfl)
    (fun E' ds' w' hD => by
      obtain ⟨p3, e3, hD⟩ := dPtr_elim hD; obtain ⟨b4, e4, hD⟩ := dBl_elim hD; obtain ⟨l7, e7, hD⟩ := dSl_elim hD; obtain ⟨n8, e8, hD⟩ := dInt_elim hD; obtain ⟨n9, e9, hD⟩ := dInt_elim hD; exact F28_4_ok R p3 b4 l7 n8 n9 ds' w' E' e3 e4 e7 e8 e9 hD) h
theorem F28_calls (l0 : SV) (w : World) (R : Rt) (h : F28_5 R l0 [] w) : Calls prog 28 #[.slice l0.a l0.len l0.cap] w R :=
  calls_of_L (l := [c28_0, c28_1, c28_2, c28_3, c28_4, c28_5, c28_6]) func28 (by kernel_rfl) (by rw [ntmps28]; exact Nat.le_of_ble_eq_true (by kernel_rfl)) c28_l
    (F28_5_ok R l0 [] w _ rfl h)
noncomputable def c13_0 := cI11 f13 0
noncomputable def c13_1 := cI11 f13 1
noncomputable def c13_2 := cI11 f13 2
noncomputable def c13_3 := cI11 f13 3
noncomputable def c13_4 := cI11 f13 4
noncomputable def c13_5 := cI11 f13 5
noncomputable def c13_6 := cI11 f13 6
noncomputable def c13_7 := cI11 f13 7
noncomputable def c13_8 := cI11 f13 8
def F13_q1 (R : Rt) : EQ := endQ prog f13.results.toList R
def F13_1 (R : Rt) (l0 : SV) (ds : Ds) (w : World) : Prop :=
 Calls prog 28 #[.slice l0.a l0.len l0.cap] w fun e w1 =>
 ∃ s9 : ByteArray, e = .returned (.string s9) /\
 Calls prog 9 #[.string s9] w1 fun e w2 =>
 ∃ l12_0 : SV, ∃ n12_1 : Int, ∃ n12_2 : Int, e = .returned (.tuple #[.slice l12_0.a l12_0.len l12_0.cap, .int .i64 n12_1, .int .i64 n12_2]) /\
 Br (n12_2 != 0) (
 runD prog ds w2 fun w3 =>
 R (.returned (.tuple #[.string (⟨#[]⟩ : ByteArray), .int .i64 n12_2])) w3) (
 Calls prog 29 #[.slice l12_0.a l12_0.len l12_0.cap, .slice l0.a l0.len l0.cap] w2 fun e w4 =>
 ∃ b21 : Bool, e = .returned (.bool b21) /\
 Br (!b21) (
 runD prog ds w4 fun w5 =>
 R (.returned (.tuple #[.string (⟨#[]⟩ : ByteArray), .int .i64 1])) w5) (
 runD prog ds w4 fun w6 =>
 R (.returned (.tuple #[.string s9, .int .i64 0])) w6))
theorem c13_l : flat (bodyOf f13) = [c13_0, c13_1, c13_2, c13_3, c13_4, c13_5, c13_6, c13_7, c13_8] := by kernel_rfl
theorem F13_1_ok (R : Rt) (l0 : SV) (ds : Ds) (w : World) (E : Env) (e0 : E 0 = .slice l0.a l0.len l0.cap) (h : F13_1 R l0 ds w) :
    TrL prog f13.ntmps [c13_0, c13_1, c13_2, c13_3, c13_4, c13_5, c13_6, c13_7, c13_8] (F13_q1 R) E ds w :=
  TrL_leaf (X := F13_1 R l0 ds w) (setAll_cons e0 setAll_nil) (by kernel_rfl) (by kernel_rfl) h
theorem F13_calls (l0 : SV) (w : World) (R : Rt) (h : F13_1 R l0 [] w) : Calls prog 13 #[.slice l0.a l0.len l0.cap] w R :=
  calls_of_L (l := [c13_0, c13_1, c13_2, c13_3, c13_4, c13_5, c13_6, c13_7, c13_8]) func13 (by kernel_rfl) (by rw [ntmps13]; exact Nat.le_of_ble_eq_true (by kernel_rfl)) c13_l
    (F13_1_ok R l0 [] w _ rfl h)
end Go.Proofs.YtlogipcgejfnnaaGreatDoor

/- Shallow texts of functions, printed by program, each checked by the kernel against the loaded code. No condition. -/
set_option maxRecDepth 100000
set_option linter.unusedVariables false
namespace Go.Proofs.YtlogipcgejfnnaaGreatDoor
open Go.Sh
open Tryz
@[reducible] noncomputable def cI12 (f : Func) (i : Nat) : Code := itemAt (flat (bodyOf f)) i
@[reducible] noncomputable def cJ12 (c : Code) (i : Nat) : Code := itemAt (flat (innerC c)) i
noncomputable def c29_0 := cI12 f29 0
noncomputable def c29_1 := cI12 f29 1
noncomputable def c29_2 := cI12 f29 2
def F29_q1 (R : Rt) : EQ := endQ prog f29.results.toList R
def F29_1 (R : Rt) (l0 l1 : SV) (ds : Ds) (w : World) : Prop :=
 Calls prog 50 #[.slice l0.a l0.len l0.cap, .slice l1.a l1.len l1.cap, .func (.func 51) #[] #[]] w fun e w1 =>
 ∃ b7 : Bool, e = .returned (.bool b7) /\
 runD prog ds w1 fun w2 =>
 R (.returned (.bool b7)) w2
theorem c29_l : flat (bodyOf f29) = [c29_0, c29_1, c29_2] := by kernel_rfl
theorem F29_1_ok (R : Rt) (l0 l1 : SV) (ds : Ds) (w : World) (E : Env) (e0 : E 0 = .slice l0.a l0.len l0.cap) (e1 : E 1 = .slice l1.a l1.len l1.cap) (h : F29_1 R l0 l1 ds w) :
    TrL prog f29.ntmps [c29_0, c29_1, c29_2] (F29_q1 R) E ds w :=
  TrL_leaf (X := F29_1 R l0 l1 ds w) (setAll_cons e0 (setAll_cons e1 setAll_nil)) (by kernel_rfl) (by kernel_rfl) h
theorem F29_calls (l0 l1 : SV) (w : World) (R : Rt) (h : F29_1 R l0 l1 [] w) : Calls prog 29 #[.slice l0.a l0.len l0.cap, .slice l1.a l1.len l1.cap] w R :=
  calls_of_L (l := [c29_0, c29_1, c29_2]) func29 (by kernel_rfl) (by rw [ntmps29]; exact Nat.le_of_ble_eq_true (by kernel_rfl)) c29_l
    (F29_1_ok R l0 l1 [] w _ rfl rfl h)
noncomputable def c50_0 := cI12 f50 0
noncomputable def c50_1 := cI12 f50 1
noncomputable def c50_2 := cI12 f50 2
noncomputable def c50_3 := cI12 f50 3
noncomputable def c50_4 := cI12 f50 4
noncomputable def c50_5 := cI12 f50 5
noncomputable def c50_6 := cI12 f50 6
noncomputable def c50_4_0 := cJ12 c50_4 0
noncomputable def c50_4_0_0 := cJ12 c50_4_0 0
noncomputable def c50_4_0_1 := cJ12 c50_4_0 1
noncomputable def c50_4_0_2 := cJ12 c50_4_0 2
noncomputable def c50_4_0_3 := cJ12 c50_4_0 3
def F50_q1 (R : Rt) : EQ := endQ prog f50.results.toList R
def F50_1 (R : Rt) (ds : Ds) (w : World) : Prop :=
 runD prog ds w fun w1 =>
 R (.returned (.bool true)) w1
def F50_k2 (R : Rt) : EP := (fun E ds w => F50_1 R ds w)
def F50_q3 (R : Rt) : EQ := (thenQ (F50_k2 R) (F50_q1 R))
def F50_q4 (R : Rt) : EQ := (blockQ 0 (F50_q3 R))
def F50_q5 (R : Rt) (J1 : (Int) -> World -> Prop) : EQ := (thenQ (fun E _ w => dInt .i64 (E 17) fun n17 => J1 n17 w) (F50_q4 R))
def F50_2 (R : Rt) (J1 : (Int) -> World -> Prop) (l1 : SV) (v2 : Value) (l15 : SV) (n16 n17 : Int) (ds : Ds) (w : World) : Prop :=
 Br (decide (n17 < n16)) (
 ∃ a2 : Addr, l15.a = some a2 /\ 0 ≤ n17 /\ n17 < (l15.len : Int) /\
 ∃ n21_0 : Int, w.cell? ((a2.add (n17.toNat * 3)).add 0) = some (.int .i64 n21_0) /\
 ∃ n21_1 : Int, w.cell? ((a2.add (n17.toNat * 3)).add 1) = some (.int .i64 n21_1) /\
 ∃ s21_2 : ByteArray, w.cell? ((a2.add (n17.toNat * 3)).add 2) = some (.string s21_2) /\
 alE (.cells #[.int .i64 0, .int .i64 0, .string (⟨#[]⟩ : ByteArray)] 49) w fun r8 w3 =>
 stA prog 49 (⟨r8, 0, none⟩ : Addr) #[.int .i64 n21_0, .int .i64 n21_1, .string s21_2] w3 fun w4 =>
 ∃ a5 : Addr, l1.a = some a5 /\ 0 ≤ n17 /\ n17 < (l1.len : Int) /\
 ∃ n25_0 : Int, w4.cell? ((a5.add (n17.toNat * 3)).add 0) = some (.int .i64 n25_0) /\
 ∃ n25_1 : Int, w4.cell? ((a5.add (n17.toNat * 3)).add 1) = some (.int .i64 n25_1) /\
 ∃ s25_2 : ByteArray, w4.cell? ((a5.add (n17.toNat * 3)).add 2) = some (.string s25_2) /\
 alE (.cells #[.int .i64 0, .int .i64 0, .string (⟨#[]⟩ : ByteArray)] 49) w4 fun r9 w6 =>
 stA prog 49 (⟨r9, 0, none⟩ : Addr) #[.int .i64 n25_0, .int .i64 n25_1, .string s25_2] w6 fun w7 =>
 ∃ n27_0 : Int, w7.cell? ((⟨r8, 0, none⟩ : Addr).add 0) = some (.int .i64 n27_0) /\
 ∃ n27_1 : Int, w7.cell? ((⟨r8, 0, none⟩ : Addr).add 1) = some (.int .i64 n27_1) /\
 ∃ s27_2 : ByteArray, w7.cell? ((⟨r8, 0, none⟩ : Addr).add 2) = some (.string s27_2) /\
 ∃ n28_0 : Int, w7.cell? ((⟨r9, 0, none⟩ : Addr).add 0) = some (.int .i64 n28_0) /\
 ∃ n28_1 : Int, w7.cell? ((⟨r9, 0, none⟩ : Addr).add 1) = some (.int .i64 n28_1) /\
 ∃ s28_2 : ByteArray, w7.cell? ((⟨r9, 0, none⟩ : Addr).add 2) = some (.string s28_2) /\
 fnE v2 fun f29 first29 cap29 =>
 hasBody prog f29 = true /\ Calls prog f29 (first29.toList ++ (([.agg #[.int .i64 n27_0, .int .i64 n27_1, .string s27_2], .agg #[.int .i64 n28_0, .int .i64 n28_1, .string s28_2]] : List Value) ++ cap29.toList)).toArray w7 fun e w8 =>
 ∃ b29 : Bool, e = .returned (.bool b29) /\
 Br (!b29) (
 runD prog ds w8 fun w9 =>
 R (.returned (.bool false)) w9) (
 J1 (IntKind.i64.wrap (n17 + 1)) w8)) (
 F50_1 R ds w)
def F50_3 (R : Rt) (l1 : SV) (v2 : Value) (l15 : SV) (n16 n17 : Int) (ds : Ds) (w : World) : Prop :=
 loopT (fun (J1 : (Int) -> World -> Prop) (s : Int) (w : World) => F50_2 R J1 l1 v2 l15 n16 s ds w) n17 w
abbrev F50_4 (R : Rt) (l1 : SV) (v2 : Value) (l15 : SV) (n16 n17 : Int) (ds : Ds) (w : World) : Prop := F50_3 R l1 v2 l15 n16 n17 ds w
def F50_k6 (R : Rt) : EP := (fun E ds w => dSl (E 1) fun l1 => dSl (E 15) fun l15 => dInt .i64 (E 16) fun n16 => dInt .i64 (E 17) fun n17 => F50_4 R l1 (E 2) l15 n16 n17 ds w)
def F50_5 (R : Rt) (l0 l1 : SV) (v2 : Value) (ds : Ds) (w : World) : Prop :=
 Br ((l0.len : Int) != (l1.len : Int)) (
 runD prog ds w fun w10 =>
 R (.returned (.bool false)) w10) (
 F50_4 R l1 (v2) l0 (l0.len : Int) 0 ds w)
theorem c50_l : flat (bodyOf f50) = [c50_0, c50_1, c50_2, c50_3, c50_4, c50_5, c50_6] := by kernel_rfl
theorem c50_4_l : flat (innerC c50_4) = [c50_4_0] := by kernel_rfl
theorem c50_4_0_l : flat (innerC c50_4_0) = [c50_4_0_0, c50_4_0_1, c50_4_0_2, c50_4_0_3] := by kernel_rfl
theorem F50_1_ok (R : Rt) (ds : Ds) (w : World) (E : Env) (h : F50_1 R ds w) :
    TrL prog f50.ntmps [c50_5, c50_6] (F50_q1 R) E ds w :=
  TrL_leaf (X := F50_1 R ds w) setAll_nil (by kernel_rfl) (by kernel_rfl) h
theorem F50_2_ok (R : Rt) (J1 : (Int) -> World -> Prop) (l1 : SV) (v2 : Value) (l15 : SV) (n16 n17 : Int) (ds : Ds) (w : World) (E : Env) (e1 : E 1 = .slice l1.a l1.len l1.cap) (e2 : E 2 = v2) (e15 : E 15 = .slice l15.a l15.len l15.cap) (e16 : E 16 = .int .i64 n16) (e17 : E 17 = .int .i64 n17) (h : F50_2 R J1 l1 v2 l15 n16 n17 ds w) :
    TrL prog f50.ntmps [c50_4_0_0, c50_4_0_1, c50_4_0_2, c50_4_0_3] (F50_q5 R J1) E ds w :=
  TrL_leaf (X := F50_2 R J1 l1 v2 l15 n16 n17 ds w) (setAll_cons e1 (setAll_cons e2 (setAll_cons e15 (setAll_cons e16 (setAll_cons e17 setAll_nil))))) (by kernel_rfl) (by kernel_rfl) h
theorem F50_3_ok (R : Rt) (l1 : SV) (v2 : Value) (l15 : SV) (n16 n17 : Int) (ds : Ds) (w : World) (E : Env) (e1 : E 1 = .slice l1.a l1.len l1.cap) (e2 : E 2 = v2) (e15 : E 15 = .slice l15.a l15.len l15.cap) (e16 : E 16 = .int .i64 n16) (e17 : E 17 = .int .i64 n17) (h : F50_3 R l1 v2 l15 n16 n17 ds w) :
    TrL prog f50.ntmps [c50_4_0] (F50_q4 R) E ds w :=
  TrL_one (Tr_loop' (c := innerC c50_4_0) (σ := Int) (enc := (fun (s : Int) (E : Env) => E 17 = .int .i64 s)) (D := (fun E K => dInt .i64 (E 17) fun n17 => K n17)) (F := (fun (J1 : (Int) -> World -> Prop) (s : Int) (w : World) => F50_2 R J1 l1 v2 l15 n16 s ds w)) (s0 := n17) (by kernel_rfl) c50_4_0_l e17 (by kernel_rfl) (fun E K hD => by obtain ⟨n17, e17, hD⟩ := dInt_elim hD; exact ⟨n17, e17, hD⟩)
      (fun J1 s E' w' he ha hF => by
      have e17' := he
      exact F50_2_ok R J1 l1 v2 l15 n16 s ds w' E' ((ha 1 (by kernel_rfl)).trans e1) ((ha 2 (by kernel_rfl)).trans e2) ((ha 15 (by kernel_rfl)).trans e15) ((ha 16 (by kernel_rfl)).trans e16) e17' hF) h)
theorem F50_4_ok (R : Rt) (l1 : SV) (v2 : Value) (l15 : SV) (n16 n17 : Int) (ds : Ds) (w : World) (E : Env) (e1 : E 1 = .slice l1.a l1.len l1.cap) (e2 : E 2 = v2) (e15 : E 15 = .slice l15.a l15.len l15.cap) (e16 : E 16 = .int .i64 n16) (e17 : E 17 = .int .i64 n17) (h : F50_4 R l1 v2 l15 n16 n17 ds w) :
    TrL prog f50.ntmps [c50_4, c50_5, c50_6] (F50_q1 R) E ds w :=
  TrL_head (K := (F50_k2 R)) (Tr_block' (c := innerC c50_4) (by kernel_rfl) c50_4_l (F50_3_ok R l1 v2 l15 n16 n17 ds w E e1 e2 e15 e16 e17 h))
    (fun E' ds' w' hD => by
      exact F50_1_ok R ds' w' E'  hD)
theorem F50_5_ok (R : Rt) (l0 l1 : SV) (v2 : Value) (ds : Ds) (w : World) (E : Env) (e0 : E 0 = .slice l0.a l0.len l0.cap) (e1 : E 1 = .slice l1.a l1.len l1.cap) (e2 : E 2 = v2) (h : F50_5 R l0 l1 v2 ds w) :
    TrL prog f50.ntmps [c50_0, c50_1, c50_2, c50_3, c50_4, c50_5, c50_6] (F50_q1 R) E ds w :=
  TrL_piece (pre := [c50_0, c50_1, c50_2, c50_3]) (K := (F50_k6 R)) (X := F50_5 R l0 l1 v2 ds w) (setAll_cons e0 (setAll_cons e1 (setAll_cons e2 setAll_nil))) (by kernel_rfl) (by kernel_rfl)
    (fun E' ds' w' hD => by
      obtain ⟨l1, e1, hD⟩ := dSl_elim hD; obtain ⟨l15, e15, hD⟩ := dSl_elim hD; obtain ⟨n16, e16, hD⟩ := dInt_elim hD; obtain ⟨n17, e17, hD⟩ := dInt_elim hD; exact F50_4_ok R l1 (E' 2) l15 n16 n17 ds' w' E' e1 rfl e15 e16 e17 hD) h
theorem F50_calls (l0 l1 : SV) (v2 : Value) (w : World) (R : Rt) (h : F50_5 R l0 l1 v2 [] w) : Calls prog 50 #[.slice l0.a l0.len l0.cap, .slice l1.a l1.len l1.cap, v2] w R :=
  calls_of_L (l := [c50_0, c50_1, c50_2, c50_3, c50_4, c50_5, c50_6]) func50 (by kernel_rfl) (by rw [ntmps50]; exact Nat.le_of_ble_eq_true (by kernel_rfl)) c50_l
    (F50_5_ok R l0 l1 v2 [] w _ rfl rfl rfl h)
noncomputable def c51_0 := cI12 f51 0
noncomputable def c51_1 := cI12 f51 1
noncomputable def c51_2 := cI12 f51 2
def F51_q1 (R : Rt) : EQ := endQ prog f51.results.toList R
def F51_1 (R : Rt) (n0_0 n0_1 : Int) (s0_2 : ByteArray) (n1_0 n1_1 : Int) (s1_2 : ByteArray) (ds : Ds) (w : World) : Prop :=
 alE (.cells #[.int .i64 n0_0, .int .i64 n0_1, .string s0_2] 49) w fun r2 w1 =>
 alE (.cells #[.int .i64 n1_0, .int .i64 n1_1, .string s1_2] 49) w1 fun r3 w2 =>
 ∃ n6 : Int, w2.cell? (⟨r2, 0, none⟩ : Addr) = some (.int .i64 n6) /\
 ∃ n8 : Int, w2.cell? (⟨r3, 0, none⟩ : Addr) = some (.int .i64 n8) /\
 Br (n6 == n8) (
 ∃ s12 : ByteArray, w2.cell? ((⟨r2, 0, none⟩ : Addr).add 2) = some (.string s12) /\
 ∃ s14 : ByteArray, w2.cell? ((⟨r3, 0, none⟩ : Addr).add 2) = some (.string s14) /\
 runD prog ds w2 fun w3 =>
 R (.returned (.bool (s12.toList == s14.toList))) w3) (
 runD prog ds w2 fun w4 =>
 R (.returned (.bool false)) w4)
theorem c51_l : flat (bodyOf f51) = [c51_0, c51_1, c51_2] := by kernel_rfl
theorem F51_1_ok (R : Rt) (n0_0 n0_1 : Int) (s0_2 : ByteArray) (n1_0 n1_1 : Int) (s1_2 : ByteArray) (ds : Ds) (w : World) (E : Env) (e0 : E 0 = .agg #[.int .i64 n0_0, .int .i64 n0_1, .string s0_2]) (e1 : E 1 = .agg #[.int .i64 n1_0, .int .i64 n1_1, .string s1_2]) (h : F51_1 R n0_0 n0_1 s0_2 n1_0 n1_1 s1_2 ds w) :
    TrL prog f51.ntmps [c51_0, c51_1, c51_2] (F51_q1 R) E ds w :=
  TrL_leaf (X := F51_1 R n0_0 n0_1 s0_2 n1_0 n1_1 s1_2 ds w) (setAll_cons e0 (setAll_cons e1 setAll_nil)) (by kernel_rfl) (by kernel_rfl) h
theorem F51_calls (n0_0 n0_1 : Int) (s0_2 : ByteArray) (n1_0 n1_1 : Int) (s1_2 : ByteArray) (w : World) (R : Rt) (h : F51_1 R n0_0 n0_1 s0_2 n1_0 n1_1 s1_2 [] w) : Calls prog 51 #[.agg #[.int .i64 n0_0, .int .i64 n0_1, .string s0_2], .agg #[.int .i64 n1_0, .int .i64 n1_1, .string s1_2]] w R :=
  calls_of_L (l := [c51_0, c51_1, c51_2]) func51 (by kernel_rfl) (by rw [ntmps51]; exact Nat.le_of_ble_eq_true (by kernel_rfl)) c51_l
    (F51_1_ok R n0_0 n0_1 s0_2 n1_0 n1_1 s1_2 [] w _ rfl rfl h)
end Go.Proofs.YtlogipcgejfnnaaGreatDoor

/- Shallow texts of functions, printed by program, each checked by the kernel against the loaded code. No condition. -/
set_option maxRecDepth 100000
set_option linter.unusedVariables false
namespace Go.Proofs.YtlogipcgejfnnaaGreatDoor
open Go.Sh
open Tryz
@[reducible] noncomputable def cI13 (f : Func) (i : Nat) : Code := itemAt (flat (bodyOf f)) i
@[reducible] noncomputable def cJ13 (c : Code) (i : Nat) : Code := itemAt (flat (innerC c)) i
noncomputable def c8_0 := cI13 f8 0
noncomputable def c8_1 := cI13 f8 1
noncomputable def c8_2 := cI13 f8 2
noncomputable def c8_3 := cI13 f8 3
noncomputable def c8_4 := cI13 f8 4
def F8_q1 (R : Rt) : EQ := endQ prog f8.results.toList R
def F8_1 (R : Rt) (ds : Ds) (w : World) : Prop :=
 Calls prog 9 #[.string (⟨#[120, 32, 61, 32, 49, 32, 59, 32, 38, 38, 32, 97, 10, 43, 32, 50]⟩ : ByteArray)] w fun e w1 =>
 ∃ l7_0 : SV, ∃ n7_1 : Int, ∃ n7_2 : Int, e = .returned (.tuple #[.slice l7_0.a l7_0.len l7_0.cap, .int .i64 n7_1, .int .i64 n7_2]) /\
 Calls prog 13 #[.slice l7_0.a l7_0.len l7_0.cap] w1 fun e w2 =>
 ∃ s13_0 : ByteArray, ∃ n13_1 : Int, e = .returned (.tuple #[.string s13_0, .int .i64 n13_1]) /\
 Br (n7_2 == 0) (
 Br (n7_1 == 6) (
 Br (n13_1 == 0) (
 runD prog ds w2 fun w3 =>
 R (.returned (.bool (s13_0.toList == (⟨#[88, 32, 61, 32, 49, 32, 43, 32, 50, 10]⟩ : ByteArray).toList))) w3) (
 runD prog ds w2 fun w4 =>
 R (.returned (.bool false)) w4)) (
 runD prog ds w2 fun w5 =>
 R (.returned (.bool false)) w5)) (
 runD prog ds w2 fun w6 =>
 R (.returned (.bool false)) w6)
theorem c8_l : flat (bodyOf f8) = [c8_0, c8_1, c8_2, c8_3, c8_4] := by kernel_rfl
theorem F8_1_ok (R : Rt) (ds : Ds) (w : World) (E : Env) (h : F8_1 R ds w) :
    TrL prog f8.ntmps [c8_0, c8_1, c8_2, c8_3, c8_4] (F8_q1 R) E ds w :=
  TrL_leaf (X := F8_1 R ds w) setAll_nil (by kernel_rfl) (by kernel_rfl) h
theorem F8_calls  (w : World) (R : Rt) (h : F8_1 R [] w) : Calls prog 8 #[] w R :=
  calls_of_L (l := [c8_0, c8_1, c8_2, c8_3, c8_4]) func8 (by kernel_rfl) (by rw [ntmps8]; exact Nat.le_of_ble_eq_true (by kernel_rfl)) c8_l
    (F8_1_ok R [] w _  h)
noncomputable def c12_0 := cI13 f12 0
noncomputable def c12_1 := cI13 f12 1
noncomputable def c12_2 := cI13 f12 2
noncomputable def c12_3 := cI13 f12 3
noncomputable def c12_4 := cI13 f12 4
noncomputable def c12_5 := cI13 f12 5
noncomputable def c12_3_0 := cJ13 c12_3 0
noncomputable def c12_3_0_0 := cJ13 c12_3_0 0
noncomputable def c12_3_0_1 := cJ13 c12_3_0 1
noncomputable def c12_3_0_2 := cJ13 c12_3_0 2
noncomputable def c12_3_0_3 := cJ13 c12_3_0 3
def F12_q1 (R : Rt) : EQ := endQ prog f12.results.toList R
def F12_1 (R : Rt) (n3 : Int) (ds : Ds) (w : World) : Prop :=
 runD prog ds w fun w1 =>
 R (.returned (.bool (decide (n3 > 20000)))) w1
def F12_k2 (R : Rt) : EP := (fun E ds w => dInt .i64 (E 3) fun n3 => F12_1 R n3 ds w)
def F12_q3 (R : Rt) : EQ := (thenQ (F12_k2 R) (F12_q1 R))
def F12_q4 (R : Rt) : EQ := (blockQ 0 (F12_q3 R))
def F12_q5 (R : Rt) (J1 : (Int × Int) -> World -> Prop) : EQ := (thenQ (fun E _ w => dInt .i64 (E 3) fun n3 => dInt .i64 (E 4) fun n4 => J1 (n3, n4) w) (F12_q4 R))
def F12_2 (R : Rt) (J1 : (Int × Int) -> World -> Prop) (l0 : SV) (n3 n4 : Int) (ds : Ds) (w : World) : Prop :=
 Br (decide (n4 < (l0.len : Int))) (
 ∃ a2 : Addr, l0.a = some a2 /\ 0 ≤ n4 /\ n4 < (l0.len : Int) /\
 ∃ s18 : ByteArray, w.cell? ((a2.add (n4.toNat * 3)).add 2) = some (.string s18) /\
 J1 ((IntKind.i64.wrap (n3 + (s18.size : Int))), (IntKind.i64.wrap (n4 + 1))) w) (
 F12_1 R n3 ds w)
def F12_3 (R : Rt) (l0 : SV) (n3 n4 : Int) (ds : Ds) (w : World) : Prop :=
 loopT (fun (J1 : (Int × Int) -> World -> Prop) (s : Int × Int) (w : World) => F12_2 R J1 l0 s.1 s.2 ds w) (n3, n4) w
abbrev F12_4 (R : Rt) (l0 : SV) (n3 n4 : Int) (ds : Ds) (w : World) : Prop := F12_3 R l0 n3 n4 ds w
def F12_k6 (R : Rt) : EP := (fun E ds w => dSl (E 0) fun l0 => dInt .i64 (E 3) fun n3 => dInt .i64 (E 4) fun n4 => F12_4 R l0 n3 n4 ds w)
def F12_5 (R : Rt) (l0 : SV) (ds : Ds) (w : World) : Prop :=
 F12_4 R l0 (l0.len : Int) 0 ds w
theorem c12_l : flat (bodyOf f12) = [c12_0, c12_1, c12_2, c12_3, c12_4, c12_5] := by kernel_rfl
theorem c12_3_l : flat (innerC c12_3) = [c12_3_0] := by kernel_rfl
theorem c12_3_0_l : flat (innerC c12_3_0) = [c12_3_0_0, c12_3_0_1, c12_3_0_2, c12_3_0_3] := by kernel_rfl
theorem F12_1_ok (R : Rt) (n3 : Int) (ds : Ds) (w : World) (E : Env) (e3 : E 3 = .int .i64 n3) (h : F12_1 R n3 ds w) :
    TrL prog f12.ntmps [c12_4, c12_5] (F12_q1 R) E ds w :=
  TrL_leaf (X := F12_1 R n3 ds w) (setAll_cons e3 setAll_nil) (by kernel_rfl) (by kernel_rfl) h
theorem F12_2_ok (R : Rt) (J1 : (Int × Int) -> World -> Prop) (l0 : SV) (n3 n4 : Int) (ds : Ds) (w : World) (E : Env) (e0 : E 0 = .slice l0.a l0.len l0.cap) (e3 : E 3 = .int .i64 n3) (e4 : E 4 = .int .i64 n4) (h : F12_2 R J1 l0 n3 n4 ds w) :
    TrL prog f12.ntmps [c12_3_0_0, c12_3_0_1, c12_3_0_2, c12_3_0_3] (F12_q5 R J1) E ds w :=
  TrL_leaf (X := F12_2 R J1 l0 n3 n4 ds w) (setAll_cons e0 (setAll_cons e3 (setAll_cons e4 setAll_nil))) (by kernel_rfl) (by kernel_rfl) h
theorem F12_3_ok (R : Rt) (l0 : SV) (n3 n4 : Int) (ds : Ds) (w : World) (E : Env) (e0 : E 0 = .slice l0.a l0.len l0.cap) (e3 : E 3 = .int .i64 n3) (e4 : E 4 = .int .i64 n4) (h : F12_3 R l0 n3 n4 ds w) :
    TrL prog f12.ntmps [c12_3_0] (F12_q4 R) E ds w :=
  TrL_one (Tr_loop' (c := innerC c12_3_0) (σ := Int × Int) (enc := (fun (s : Int × Int) (E : Env) => E 3 = .int .i64 s.1 /\ E 4 = .int .i64 s.2)) (D := (fun E K => dInt .i64 (E 3) fun n3 => dInt .i64 (E 4) fun n4 => K (n3, n4))) (F := (fun (J1 : (Int × Int) -> World -> Prop) (s : Int × Int) (w : World) => F12_2 R J1 l0 s.1 s.2 ds w)) (s0 := (n3, n4)) (by kernel_rfl) c12_3_0_l ⟨e3, e4⟩ (by kernel_rfl) (fun E K hD => by obtain ⟨n3, e3, hD⟩ := dInt_elim hD; obtain ⟨n4, e4, hD⟩ := dInt_elim hD; exact ⟨(n3, n4), ⟨e3, e4⟩, hD⟩)
      (fun J1 s E' w' he ha hF => by
      obtain ⟨e3', e4'⟩ := he
      exact F12_2_ok R J1 l0 s.1 s.2 ds w' E' ((ha 0 (by kernel_rfl)).trans e0) e3' e4' hF) h)
theorem F12_4_ok (R : Rt) (l0 : SV) (n3 n4 : Int) (ds : Ds) (w : World) (E : Env) (e0 : E 0 = .slice l0.a l0.len l0.cap) (e3 : E 3 = .int .i64 n3) (e4 : E 4 = .int .i64 n4) (h : F12_4 R l0 n3 n4 ds w) :
    TrL prog f12.ntmps [c12_3, c12_4, c12_5] (F12_q1 R) E ds w :=
  TrL_head (K := (F12_k2 R)) (Tr_block' (c := innerC c12_3) (by kernel_rfl) c12_3_l (F12_3_ok R l0 n3 n4 ds w E e0 e3 e4 h))
    (fun E' ds' w' hD => by
      obtain ⟨n3, e3, hD⟩ := dInt_elim hD; exact F12_1_ok R n3 ds' w' E' e3 hD)
theorem F12_5_ok (R : Rt) (l0 : SV) (ds : Ds) (w : World) (E : Env) (e0 : E 0 = .slice l0.a l0.len l0.cap) (h : F12_5 R l0 ds w) :
    TrL prog f12.ntmps [c12_0, c12_1, c12_2, c12_3, c12_4, c12_5] (F12_q1 R) E ds w :=
  TrL_piece (pre := [c12_0, c12_1, c12_2]) (K := (F12_k6 R)) (X := F12_5 R l0 ds w) (setAll_cons e0 setAll_nil) (by kernel_rfl) (by kernel_rfl)
    (fun E' ds' w' hD => by
      obtain ⟨l0, e0, hD⟩ := dSl_elim hD; obtain ⟨n3, e3, hD⟩ := dInt_elim hD; obtain ⟨n4, e4, hD⟩ := dInt_elim hD; exact F12_4_ok R l0 n3 n4 ds' w' E' e0 e3 e4 hD) h
theorem F12_calls (l0 : SV) (w : World) (R : Rt) (h : F12_5 R l0 [] w) : Calls prog 12 #[.slice l0.a l0.len l0.cap] w R :=
  calls_of_L (l := [c12_0, c12_1, c12_2, c12_3, c12_4, c12_5]) func12 (by kernel_rfl) (by rw [ntmps12]; exact Nat.le_of_ble_eq_true (by kernel_rfl)) c12_l
    (F12_5_ok R l0 [] w _ rfl h)
noncomputable def c4_0 := cI13 f4 0
noncomputable def c4_1 := cI13 f4 1
noncomputable def c4_2 := cI13 f4 2
noncomputable def c4_3 := cI13 f4 3
noncomputable def c4_4 := cI13 f4 4
noncomputable def c4_5 := cI13 f4 5
noncomputable def c4_6 := cI13 f4 6
def F4_q1 (R : Rt) : EQ := endQ prog f4.results.toList R
def F4_1 (R : Rt) (l0 : SV) (ds : Ds) (w : World) : Prop :=
 Calls prog 12 #[.slice l0.a l0.len l0.cap] w fun e w1 =>
 ∃ b8 : Bool, e = .returned (.bool b8) /\
 Br b8 (
 Calls prog 8 #[] w1 fun e w2 =>
 ∃ b9 : Bool, e = .returned (.bool b9) /\
 runD prog ds w2 fun w3 =>
 R (.returned (.bool b9)) w3) (
 Calls prog 13 #[.slice l0.a l0.len l0.cap] w1 fun e w4 =>
 ∃ s12_0 : ByteArray, ∃ n12_1 : Int, e = .returned (.tuple #[.string s12_0, .int .i64 n12_1]) /\
 Calls prog 14 #[.slice l0.a l0.len l0.cap] w4 fun e w5 =>
 ∃ s17_0 : ByteArray, ∃ n17_1 : Int, e = .returned (.tuple #[.string s17_0, .int .i64 n17_1]) /\
 Br (s12_0.toList == s17_0.toList) (
 Br (n12_1 == n17_1) (
 Calls prog 8 #[] w5 fun e w6 =>
 ∃ b29 : Bool, e = .returned (.bool b29) /\
 runD prog ds w6 fun w7 =>
 R (.returned (.bool b29)) w7) (
 runD prog ds w5 fun w8 =>
 R (.returned (.bool false)) w8)) (
 runD prog ds w5 fun w9 =>
 R (.returned (.bool false)) w9))
theorem c4_l : flat (bodyOf f4) = [c4_0, c4_1, c4_2, c4_3, c4_4, c4_5, c4_6] := by kernel_rfl
theorem F4_1_ok (R : Rt) (l0 : SV) (ds : Ds) (w : World) (E : Env) (e0 : E 0 = .slice l0.a l0.len l0.cap) (h : F4_1 R l0 ds w) :
    TrL prog f4.ntmps [c4_0, c4_1, c4_2, c4_3, c4_4, c4_5, c4_6] (F4_q1 R) E ds w :=
  TrL_leaf (X := F4_1 R l0 ds w) (setAll_cons e0 setAll_nil) (by kernel_rfl) (by kernel_rfl) h
theorem F4_calls (l0 : SV) (w : World) (R : Rt) (h : F4_1 R l0 [] w) : Calls prog 4 #[.slice l0.a l0.len l0.cap] w R :=
  calls_of_L (l := [c4_0, c4_1, c4_2, c4_3, c4_4, c4_5, c4_6]) func4 (by kernel_rfl) (by rw [ntmps4]; exact Nat.le_of_ble_eq_true (by kernel_rfl)) c4_l
    (F4_1_ok R l0 [] w _ rfl h)
end Go.Proofs.YtlogipcgejfnnaaGreatDoor
