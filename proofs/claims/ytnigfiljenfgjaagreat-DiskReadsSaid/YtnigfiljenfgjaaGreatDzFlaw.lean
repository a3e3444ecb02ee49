import Derived.Test.YtnigfiljenfgjaaGreatProg
import Derived.Test.YtnigfiljenfgjaaGreatShEight
/- Shallow texts of functions, printed by program, each checked by the kernel against the loaded code. No condition. -/
set_option maxRecDepth 100000
set_option linter.unusedVariables false
namespace Go.Proofs.YtnigfiljenfgjaaGreat
open Go.Sh
open Tryz
@[reducible] noncomputable def cI2 (f : Func) (i : Nat) : Code := itemAt (flat (bodyOf f)) i
@[reducible] noncomputable def cJ2 (c : Code) (i : Nat) : Code := itemAt (flat (innerC c)) i
noncomputable def c7_0 := cI2 f7 0
noncomputable def c7_1 := cI2 f7 1
noncomputable def c7_2 := cI2 f7 2
noncomputable def c7_3 := cI2 f7 3
noncomputable def c7_4 := cI2 f7 4
noncomputable def c7_5 := cI2 f7 5
noncomputable def c7_3_0 := cJ2 c7_3 0
noncomputable def c7_3_0_0 := cJ2 c7_3_0 0
noncomputable def c7_3_0_1 := cJ2 c7_3_0 1
noncomputable def c7_3_0_2 := cJ2 c7_3_0 2
noncomputable def c7_3_0_3 := cJ2 c7_3_0 3
def F7_q1 (R : Rt) : EQ := endQ prog f7.results.toList R
def F7_1 (R : Rt) (l0 : SV) (n3 : Int) (ds : Ds) (w : World) : Prop :=
 Br (decide (n3 > 100000)) (
 runD prog ds w fun w1 =>
 R (.returned (.bool true)) w1) (
 runD prog ds w fun w2 =>
 R (.returned (.bool (decide ((l0.len : Int) > 200)))) w2)
def F7_k2 (R : Rt) : EP := (fun E ds w => dSl (E 0) fun l0 => dInt .i64 (E 3) fun n3 => F7_1 R l0 n3 ds w)
def F7_q3 (R : Rt) : EQ := (thenQ (F7_k2 R) (F7_q1 R))
def F7_q4 (R : Rt) : EQ := (blockQ 0 (F7_q3 R))
def F7_q5 (R : Rt) (J1 : (Int × Int) -> World -> Prop) : EQ := (thenQ (fun E _ w => dInt .i64 (E 3) fun n3 => dInt .i64 (E 4) fun n4 => J1 (n3, n4) w) (F7_q4 R))
def F7_2 (R : Rt) (J1 : (Int × Int) -> World -> Prop) (l0 : SV) (n3 n4 : Int) (ds : Ds) (w : World) : Prop :=
 Br (decide (n4 < (l0.len : Int))) (
 dwE w fun w3 =>
 ∃ a4 : Addr, l0.a = some a4 /\ 0 <= n4 /\ n4 < (l0.len : Int) /\
 ∃ s16 : ByteArray, w3.cell? ((a4.add (n4.toNat * 6)).add 4) = some (.string s16) /\
 ∃ a5 : Addr, l0.a = some a5 /\ 0 <= n4 /\ n4 < (l0.len : Int) /\
 ∃ s22 : ByteArray, w3.cell? ((a5.add (n4.toNat * 6)).add 5) = some (.string s22) /\
 J1 ((IntKind.i64.wrap (n3 + (IntKind.i64.wrap ((s16.size : Int) + (s22.size : Int))))), (IntKind.i64.wrap (n4 + 1))) w3) (
 F7_1 R l0 n3 ds w)
def F7_3 (R : Rt) (l0 : SV) (n3 n4 : Int) (ds : Ds) (w : World) : Prop :=
 loopT (fun (J1 : (Int × Int) -> World -> Prop) (s : Int × Int) (w : World) => F7_2 R J1 l0 s.1 s.2 ds w) (n3, n4) w
abbrev F7_4 (R : Rt) (l0 : SV) (n3 n4 : Int) (ds : Ds) (w : World) : Prop := F7_3 R l0 n3 n4 ds w
def F7_k6 (R : Rt) : EP := (fun E ds w => dSl (E 0) fun l0 => dInt .i64 (E 3) fun n3 => dInt .i64 (E 4) fun n4 => F7_4 R l0 n3 n4 ds w)
def F7_5 (R : Rt) (l0 : SV) (ds : Ds) (w : World) : Prop :=
 F7_4 R l0 0 0 ds w
theorem c7_l : flat (bodyOf f7) = [c7_0, c7_1, c7_2, c7_3, c7_4, c7_5] := by kernel_rfl
theorem c7_3_l : flat (innerC c7_3) = [c7_3_0] := by kernel_rfl
theorem c7_3_0_l : flat (innerC c7_3_0) = [c7_3_0_0, c7_3_0_1, c7_3_0_2, c7_3_0_3] := by kernel_rfl
theorem F7_1_ok (R : Rt) (l0 : SV) (n3 : Int) (ds : Ds) (w : World) (E : Env) (e0 : E 0 = .slice l0.a l0.len l0.cap) (e3 : E 3 = .int .i64 n3) (h : F7_1 R l0 n3 ds w) :
    TrL prog f7.ntmps [c7_4, c7_5] (F7_q1 R) E ds w :=
  TrL_leaf (X := F7_1 R l0 n3 ds w) (setAll_cons e0 (setAll_cons e3 setAll_nil)) (by kernel_rfl) (by kernel_rfl) h
theorem F7_2_ok (R : Rt) (J1 : (Int × Int) -> World -> Prop) (l0 : SV) (n3 n4 : Int) (ds : Ds) (w : World) (E : Env) (e0 : E 0 = .slice l0.a l0.len l0.cap) (e3 : E 3 = .int .i64 n3) (e4 : E 4 = .int .i64 n4) (h : F7_2 R J1 l0 n3 n4 ds w) :
    TrL prog f7.ntmps [c7_3_0_0, c7_3_0_1, c7_3_0_2, c7_3_0_3] (F7_q5 R J1) E ds w :=
  TrL_leaf (X := F7_2 R J1 l0 n3 n4 ds w) (setAll_cons e0 (setAll_cons e3 (setAll_cons e4 setAll_nil))) (by kernel_rfl) (by kernel_rfl) h
theorem F7_3_ok (R : Rt) (l0 : SV) (n3 n4 : Int) (ds : Ds) (w : World) (E : Env) (e0 : E 0 = .slice l0.a l0.len l0.cap) (e3 : E 3 = .int .i64 n3) (e4 : E 4 = .int .i64 n4) (h : F7_3 R l0 n3 n4 ds w) :
    TrL prog f7.ntmps [c7_3_0] (F7_q4 R) E ds w :=
  TrL_one (Tr_loop' (c := innerC c7_3_0) (σ := Int × Int) (enc := (fun (s : Int × Int) (E : Env) => E 3 = .int .i64 s.1 /\ E 4 = .int .i64 s.2)) (D := (fun E K => dInt .i64 (E 3) fun n3 => dInt .i64 (E 4) fun n4 => K (n3, n4))) (F := (fun (J1 : (Int × Int) -> World -> Prop) (s : Int × Int) (w : World) => F7_2 R J1 l0 s.1 s.2 ds w)) (s0 := (n3, n4)) (by kernel_rfl) c7_3_0_l ⟨e3, e4⟩ (by kernel_rfl) (fun E K hD => by obtain ⟨n3, e3, hD⟩ := dInt_elim hD; obtain ⟨n4, e4, hD⟩ := dInt_elim hD; exact ⟨(n3, n4), ⟨e3, e4⟩, hD⟩)
      (fun J1 s E' w' he ha hF => by
      obtain ⟨e3', e4'⟩ := he
      exact F7_2_ok R J1 l0 s.1 s.2 ds w' E' ((ha 0 (by kernel_rfl)).trans e0) e3' e4' hF) h)
theorem F7_4_ok (R : Rt) (l0 : SV) (n3 n4 : Int) (ds : Ds) (w : World) (E : Env) (e0 : E 0 = .slice l0.a l0.len l0.cap) (e3 : E 3 = .int .i64 n3) (e4 : E 4 = .int .i64 n4) (h : F7_4 R l0 n3 n4 ds w) :
    TrL prog f7.ntmps [c7_3, c7_4, c7_5] (F7_q1 R) E ds w :=
  TrL_head (K := (F7_k2 R)) (Tr_block' (c := innerC c7_3) (by kernel_rfl) c7_3_l (F7_3_ok R l0 n3 n4 ds w E e0 e3 e4 h))
    (fun E' ds' w' hD => by
      obtain ⟨l0, e0, hD⟩ := dSl_elim hD; obtain ⟨n3, e3, hD⟩ := dInt_elim hD; exact F7_1_ok R l0 n3 ds' w' E' e0 e3 hD)
theorem F7_5_ok (R : Rt) (l0 : SV) (ds : Ds) (w : World) (E : Env) (e0 : E 0 = .slice l0.a l0.len l0.cap) (h : F7_5 R l0 ds w) :
    TrL prog f7.ntmps [c7_0, c7_1, c7_2, c7_3, c7_4, c7_5] (F7_q1 R) E ds w :=
  TrL_piece (pre := [c7_0, c7_1, c7_2]) (K := (F7_k6 R)) (X := F7_5 R l0 ds w) (setAll_cons e0 setAll_nil) (by kernel_rfl) (by kernel_rfl)
    (fun E' ds' w' hD => by
      obtain ⟨l0, e0, hD⟩ := dSl_elim hD; obtain ⟨n3, e3, hD⟩ := dInt_elim hD; obtain ⟨n4, e4, hD⟩ := dInt_elim hD; exact F7_4_ok R l0 n3 n4 ds' w' E' e0 e3 e4 hD) h
theorem F7_calls (l0 : SV) (w : World) (R : Rt) (h : F7_5 R l0 [] w) : Calls prog 7 #[.slice l0.a l0.len l0.cap] w R :=
  calls_of_L (l := [c7_0, c7_1, c7_2, c7_3, c7_4, c7_5]) func7 (by kernel_rfl) (by rw [ntmps7]; exact Nat.le_of_ble_eq_true (by kernel_rfl)) c7_l
    (F7_5_ok R l0 [] w _ rfl h)
noncomputable def c11_0 := cI2 f11 0
noncomputable def c11_1 := cI2 f11 1
noncomputable def c11_2 := cI2 f11 2
noncomputable def c11_3 := cI2 f11 3
noncomputable def c11_4 := cI2 f11 4
noncomputable def c11_5 := cI2 f11 5
def F11_q1 (R : Rt) : EQ := endQ prog f11.results.toList R
def F11_1 (R : Rt) (p0 p1 : Option Addr) (n2_0 n2_1 n2_2 n2_3 : Int) (s2_4 s2_5 : ByteArray) (ds : Ds) (w : World) : Prop :=
 alE (.cells #[.int .i64 n2_0, .int .i64 n2_1, .int .i64 n2_2, .int .i64 n2_3, .string s2_4, .string s2_5] 31) w fun r5 w1 =>
 ∃ n29 : Int, w1.cell? (⟨r5, 0, none⟩ : Addr) = some (.int .i64 n29) /\
 IntKind.i64 = IntKind.i64 /\ (13 : Int) ≠ 0 /\
 IntKind.i64 = IntKind.i64 /\ (13 : Int) ≠ 0 /\
 Br (((IntKind.i64.wrap ((n29.tmod 13) + 13)).tmod 13) == 5) (
 ∃ n39 : Int, w1.cell? ((⟨r5, 0, none⟩ : Addr).add 1) = some (.int .i64 n39) /\
 ∃ s41 : ByteArray, w1.cell? ((⟨r5, 0, none⟩ : Addr).add 4) = some (.string s41) /\
 ∃ n43 : Int, w1.cell? ((⟨r5, 0, none⟩ : Addr).add 2) = some (.int .i64 n43) /\
 ∃ n45 : Int, w1.cell? ((⟨r5, 0, none⟩ : Addr).add 3) = some (.int .i64 n45) /\
 Calls prog 13 #[.pointer p0, .int .i64 n39, .string s41, .int .i64 n43, .int .i64 n45] w1 fun e w2 =>
 ∃ l46_0 : SV, ∃ n46_1 : Int, e = .returned (.tuple #[.slice l46_0.a l46_0.len l46_0.cap, .int .i64 n46_1]) /\
 ∃ n52 : Int, w2.cell? ((⟨r5, 0, none⟩ : Addr).add 1) = some (.int .i64 n52) /\
 ∃ s54 : ByteArray, w2.cell? ((⟨r5, 0, none⟩ : Addr).add 4) = some (.string s54) /\
 ∃ n56 : Int, w2.cell? ((⟨r5, 0, none⟩ : Addr).add 2) = some (.int .i64 n56) /\
 ∃ n58 : Int, w2.cell? ((⟨r5, 0, none⟩ : Addr).add 3) = some (.int .i64 n58) /\
 Calls prog 28 #[.pointer p1, .int .i64 n52, .string s54, .int .i64 n56, .int .i64 n58] w2 fun e w3 =>
 ∃ l59_0 : SV, ∃ n59_1 : Int, e = .returned (.tuple #[.slice l59_0.a l59_0.len l59_0.cap, .int .i64 n59_1]) /\
 ∃ s63 : ByteArray, ∃ w4 : World, (convert 36 9 (.slice l46_0.a l46_0.len l46_0.cap)).run prog w3 = .ok (.string s63) w4 /\
 ∃ s65 : ByteArray, ∃ w5 : World, (convert 36 9 (.slice l59_0.a l59_0.len l59_0.cap)).run prog w4 = .ok (.string s65) w5 /\
 Br (s63.toList == s65.toList) (
 runD prog ds w5 fun w6 =>
 R (.returned (.bool (n46_1 == n59_1))) w6) (
 runD prog ds w5 fun w7 =>
 R (.returned (.bool false)) w7)) (
 Br (((IntKind.i64.wrap ((n29.tmod 13) + 13)).tmod 13) == 6) (
 dwE w1 fun w8 =>
 ∃ S1 : World -> Prop, S1 w8 /\
 ∃ n76 : Int, (∀ w', S1 w' -> w'.cell? ((⟨r5, 0, none⟩ : Addr).add 1) = some (.int .i64 n76)) /\
 ∃ s78 : ByteArray, (∀ w', S1 w' -> w'.cell? ((⟨r5, 0, none⟩ : Addr).add 4) = some (.string s78)) /\
 ∃ n80 : Int, (∀ w', S1 w' -> w'.cell? ((⟨r5, 0, none⟩ : Addr).add 2) = some (.int .i64 n80)) /\
 ∃ s82 : ByteArray, (∀ w', S1 w' -> w'.cell? ((⟨r5, 0, none⟩ : Addr).add 5) = some (.string s82)) /\
 ∃ n87 : Int, (∀ w', S1 w' -> w'.cell? ((⟨r5, 0, none⟩ : Addr).add 1) = some (.int .i64 n87)) /\
 ∃ s89 : ByteArray, (∀ w', S1 w' -> w'.cell? ((⟨r5, 0, none⟩ : Addr).add 4) = some (.string s89)) /\
 ∃ n91 : Int, (∀ w', S1 w' -> w'.cell? ((⟨r5, 0, none⟩ : Addr).add 2) = some (.int .i64 n91)) /\
 ∃ s93 : ByteArray, (∀ w', S1 w' -> w'.cell? ((⟨r5, 0, none⟩ : Addr).add 5) = some (.string s93)) /\
 (
 ∃ l83 : SV, ∃ w9 : World, (convert 9 36 (.string s82)).run prog w8 = .ok (.slice l83.a l83.len l83.cap) w9 /\
 S1 w9 /\
 (
 Calls prog 25 #[.pointer p0, .int .i64 n76, .string s78, .int .i64 n80, .slice l83.a l83.len l83.cap] w9 fun e w10 =>
 ∃ n84 : Int, e = .returned (.int .i64 n84) /\
 S1 w10 /\
 ∃ l94 : SV, ∃ w11 : World, (convert 9 36 (.string s93)).run prog w10 = .ok (.slice l94.a l94.len l94.cap) w11 /\
 S1 w11 /\
 Calls prog 29 #[.pointer p1, .int .i64 n87, .string s89, .int .i64 n91, .slice l94.a l94.len l94.cap] w11 fun e w12 =>
 ∃ n95 : Int, e = .returned (.int .i64 n95) /\
 runD prog ds w12 fun w13 =>
 R (.returned (.bool (n84 == n95))) w13) /\ (
 ∃ l94 : SV, ∃ w14 : World, (convert 9 36 (.string s93)).run prog w9 = .ok (.slice l94.a l94.len l94.cap) w14 /\
 S1 w14 /\
 Calls prog 25 #[.pointer p0, .int .i64 n76, .string s78, .int .i64 n80, .slice l83.a l83.len l83.cap] w14 fun e w15 =>
 ∃ n84 : Int, e = .returned (.int .i64 n84) /\
 S1 w15 /\
 Calls prog 29 #[.pointer p1, .int .i64 n87, .string s89, .int .i64 n91, .slice l94.a l94.len l94.cap] w15 fun e w16 =>
 ∃ n95 : Int, e = .returned (.int .i64 n95) /\
 runD prog ds w16 fun w17 =>
 R (.returned (.bool (n84 == n95))) w17)) /\ (
 ∃ l94 : SV, ∃ w18 : World, (convert 9 36 (.string s93)).run prog w8 = .ok (.slice l94.a l94.len l94.cap) w18 /\
 S1 w18 /\
 ∃ l83 : SV, ∃ w19 : World, (convert 9 36 (.string s82)).run prog w18 = .ok (.slice l83.a l83.len l83.cap) w19 /\
 S1 w19 /\
 Calls prog 25 #[.pointer p0, .int .i64 n76, .string s78, .int .i64 n80, .slice l83.a l83.len l83.cap] w19 fun e w20 =>
 ∃ n84 : Int, e = .returned (.int .i64 n84) /\
 S1 w20 /\
 Calls prog 29 #[.pointer p1, .int .i64 n87, .string s89, .int .i64 n91, .slice l94.a l94.len l94.cap] w20 fun e w21 =>
 ∃ n95 : Int, e = .returned (.int .i64 n95) /\
 runD prog ds w21 fun w22 =>
 R (.returned (.bool (n84 == n95))) w22)) (
 Br (((IntKind.i64.wrap ((n29.tmod 13) + 13)).tmod 13) == 7) (
 dwE w1 fun w23 =>
 ∃ S2 : World -> Prop, S2 w23 /\
 ∃ n101 : Int, (∀ w', S2 w' -> w'.cell? ((⟨r5, 0, none⟩ : Addr).add 1) = some (.int .i64 n101)) /\
 ∃ s103 : ByteArray, (∀ w', S2 w' -> w'.cell? ((⟨r5, 0, none⟩ : Addr).add 4) = some (.string s103)) /\
 ∃ n105 : Int, (∀ w', S2 w' -> w'.cell? ((⟨r5, 0, none⟩ : Addr).add 2) = some (.int .i64 n105)) /\
 ∃ n107 : Int, (∀ w', S2 w' -> w'.cell? ((⟨r5, 0, none⟩ : Addr).add 3) = some (.int .i64 n107)) /\
 ∃ n111 : Int, (∀ w', S2 w' -> w'.cell? ((⟨r5, 0, none⟩ : Addr).add 1) = some (.int .i64 n111)) /\
 ∃ s113 : ByteArray, (∀ w', S2 w' -> w'.cell? ((⟨r5, 0, none⟩ : Addr).add 4) = some (.string s113)) /\
 ∃ n115 : Int, (∀ w', S2 w' -> w'.cell? ((⟨r5, 0, none⟩ : Addr).add 2) = some (.int .i64 n115)) /\
 ∃ n117 : Int, (∀ w', S2 w' -> w'.cell? ((⟨r5, 0, none⟩ : Addr).add 3) = some (.int .i64 n117)) /\
 Calls prog 27 #[.pointer p0, .int .i64 n101, .string s103, .int .i64 n105, .int .i64 n107] w23 fun e w24 =>
 ∃ n108 : Int, e = .returned (.int .i64 n108) /\
 S2 w24 /\
 Calls prog 30 #[.pointer p1, .int .i64 n111, .string s113, .int .i64 n115, .int .i64 n117] w24 fun e w25 =>
 ∃ n118 : Int, e = .returned (.int .i64 n118) /\
 runD prog ds w25 fun w26 =>
 R (.returned (.bool (n108 == n118))) w26) (
 Br (((IntKind.i64.wrap ((n29.tmod 13) + 13)).tmod 13) == 8) (
 dwE w1 fun w27 =>
 ∃ S3 : World -> Prop, S3 w27 /\
 ∃ n124 : Int, (∀ w', S3 w' -> w'.cell? ((⟨r5, 0, none⟩ : Addr).add 1) = some (.int .i64 n124)) /\
 ∃ s126 : ByteArray, (∀ w', S3 w' -> w'.cell? ((⟨r5, 0, none⟩ : Addr).add 4) = some (.string s126)) /\
 ∃ n128 : Int, (∀ w', S3 w' -> w'.cell? ((⟨r5, 0, none⟩ : Addr).add 2) = some (.int .i64 n128)) /\
 ∃ n130 : Int, (∀ w', S3 w' -> w'.cell? ((⟨r5, 0, none⟩ : Addr).add 3) = some (.int .i64 n130)) /\
 ∃ n134 : Int, (∀ w', S3 w' -> w'.cell? ((⟨r5, 0, none⟩ : Addr).add 1) = some (.int .i64 n134)) /\
 ∃ s136 : ByteArray, (∀ w', S3 w' -> w'.cell? ((⟨r5, 0, none⟩ : Addr).add 4) = some (.string s136)) /\
 ∃ n138 : Int, (∀ w', S3 w' -> w'.cell? ((⟨r5, 0, none⟩ : Addr).add 2) = some (.int .i64 n138)) /\
 ∃ n140 : Int, (∀ w', S3 w' -> w'.cell? ((⟨r5, 0, none⟩ : Addr).add 3) = some (.int .i64 n140)) /\
 Calls prog 31 #[.pointer p0, .int .i64 n124, .string s126, .int .i64 n128, .int .i64 n130] w27 fun e w28 =>
 ∃ n131 : Int, e = .returned (.int .i64 n131) /\
 S3 w28 /\
 Calls prog 32 #[.pointer p1, .int .i64 n134, .string s136, .int .i64 n138, .int .i64 n140] w28 fun e w29 =>
 ∃ n141 : Int, e = .returned (.int .i64 n141) /\
 runD prog ds w29 fun w30 =>
 R (.returned (.bool (n131 == n141))) w30) (
 Br (((IntKind.i64.wrap ((n29.tmod 13) + 13)).tmod 13) == 9) (
 ∃ n148 : Int, w1.cell? ((⟨r5, 0, none⟩ : Addr).add 1) = some (.int .i64 n148) /\
 ∃ s150 : ByteArray, w1.cell? ((⟨r5, 0, none⟩ : Addr).add 4) = some (.string s150) /\
 Calls prog 26 #[.pointer p0, .int .i64 n148, .string s150] w1 fun e w31 =>
 ∃ n151_0 : Int, ∃ n151_1 : Int, e = .returned (.tuple #[.int .i64 n151_0, .int .i64 n151_1]) /\
 ∃ n157 : Int, w31.cell? ((⟨r5, 0, none⟩ : Addr).add 1) = some (.int .i64 n157) /\
 ∃ s159 : ByteArray, w31.cell? ((⟨r5, 0, none⟩ : Addr).add 4) = some (.string s159) /\
 Calls prog 33 #[.pointer p1, .int .i64 n157, .string s159] w31 fun e w32 =>
 ∃ n160_0 : Int, ∃ n160_1 : Int, e = .returned (.tuple #[.int .i64 n160_0, .int .i64 n160_1]) /\
 Br (n151_0 == n160_0) (
 runD prog ds w32 fun w33 =>
 R (.returned (.bool (n151_1 == n160_1))) w33) (
 runD prog ds w32 fun w34 =>
 R (.returned (.bool false)) w34)) (
 Br (((IntKind.i64.wrap ((n29.tmod 13) + 13)).tmod 13) == 10) (
 ∃ n176 : Int, w1.cell? ((⟨r5, 0, none⟩ : Addr).add 1) = some (.int .i64 n176) /\
 ∃ s178 : ByteArray, w1.cell? ((⟨r5, 0, none⟩ : Addr).add 4) = some (.string s178) /\
 Calls prog 34 #[.pointer p0, .int .i64 n176, .string s178] w1 fun e w35 =>
 ∃ n179_0 : Int, ∃ n179_1 : Int, e = .returned (.tuple #[.int .i64 n179_0, .int .i64 n179_1]) /\
 ∃ n185 : Int, w35.cell? ((⟨r5, 0, none⟩ : Addr).add 1) = some (.int .i64 n185) /\
 ∃ s187 : ByteArray, w35.cell? ((⟨r5, 0, none⟩ : Addr).add 4) = some (.string s187) /\
 Calls prog 35 #[.pointer p1, .int .i64 n185, .string s187] w35 fun e w36 =>
 ∃ n188_0 : Int, ∃ n188_1 : Int, e = .returned (.tuple #[.int .i64 n188_0, .int .i64 n188_1]) /\
 Br (n179_0 == n188_0) (
 runD prog ds w36 fun w37 =>
 R (.returned (.bool (n179_1 == n188_1))) w37) (
 runD prog ds w36 fun w38 =>
 R (.returned (.bool false)) w38)) (
 Br (((IntKind.i64.wrap ((n29.tmod 13) + 13)).tmod 13) == 11) (
 ∃ n204 : Int, w1.cell? ((⟨r5, 0, none⟩ : Addr).add 1) = some (.int .i64 n204) /\
 Calls prog 14 #[.pointer p0, .int .i64 n204] w1 fun e w39 =>
 ∃ n205_0 : Int, ∃ n205_1 : Int, e = .returned (.tuple #[.int .i64 n205_0, .int .i64 n205_1]) /\
 ∃ n211 : Int, w39.cell? ((⟨r5, 0, none⟩ : Addr).add 1) = some (.int .i64 n211) /\
 Calls prog 36 #[.pointer p1, .int .i64 n211] w39 fun e w40 =>
 ∃ n212_0 : Int, ∃ n212_1 : Int, e = .returned (.tuple #[.int .i64 n212_0, .int .i64 n212_1]) /\
 Br (n205_0 == n212_0) (
 runD prog ds w40 fun w41 =>
 R (.returned (.bool (n205_1 == n212_1))) w41) (
 runD prog ds w40 fun w42 =>
 R (.returned (.bool false)) w42)) (
 Br (((IntKind.i64.wrap ((n29.tmod 13) + 13)).tmod 13) == 12) (
 ∃ n228 : Int, w1.cell? ((⟨r5, 0, none⟩ : Addr).add 1) = some (.int .i64 n228) /\
 ∃ s230 : ByteArray, w1.cell? ((⟨r5, 0, none⟩ : Addr).add 4) = some (.string s230) /\
 Calls prog 37 #[.pointer p0, .int .i64 n228, .string s230] w1 fun e w43 =>
 ∃ l231_0 : SV, ∃ n231_1 : Int, e = .returned (.tuple #[.slice l231_0.a l231_0.len l231_0.cap, .int .i64 n231_1]) /\
 ∃ n237 : Int, w43.cell? ((⟨r5, 0, none⟩ : Addr).add 1) = some (.int .i64 n237) /\
 ∃ s239 : ByteArray, w43.cell? ((⟨r5, 0, none⟩ : Addr).add 4) = some (.string s239) /\
 Calls prog 38 #[.pointer p1, .int .i64 n237, .string s239] w43 fun e w44 =>
 ∃ l240_0 : SV, ∃ n240_1 : Int, e = .returned (.tuple #[.slice l240_0.a l240_0.len l240_0.cap, .int .i64 n240_1]) /\
 Calls prog 39 #[.slice l231_0.a l231_0.len l231_0.cap, .slice l240_0.a l240_0.len l240_0.cap] w44 fun e w45 =>
 ∃ b245 : Bool, e = .returned (.bool b245) /\
 Br b245 (
 runD prog ds w45 fun w46 =>
 R (.returned (.bool (n231_1 == n240_1))) w46) (
 runD prog ds w45 fun w47 =>
 R (.returned (.bool false)) w47)) (
 ∃ n254_0 : Int, w1.cell? ((⟨r5, 0, none⟩ : Addr).add 0) = some (.int .i64 n254_0) /\
 ∃ n254_1 : Int, w1.cell? ((⟨r5, 0, none⟩ : Addr).add 1) = some (.int .i64 n254_1) /\
 ∃ n254_2 : Int, w1.cell? ((⟨r5, 0, none⟩ : Addr).add 2) = some (.int .i64 n254_2) /\
 ∃ n254_3 : Int, w1.cell? ((⟨r5, 0, none⟩ : Addr).add 3) = some (.int .i64 n254_3) /\
 ∃ s254_4 : ByteArray, w1.cell? ((⟨r5, 0, none⟩ : Addr).add 4) = some (.string s254_4) /\
 ∃ s254_5 : ByteArray, w1.cell? ((⟨r5, 0, none⟩ : Addr).add 5) = some (.string s254_5) /\
 Calls prog 40 #[.pointer p0, .pointer p1, .int .i64 ((IntKind.i64.wrap ((n29.tmod 13) + 13)).tmod 13), .agg #[.int .i64 n254_0, .int .i64 n254_1, .int .i64 n254_2, .int .i64 n254_3, .string s254_4, .string s254_5]] w1 fun e w48 =>
 ∃ b255 : Bool, e = .returned (.bool b255) /\
 runD prog ds w48 fun w49 =>
 R (.returned (.bool b255)) w49))))))))
theorem c11_l : flat (bodyOf f11) = [c11_0, c11_1, c11_2, c11_3, c11_4, c11_5] := by kernel_rfl
theorem F11_1_ok (R : Rt) (p0 p1 : Option Addr) (n2_0 n2_1 n2_2 n2_3 : Int) (s2_4 s2_5 : ByteArray) (ds : Ds) (w : World) (E : Env) (e0 : E 0 = .pointer p0) (e1 : E 1 = .pointer p1) (e2 : E 2 = .agg #[.int .i64 n2_0, .int .i64 n2_1, .int .i64 n2_2, .int .i64 n2_3, .string s2_4, .string s2_5]) (h : F11_1 R p0 p1 n2_0 n2_1 n2_2 n2_3 s2_4 s2_5 ds w) :
    TrL prog f11.ntmps [c11_0, c11_1, c11_2, c11_3, c11_4, c11_5] (F11_q1 R) E ds w :=
  TrL_leaf (X := F11_1 R p0 p1 n2_0 n2_1 n2_2 n2_3 s2_4 s2_5 ds w) (setAll_cons e0 (setAll_cons e1 (setAll_cons e2 setAll_nil))) (by kernel_rfl) (by kernel_rfl) h
theorem F11_calls (p0 p1 : Option Addr) (n2_0 n2_1 n2_2 n2_3 : Int) (s2_4 s2_5 : ByteArray) (w : World) (R : Rt) (h : F11_1 R p0 p1 n2_0 n2_1 n2_2 n2_3 s2_4 s2_5 [] w) : Calls prog 11 #[.pointer p0, .pointer p1, .agg #[.int .i64 n2_0, .int .i64 n2_1, .int .i64 n2_2, .int .i64 n2_3, .string s2_4, .string s2_5]] w R :=
  calls_of_L (l := [c11_0, c11_1, c11_2, c11_3, c11_4, c11_5]) func11 (by kernel_rfl) (by rw [ntmps11]; exact Nat.le_of_ble_eq_true (by kernel_rfl)) c11_l
    (F11_1_ok R p0 p1 n2_0 n2_1 n2_2 n2_3 s2_4 s2_5 [] w _ rfl rfl rfl h)
noncomputable def c40_0 := cI2 f40 0
noncomputable def c40_1 := cI2 f40 1
noncomputable def c40_2 := cI2 f40 2
noncomputable def c40_3 := cI2 f40 3
noncomputable def c40_4 := cI2 f40 4
noncomputable def c40_5 := cI2 f40 5
noncomputable def c40_6 := cI2 f40 6
def F40_q1 (R : Rt) : EQ := endQ prog f40.results.toList R
def F40_1 (R : Rt) (p0 p1 : Option Addr) (n2 n3_0 n3_1 n3_2 n3_3 : Int) (s3_4 s3_5 : ByteArray) (ds : Ds) (w : World) : Prop :=
 alE (.cells #[.int .i64 n3_0, .int .i64 n3_1, .int .i64 n3_2, .int .i64 n3_3, .string s3_4, .string s3_5] 31) w fun r7 w1 =>
 Br (n2 == 0) (
 dwE w1 fun w2 =>
 ∃ S1 : World -> Prop, S1 w2 /\
 ∃ s22 : ByteArray, (∀ w', S1 w' -> w'.cell? ((⟨r7, 0, none⟩ : Addr).add 4) = some (.string s22)) /\
 ∃ s26 : ByteArray, (∀ w', S1 w' -> w'.cell? ((⟨r7, 0, none⟩ : Addr).add 4) = some (.string s26)) /\
 Calls prog 16 #[.pointer p0, .string s22] w2 fun e w3 =>
 ∃ n23 : Int, e = .returned (.int .i64 n23) /\
 S1 w3 /\
 Calls prog 86 #[.pointer p1, .string s26] w3 fun e w4 =>
 ∃ n27 : Int, e = .returned (.int .i64 n27) /\
 runD prog ds w4 fun w5 =>
 R (.returned (.bool (n23 == n27))) w5) (
 Br (n2 == 1) (
 dwE w1 fun w6 =>
 ∃ S2 : World -> Prop, S2 w6 /\
 ∃ s33 : ByteArray, (∀ w', S2 w' -> w'.cell? ((⟨r7, 0, none⟩ : Addr).add 4) = some (.string s33)) /\
 ∃ s37 : ByteArray, (∀ w', S2 w' -> w'.cell? ((⟨r7, 0, none⟩ : Addr).add 4) = some (.string s37)) /\
 Calls prog 87 #[.pointer p0, .string s33] w6 fun e w7 =>
 ∃ n34 : Int, e = .returned (.int .i64 n34) /\
 S2 w7 /\
 Calls prog 88 #[.pointer p1, .string s37] w7 fun e w8 =>
 ∃ n38 : Int, e = .returned (.int .i64 n38) /\
 runD prog ds w8 fun w9 =>
 R (.returned (.bool (n34 == n38))) w9) (
 Br (n2 == 2) (
 dwE w1 fun w10 =>
 ∃ S3 : World -> Prop, S3 w10 /\
 ∃ s44 : ByteArray, (∀ w', S3 w' -> w'.cell? ((⟨r7, 0, none⟩ : Addr).add 4) = some (.string s44)) /\
 ∃ n46 : Int, (∀ w', S3 w' -> w'.cell? ((⟨r7, 0, none⟩ : Addr).add 2) = some (.int .i64 n46)) /\
 ∃ s50 : ByteArray, (∀ w', S3 w' -> w'.cell? ((⟨r7, 0, none⟩ : Addr).add 4) = some (.string s50)) /\
 ∃ n52 : Int, (∀ w', S3 w' -> w'.cell? ((⟨r7, 0, none⟩ : Addr).add 2) = some (.int .i64 n52)) /\
 Calls prog 24 #[.pointer p0, .string s44, .int .i64 n46] w10 fun e w11 =>
 ∃ n47 : Int, e = .returned (.int .i64 n47) /\
 S3 w11 /\
 Calls prog 89 #[.pointer p1, .string s50, .int .i64 n52] w11 fun e w12 =>
 ∃ n53 : Int, e = .returned (.int .i64 n53) /\
 runD prog ds w12 fun w13 =>
 R (.returned (.bool (n47 == n53))) w13) (
 Br (n2 == 3) (
 ∃ s60 : ByteArray, w1.cell? ((⟨r7, 0, none⟩ : Addr).add 4) = some (.string s60) /\
 Calls prog 90 #[.pointer p0, .string s60] w1 fun e w14 =>
 ∃ n61_0 : Int, ∃ n61_1 : Int, e = .returned (.tuple #[.int .i64 n61_0, .int .i64 n61_1]) /\
 ∃ s67 : ByteArray, w14.cell? ((⟨r7, 0, none⟩ : Addr).add 4) = some (.string s67) /\
 Calls prog 12 #[.pointer p1, .string s67] w14 fun e w15 =>
 ∃ n68_0 : Int, ∃ n68_1 : Int, e = .returned (.tuple #[.int .i64 n68_0, .int .i64 n68_1]) /\
 Br (n61_0 == n68_0) (
 runD prog ds w15 fun w16 =>
 R (.returned (.bool (n61_1 == n68_1))) w16) (
 runD prog ds w15 fun w17 =>
 R (.returned (.bool false)) w17)) (
 ∃ s82 : ByteArray, w1.cell? ((⟨r7, 0, none⟩ : Addr).add 4) = some (.string s82) /\
 Calls prog 15 #[.pointer p0, .string s82] w1 fun e w18 =>
 ∃ l83_0 : SV, ∃ n83_1 : Int, e = .returned (.tuple #[.slice l83_0.a l83_0.len l83_0.cap, .int .i64 n83_1]) /\
 ∃ s89 : ByteArray, w18.cell? ((⟨r7, 0, none⟩ : Addr).add 4) = some (.string s89) /\
 Calls prog 91 #[.pointer p1, .string s89] w18 fun e w19 =>
 ∃ l90_0 : SV, ∃ n90_1 : Int, e = .returned (.tuple #[.slice l90_0.a l90_0.len l90_0.cap, .int .i64 n90_1]) /\
 ∃ s94 : ByteArray, ∃ w20 : World, (convert 36 9 (.slice l83_0.a l83_0.len l83_0.cap)).run prog w19 = .ok (.string s94) w20 /\
 ∃ s96 : ByteArray, ∃ w21 : World, (convert 36 9 (.slice l90_0.a l90_0.len l90_0.cap)).run prog w20 = .ok (.string s96) w21 /\
 Br (s94.toList == s96.toList) (
 runD prog ds w21 fun w22 =>
 R (.returned (.bool (n83_1 == n90_1))) w22) (
 runD prog ds w21 fun w23 =>
 R (.returned (.bool false)) w23)))))
theorem c40_l : flat (bodyOf f40) = [c40_0, c40_1, c40_2, c40_3, c40_4, c40_5, c40_6] := by kernel_rfl
theorem F40_1_ok (R : Rt) (p0 p1 : Option Addr) (n2 n3_0 n3_1 n3_2 n3_3 : Int) (s3_4 s3_5 : ByteArray) (ds : Ds) (w : World) (E : Env) (e0 : E 0 = .pointer p0) (e1 : E 1 = .pointer p1) (e2 : E 2 = .int .i64 n2) (e3 : E 3 = .agg #[.int .i64 n3_0, .int .i64 n3_1, .int .i64 n3_2, .int .i64 n3_3, .string s3_4, .string s3_5]) (h : F40_1 R p0 p1 n2 n3_0 n3_1 n3_2 n3_3 s3_4 s3_5 ds w) :
    TrL prog f40.ntmps [c40_0, c40_1, c40_2, c40_3, c40_4, c40_5, c40_6] (F40_q1 R) E ds w :=
  TrL_leaf (X := F40_1 R p0 p1 n2 n3_0 n3_1 n3_2 n3_3 s3_4 s3_5 ds w) (setAll_cons e0 (setAll_cons e1 (setAll_cons e2 (setAll_cons e3 setAll_nil)))) (by kernel_rfl) (by kernel_rfl) h
theorem F40_calls (p0 p1 : Option Addr) (n2 n3_0 n3_1 n3_2 n3_3 : Int) (s3_4 s3_5 : ByteArray) (w : World) (R : Rt) (h : F40_1 R p0 p1 n2 n3_0 n3_1 n3_2 n3_3 s3_4 s3_5 [] w) : Calls prog 40 #[.pointer p0, .pointer p1, .int .i64 n2, .agg #[.int .i64 n3_0, .int .i64 n3_1, .int .i64 n3_2, .int .i64 n3_3, .string s3_4, .string s3_5]] w R :=
  calls_of_L (l := [c40_0, c40_1, c40_2, c40_3, c40_4, c40_5, c40_6]) func40 (by kernel_rfl) (by rw [ntmps40]; exact Nat.le_of_ble_eq_true (by kernel_rfl)) c40_l
    (F40_1_ok R p0 p1 n2 n3_0 n3_1 n3_2 n3_3 s3_4 s3_5 [] w _ rfl rfl rfl rfl h)
noncomputable def c3_0 := cI2 f3 0
noncomputable def c3_1 := cI2 f3 1
noncomputable def c3_2 := cI2 f3 2
noncomputable def c3_3 := cI2 f3 3
noncomputable def c3_4 := cI2 f3 4
noncomputable def c3_5 := cI2 f3 5
noncomputable def c3_6 := cI2 f3 6
noncomputable def c3_7 := cI2 f3 7
noncomputable def c3_8 := cI2 f3 8
noncomputable def c3_9 := cI2 f3 9
noncomputable def c3_10 := cI2 f3 10
noncomputable def c3_11 := cI2 f3 11
noncomputable def c3_12 := cI2 f3 12
noncomputable def c3_10_0 := cJ2 c3_10 0
noncomputable def c3_10_0_0 := cJ2 c3_10_0 0
noncomputable def c3_10_0_1 := cJ2 c3_10_0 1
noncomputable def c3_10_0_2 := cJ2 c3_10_0 2
noncomputable def c3_10_0_3 := cJ2 c3_10_0 3
noncomputable def c3_7_0 := cJ2 c3_7 0
noncomputable def c3_7_0_0 := cJ2 c3_7_0 0
noncomputable def c3_7_0_1 := cJ2 c3_7_0 1
noncomputable def c3_7_0_2 := cJ2 c3_7_0 2
noncomputable def c3_7_0_3 := cJ2 c3_7_0 3
def F3_q1 (R : Rt) : EQ := endQ prog f3.results.toList R
def F3_1 (R : Rt) (ds : Ds) (w : World) : Prop :=
 Calls prog 8 #[] w fun e w1 =>
 ∃ b56 : Bool, e = .returned (.bool b56) /\
 runD prog ds w1 fun w2 =>
 R (.returned (.bool b56)) w2
def F3_k2 (R : Rt) : EP := (fun E ds w => F3_1 R ds w)
def F3_q3 (R : Rt) : EQ := (thenQ (F3_k2 R) (F3_q1 R))
def F3_q4 (R : Rt) : EQ := (blockQ 2 (F3_q3 R))
def F3_q5 (R : Rt) (J1 : (Int) -> World -> Prop) : EQ := (thenQ (fun E _ w => dInt .i64 (E 10) fun n10 => J1 n10 w) (F3_q4 R))
def F3_2 (R : Rt) (J1 : (Int) -> World -> Prop) (s1 : ByteArray) (p5 p6 : Option Addr) (n8 n10 : Int) (ds : Ds) (w : World) : Prop :=
 Br (decide (n10 < 4)) (
 ∃ n52 : Int, ∃ w3 : World, (Builtin.min_ #[3, 3] 3 #[.int .i64 n8, .int .i64 4000]).run prog w = .ok (.int .i64 n52) w3 /\
 Calls prog 11 #[.pointer p5, .pointer p6, .agg #[.int .i64 5, .int .i64 n10, .int .i64 0, .int .i64 n52, .string s1, .string (⟨#[]⟩ : ByteArray)]] w3 fun e w4 =>
 ∃ b54 : Bool, e = .returned (.bool b54) /\
 Br (!b54) (
 runD prog ds w4 fun w5 =>
 R (.returned (.bool false)) w5) (
 J1 (IntKind.i64.wrap (n10 + 1)) w4)) (
 F3_1 R ds w)
def F3_3 (R : Rt) (s1 : ByteArray) (p5 p6 : Option Addr) (n8 n10 : Int) (ds : Ds) (w : World) : Prop :=
 loopT (fun (J1 : (Int) -> World -> Prop) (s : Int) (w : World) => F3_2 R J1 s1 p5 p6 n8 s ds w) n10 w
abbrev F3_4 (R : Rt) (s1 : ByteArray) (p5 p6 : Option Addr) (n8 n10 : Int) (ds : Ds) (w : World) : Prop := F3_3 R s1 p5 p6 n8 n10 ds w
def F3_k6 (R : Rt) : EP := (fun E ds w => dStr (E 1) fun s1 => dPtr (E 5) fun p5 => dPtr (E 6) fun p6 => dInt .i64 (E 8) fun n8 => dInt .i64 (E 10) fun n10 => F3_4 R s1 p5 p6 n8 n10 ds w)
def F3_5 (R : Rt) (s1 : ByteArray) (p5 p6 : Option Addr) (ds : Ds) (w : World) : Prop :=
 Calls prog 12 #[.pointer p6, .string s1] w fun e w6 =>
 ∃ n40_0 : Int, ∃ n40_1 : Int, e = .returned (.tuple #[.int .i64 n40_0, .int .i64 n40_1]) /\
 F3_4 R s1 p5 p6 n40_0 0 ds w6
def F3_k7 (R : Rt) : EP := (fun E ds w => dStr (E 1) fun s1 => dPtr (E 5) fun p5 => dPtr (E 6) fun p6 => F3_5 R s1 p5 p6 ds w)
def F3_q8 (R : Rt) : EQ := (thenQ (F3_k7 R) (F3_q1 R))
def F3_q9 (R : Rt) : EQ := (blockQ 0 (F3_q8 R))
def F3_q10 (R : Rt) (J1 : (Int) -> World -> Prop) : EQ := (thenQ (fun E _ w => dInt .i64 (E 7) fun n7 => J1 n7 w) (F3_q9 R))
def F3_6 (R : Rt) (J1 : (Int) -> World -> Prop) (l0 : SV) (s1 : ByteArray) (p5 p6 : Option Addr) (n7 : Int) (ds : Ds) (w : World) : Prop :=
 Br (decide (n7 < (l0.len : Int))) (
 ∃ a7 : Addr, l0.a = some a7 /\ 0 <= n7 /\ n7 < (l0.len : Int) /\
 ∃ n34_0 : Int, w.cell? ((a7.add (n7.toNat * 6)).add 0) = some (.int .i64 n34_0) /\
 ∃ n34_1 : Int, w.cell? ((a7.add (n7.toNat * 6)).add 1) = some (.int .i64 n34_1) /\
 ∃ n34_2 : Int, w.cell? ((a7.add (n7.toNat * 6)).add 2) = some (.int .i64 n34_2) /\
 ∃ n34_3 : Int, w.cell? ((a7.add (n7.toNat * 6)).add 3) = some (.int .i64 n34_3) /\
 ∃ s34_4 : ByteArray, w.cell? ((a7.add (n7.toNat * 6)).add 4) = some (.string s34_4) /\
 ∃ s34_5 : ByteArray, w.cell? ((a7.add (n7.toNat * 6)).add 5) = some (.string s34_5) /\
 Calls prog 11 #[.pointer p5, .pointer p6, .agg #[.int .i64 n34_0, .int .i64 n34_1, .int .i64 n34_2, .int .i64 n34_3, .string s34_4, .string s34_5]] w fun e w8 =>
 ∃ b35 : Bool, e = .returned (.bool b35) /\
 Br (!b35) (
 runD prog ds w8 fun w9 =>
 R (.returned (.bool false)) w9) (
 J1 (IntKind.i64.wrap (n7 + 1)) w8)) (
 F3_5 R s1 p5 p6 ds w)
def F3_7 (R : Rt) (l0 : SV) (s1 : ByteArray) (p5 p6 : Option Addr) (n7 : Int) (ds : Ds) (w : World) : Prop :=
 loopT (fun (J1 : (Int) -> World -> Prop) (s : Int) (w : World) => F3_6 R J1 l0 s1 p5 p6 s ds w) n7 w
abbrev F3_8 (R : Rt) (l0 : SV) (s1 : ByteArray) (p5 p6 : Option Addr) (n7 : Int) (ds : Ds) (w : World) : Prop := F3_7 R l0 s1 p5 p6 n7 ds w
def F3_k11 (R : Rt) : EP := (fun E ds w => dSl (E 0) fun l0 => dStr (E 1) fun s1 => dPtr (E 5) fun p5 => dPtr (E 6) fun p6 => dInt .i64 (E 7) fun n7 => F3_8 R l0 s1 p5 p6 n7 ds w)
def F3_9 (R : Rt) (l0 : SV) (s1 : ByteArray) (ds : Ds) (w : World) : Prop :=
 Calls prog 7 #[.slice l0.a l0.len l0.cap] w fun e w10 =>
 ∃ b12 : Bool, e = .returned (.bool b12) /\
 Br b12 (
 Calls prog 8 #[] w10 fun e w11 =>
 ∃ b18 : Bool, e = .returned (.bool b18) /\
 runD prog ds w11 fun w12 =>
 R (.returned (.bool b18)) w12) (
 Br (decide ((s1.size : Int) > 100000)) (
 Calls prog 8 #[] w10 fun e w13 =>
 ∃ b18 : Bool, e = .returned (.bool b18) /\
 runD prog ds w13 fun w14 =>
 R (.returned (.bool b18)) w14) (
 Calls prog 9 #[] w10 fun e w15 =>
 ∃ p19 : Option Addr, e = .returned (.pointer p19) /\
 Calls prog 10 #[] w15 fun e w16 =>
 ∃ p20 : Option Addr, e = .returned (.pointer p20) /\
 ∃ b22 : Bool, ∃ w17 : World, (eqS .eql 25 (.tmp 21) (.const (.pointer none)) (.pointer p19) (.pointer none)).run prog w16 = .ok (.bool b22) w17 /\
 Br b22 (
 runD prog ds w17 fun w18 =>
 R (.returned (.bool false)) w18) (
 F3_8 R l0 s1 p19 p20 0 ds w17)))
theorem c3_l : flat (bodyOf f3) = [c3_0, c3_1, c3_2, c3_3, c3_4, c3_5, c3_6, c3_7, c3_8, c3_9, c3_10, c3_11, c3_12] := by kernel_rfl
theorem c3_10_l : flat (innerC c3_10) = [c3_10_0] := by kernel_rfl
theorem c3_10_0_l : flat (innerC c3_10_0) = [c3_10_0_0, c3_10_0_1, c3_10_0_2, c3_10_0_3] := by kernel_rfl
theorem c3_7_l : flat (innerC c3_7) = [c3_7_0] := by kernel_rfl
theorem c3_7_0_l : flat (innerC c3_7_0) = [c3_7_0_0, c3_7_0_1, c3_7_0_2, c3_7_0_3] := by kernel_rfl
theorem F3_1_ok (R : Rt) (ds : Ds) (w : World) (E : Env) (h : F3_1 R ds w) :
    TrL prog f3.ntmps [c3_11, c3_12] (F3_q1 R) E ds w :=
  TrL_leaf (X := F3_1 R ds w) setAll_nil (by kernel_rfl) (by kernel_rfl) h
theorem F3_2_ok (R : Rt) (J1 : (Int) -> World -> Prop) (s1 : ByteArray) (p5 p6 : Option Addr) (n8 n10 : Int) (ds : Ds) (w : World) (E : Env) (e1 : E 1 = .string s1) (e5 : E 5 = .pointer p5) (e6 : E 6 = .pointer p6) (e8 : E 8 = .int .i64 n8) (e10 : E 10 = .int .i64 n10) (h : F3_2 R J1 s1 p5 p6 n8 n10 ds w) :
    TrL prog f3.ntmps [c3_10_0_0, c3_10_0_1, c3_10_0_2, c3_10_0_3] (F3_q5 R J1) E ds w :=
  TrL_leaf (X := F3_2 R J1 s1 p5 p6 n8 n10 ds w) (setAll_cons e1 (setAll_cons e5 (setAll_cons e6 (setAll_cons e8 (setAll_cons e10 setAll_nil))))) (by kernel_rfl) (by kernel_rfl) h
theorem F3_3_ok (R : Rt) (s1 : ByteArray) (p5 p6 : Option Addr) (n8 n10 : Int) (ds : Ds) (w : World) (E : Env) (e1 : E 1 = .string s1) (e5 : E 5 = .pointer p5) (e6 : E 6 = .pointer p6) (e8 : E 8 = .int .i64 n8) (e10 : E 10 = .int .i64 n10) (h : F3_3 R s1 p5 p6 n8 n10 ds w) :
    TrL prog f3.ntmps [c3_10_0] (F3_q4 R) E ds w :=
  TrL_one (Tr_loop' (c := innerC c3_10_0) (σ := Int) (enc := (fun (s : Int) (E : Env) => E 10 = .int .i64 s)) (D := (fun E K => dInt .i64 (E 10) fun n10 => K n10)) (F := (fun (J1 : (Int) -> World -> Prop) (s : Int) (w : World) => F3_2 R J1 s1 p5 p6 n8 s ds w)) (s0 := n10) (by kernel_rfl) c3_10_0_l e10 (by kernel_rfl) (fun E K hD => by obtain ⟨n10, e10, hD⟩ := dInt_elim hD; exact ⟨n10, e10, hD⟩)
      (fun J1 s E' w' he ha hF => by
      have e10' := he
      exact F3_2_ok R J1 s1 p5 p6 n8 s ds w' E' ((ha 1 (by kernel_rfl)).trans e1) ((ha 5 (by kernel_rfl)).trans e5) ((ha 6 (by kernel_rfl)).trans e6) ((ha 8 (by kernel_rfl)).trans e8) e10' hF) h)
theorem F3_4_ok (R : Rt) (s1 : ByteArray) (p5 p6 : Option Addr) (n8 n10 : Int) (ds : Ds) (w : World) (E : Env) (e1 : E 1 = .string s1) (e5 : E 5 = .pointer p5) (e6 : E 6 = .pointer p6) (e8 : E 8 = .int .i64 n8) (e10 : E 10 = .int .i64 n10) (h : F3_4 R s1 p5 p6 n8 n10 ds w) :
    TrL prog f3.ntmps [c3_10, c3_11, c3_12] (F3_q1 R) E ds w :=
  TrL_head (K := (F3_k2 R)) (Tr_block' (c := innerC c3_10) (by kernel_rfl) c3_10_l (F3_3_ok R s1 p5 p6 n8 n10 ds w E e1 e5 e6 e8 e10 h))
    (fun E' ds' w' hD => by
      exact F3_1_ok R ds' w' E'  hD)
theorem F3_5_ok (R : Rt) (s1 : ByteArray) (p5 p6 : Option Addr) (ds : Ds) (w : World) (E : Env) (e1 : E 1 = .string s1) (e5 : E 5 = .pointer p5) (e6 : E 6 = .pointer p6) (h : F3_5 R s1 p5 p6 ds w) :
    TrL prog f3.ntmps [c3_8, c3_9, c3_10, c3_11, c3_12] (F3_q1 R) E ds w :=
  TrL_piece (pre := [c3_8, c3_9]) (K := (F3_k6 R)) (X := F3_5 R s1 p5 p6 ds w) (setAll_cons e1 (setAll_cons e5 (setAll_cons e6 setAll_nil))) (by kernel_rfl) (by kernel_rfl)
    (fun E' ds' w' hD => by
      obtain ⟨s1, e1, hD⟩ := dStr_elim hD; obtain ⟨p5, e5, hD⟩ := dPtr_elim hD; obtain ⟨p6, e6, hD⟩ := dPtr_elim hD; obtain ⟨n8, e8, hD⟩ := dInt_elim hD; obtain ⟨n10, e10, hD⟩ := dInt_elim hD; exact F3_4_ok R s1 p5 p6 n8 n10 ds' w' E' e1 e5 e6 e8 e10 hD) h
theorem F3_6_ok (R : Rt) (J1 : (Int) -> World -> Prop) (l0 : SV) (s1 : ByteArray) (p5 p6 : Option Addr) (n7 : Int) (ds : Ds) (w : World) (E : Env) (e0 : E 0 = .slice l0.a l0.len l0.cap) (e1 : E 1 = .string s1) (e5 : E 5 = .pointer p5) (e6 : E 6 = .pointer p6) (e7 : E 7 = .int .i64 n7) (h : F3_6 R J1 l0 s1 p5 p6 n7 ds w) :
    TrL prog f3.ntmps [c3_7_0_0, c3_7_0_1, c3_7_0_2, c3_7_0_3] (F3_q10 R J1) E ds w :=
  TrL_leaf (X := F3_6 R J1 l0 s1 p5 p6 n7 ds w) (setAll_cons e0 (setAll_cons e1 (setAll_cons e5 (setAll_cons e6 (setAll_cons e7 setAll_nil))))) (by kernel_rfl) (by kernel_rfl) h
theorem F3_7_ok (R : Rt) (l0 : SV) (s1 : ByteArray) (p5 p6 : Option Addr) (n7 : Int) (ds : Ds) (w : World) (E : Env) (e0 : E 0 = .slice l0.a l0.len l0.cap) (e1 : E 1 = .string s1) (e5 : E 5 = .pointer p5) (e6 : E 6 = .pointer p6) (e7 : E 7 = .int .i64 n7) (h : F3_7 R l0 s1 p5 p6 n7 ds w) :
    TrL prog f3.ntmps [c3_7_0] (F3_q9 R) E ds w :=
  TrL_one (Tr_loop' (c := innerC c3_7_0) (σ := Int) (enc := (fun (s : Int) (E : Env) => E 7 = .int .i64 s)) (D := (fun E K => dInt .i64 (E 7) fun n7 => K n7)) (F := (fun (J1 : (Int) -> World -> Prop) (s : Int) (w : World) => F3_6 R J1 l0 s1 p5 p6 s ds w)) (s0 := n7) (by kernel_rfl) c3_7_0_l e7 (by kernel_rfl) (fun E K hD => by obtain ⟨n7, e7, hD⟩ := dInt_elim hD; exact ⟨n7, e7, hD⟩)
      (fun J1 s E' w' he ha hF => by
      have e7' := he
      exact F3_6_ok R J1 l0 s1 p5 p6 s ds w' E' ((ha 0 (by kernel_rfl)).trans e0) ((ha 1 (by kernel_rfl)).trans e1) ((ha 5 (by kernel_rfl)).trans e5) ((ha 6 (by kernel_rfl)).trans e6) e7' hF) h)
theorem F3_8_ok (R : Rt) (l0 : SV) (s1 : ByteArray) (p5 p6 : Option Addr) (n7 : Int) (ds : Ds) (w : World) (E : Env) (e0 : E 0 = .slice l0.a l0.len l0.cap) (e1 : E 1 = .string s1) (e5 : E 5 = .pointer p5) (e6 : E 6 = .pointer p6) (e7 : E 7 = .int .i64 n7) (h : F3_8 R l0 s1 p5 p6 n7 ds w) :
    TrL prog f3.ntmps [c3_7, c3_8, c3_9, c3_10, c3_11, c3_12] (F3_q1 R) E ds w :=
  TrL_head (K := (F3_k7 R)) (Tr_block' (c := innerC c3_7) (by kernel_rfl) c3_7_l (F3_7_ok R l0 s1 p5 p6 n7 ds w E e0 e1 e5 e6 e7 h))
    (fun E' ds' w' hD => by
      obtain ⟨s1, e1, hD⟩ := dStr_elim hD; obtain ⟨p5, e5, hD⟩ := dPtr_elim hD; obtain ⟨p6, e6, hD⟩ := dPtr_elim hD; exact F3_5_ok R s1 p5 p6 ds' w' E' e1 e5 e6 hD)
theorem F3_9_ok (R : Rt) (l0 : SV) (s1 : ByteArray) (ds : Ds) (w : World) (E : Env) (e0 : E 0 = .slice l0.a l0.len l0.cap) (e1 : E 1 = .string s1) (h : F3_9 R l0 s1 ds w) :
    TrL prog f3.ntmps [c3_0, c3_1, c3_2, c3_3, c3_4, c3_5, c3_6, c3_7, c3_8, c3_9, c3_10, c3_11, c3_12] (F3_q1 R) E ds w :=
  TrL_piece (pre := [c3_0, c3_1, c3_2, c3_3, c3_4, c3_5, c3_6]) (K := (F3_k11 R)) (X := F3_9 R l0 s1 ds w) (setAll_cons e0 (setAll_cons e1 setAll_nil)) (by kernel_rfl) (by kernel_rfl)
    (fun E' ds' w' hD => by
      obtain ⟨l0, e0, hD⟩ := dSl_elim hD; obtain ⟨s1, e1, hD⟩ := dStr_elim hD; obtain ⟨p5, e5, hD⟩ := dPtr_elim hD; obtain ⟨p6, e6, hD⟩ := dPtr_elim hD; obtain ⟨n7, e7, hD⟩ := dInt_elim hD; exact F3_8_ok R l0 s1 p5 p6 n7 ds' w' E' e0 e1 e5 e6 e7 hD) h
theorem F3_calls (l0 : SV) (s1 : ByteArray) (w : World) (R : Rt) (h : F3_9 R l0 s1 [] w) : Calls prog 3 #[.slice l0.a l0.len l0.cap, .string s1] w R :=
  calls_of_L (l := [c3_0, c3_1, c3_2, c3_3, c3_4, c3_5, c3_6, c3_7, c3_8, c3_9, c3_10, c3_11, c3_12]) func3 (by kernel_rfl) (by rw [ntmps3]; exact Nat.le_of_ble_eq_true (by kernel_rfl)) c3_l
    (F3_9_ok R l0 s1 [] w _ rfl rfl h)
end Go.Proofs.YtnigfiljenfgjaaGreat
