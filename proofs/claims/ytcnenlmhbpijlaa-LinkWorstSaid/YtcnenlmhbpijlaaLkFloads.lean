import Derived.Test.YtcnenlmhbpijlaaProg
import Derived.Test.YtcnenlmhbpijlaaShEight
/- Shallow texts of functions, printed by program, each checked by the kernel against the loaded code. No condition. -/
set_option maxRecDepth 100000
set_option linter.unusedVariables false
namespace Go.Proofs.Ytcnenlmhbpijlaa
open Go.Sh
/-! function 4: cabinetry/cabinetrylaw24.LinkLoads -/
noncomputable def c4_0 : Code := itemAt (flat (bodyOf Try.f4)) 0
noncomputable def c4_1 : Code := itemAt (flat (bodyOf Try.f4)) 1
noncomputable def c4_2 : Code := itemAt (flat (bodyOf Try.f4)) 2
noncomputable def c4_3 : Code := itemAt (flat (bodyOf Try.f4)) 3
noncomputable def c4_4 : Code := itemAt (flat (bodyOf Try.f4)) 4
noncomputable def c4_5 : Code := itemAt (flat (bodyOf Try.f4)) 5
noncomputable def c4_6 : Code := itemAt (flat (bodyOf Try.f4)) 6
def F4_q1 (R : Rt) : EQ := endQ Try.prog Try.f4.results.toList R
def F4_1 (R : Rt) (n7 : Int) (n8 : Int) (n9 : Int) (n10 : Int) (ds : Ds) (w : World) : Prop :=
 Br (n7 == n9) (
 Br (n8 == n10) (
 Calls Try.prog 16 #[] w fun e w1 =>
 ∃ b47 : Bool, e = .returned (.bool b47) ∧
 runD Try.prog ds w1 fun w2 =>
 R (.returned (.bool b47)) w2) (
 runD Try.prog ds w fun w3 =>
 R (.returned (.bool false)) w3)) (
 runD Try.prog ds w fun w4 =>
 R (.returned (.bool false)) w4)
def F4_k2 (R : Rt) : EP := (fun ρ ds w => dInt .i64 (ρ 7) fun n7 => dInt .i64 (ρ 8) fun n8 => dInt .i64 (ρ 9) fun n9 => dInt .i64 (ρ 10) fun n10 => F4_1 R n7 n8 n9 n10 ds w)
def F4_2 (R : Rt) (l0 : SV) (s1 : ByteArray) (l2 : SV) (ds : Ds) (w : World) : Prop :=
 Calls Try.prog 14 #[.slice l0.a l0.len l0.cap] w fun e w5 =>
 ∃ b12 : Bool, e = .returned (.bool b12) ∧
 Br b12 (
 Calls Try.prog 16 #[] w5 fun e w6 =>
 ∃ b23 : Bool, e = .returned (.bool b23) ∧
 runD Try.prog ds w6 fun w7 =>
 R (.returned (.bool b23)) w7) (
 Br (decide (((s1.size : Nat) : Int) > 65536)) (
 Calls Try.prog 16 #[] w5 fun e w8 =>
 ∃ b23 : Bool, e = .returned (.bool b23) ∧
 runD Try.prog ds w8 fun w9 =>
 R (.returned (.bool b23)) w9) (
 Calls Try.prog 15 #[.slice l2.a l2.len l2.cap] w5 fun e w10 =>
 ∃ n20 : Int, e = .returned (.int .i64 n20) ∧
 Br (decide (n20 > 65536)) (
 Calls Try.prog 16 #[] w10 fun e w11 =>
 ∃ b23 : Bool, e = .returned (.bool b23) ∧
 runD Try.prog ds w11 fun w12 =>
 R (.returned (.bool b23)) w12) (
 Calls Try.prog 17 #[.slice l0.a l0.len l0.cap, .string s1, .slice l2.a l2.len l2.cap] w10 fun e w13 =>
 ∃ n28_0 : Int, ∃ n28_1 : Int, e = .returned (.tuple #[.int .i64 n28_0, .int .i64 n28_1]) ∧
 Calls Try.prog 19 #[.slice l0.a l0.len l0.cap, .string s1, .slice l2.a l2.len l2.cap] w13 fun e w14 =>
 ∃ n35_0 : Int, ∃ n35_1 : Int, e = .returned (.tuple #[.int .i64 n35_0, .int .i64 n35_1]) ∧
 F4_1 R n28_0 n28_1 n35_0 n35_1 ds w14)))
theorem c4_l : flat (bodyOf Try.f4) = [c4_0, c4_1, c4_2, c4_3, c4_4, c4_5, c4_6] := by kernel_rfl
theorem F4_1_ok (R : Rt) (n7 : Int) (n8 : Int) (n9 : Int) (n10 : Int) (ds : Ds) (w : World) (ρ : Env) (e7 : ρ 7 = .int .i64 n7) (e8 : ρ 8 = .int .i64 n8) (e9 : ρ 9 = .int .i64 n9) (e10 : ρ 10 = .int .i64 n10) (h : F4_1 R n7 n8 n9 n10 ds w) :
    TrL Try.prog Try.f4.ntmps [c4_5, c4_6] (F4_q1 R) ρ ds w :=
  TrL_leaf (X := F4_1 R n7 n8 n9 n10 ds w) (setAll_cons e7 (setAll_cons e8 (setAll_cons e9 (setAll_cons e10 setAll_nil)))) (by kernel_rfl) (by kernel_rfl) h
theorem F4_2_ok (R : Rt) (l0 : SV) (s1 : ByteArray) (l2 : SV) (ds : Ds) (w : World) (ρ : Env) (e0 : ρ 0 = .slice l0.a l0.len l0.cap) (e1 : ρ 1 = .string s1) (e2 : ρ 2 = .slice l2.a l2.len l2.cap) (h : F4_2 R l0 s1 l2 ds w) :
    TrL Try.prog Try.f4.ntmps [c4_0, c4_1, c4_2, c4_3, c4_4, c4_5, c4_6] (F4_q1 R) ρ ds w :=
  TrL_piece (pre := [c4_0, c4_1, c4_2, c4_3, c4_4]) (K := (F4_k2 R)) (X := F4_2 R l0 s1 l2 ds w) (setAll_cons e0 (setAll_cons e1 (setAll_cons e2 setAll_nil))) (by kernel_rfl) (by kernel_rfl)
    (fun ρ' ds' w' hD => by
      obtain ⟨n7, e7, hD⟩ := dInt_elim hD; obtain ⟨n8, e8, hD⟩ := dInt_elim hD; obtain ⟨n9, e9, hD⟩ := dInt_elim hD; obtain ⟨n10, e10, hD⟩ := dInt_elim hD; exact F4_1_ok R n7 n8 n9 n10 ds' w' ρ' e7 e8 e9 e10 hD) h
theorem F4_calls (l0 : SV) (s1 : ByteArray) (l2 : SV) (w : World) (R : Rt) (h : F4_2 R l0 s1 l2 [] w) : Calls Try.prog 4 #[.slice l0.a l0.len l0.cap, .string s1, .slice l2.a l2.len l2.cap] w R :=
  calls_of_L (l := [c4_0, c4_1, c4_2, c4_3, c4_4, c4_5, c4_6]) Try.func4 (by kernel_rfl) (by rw [Try.ntmps4]; exact Nat.le_of_ble_eq_true (by kernel_rfl)) c4_l
    (F4_2_ok R l0 s1 l2 [] w _ rfl rfl rfl h)
theorem F4_callsD (l0 : SV) (s1 : ByteArray) (l2 : SV) (w : World) (R : Rt) (u : FrameMode) (h : F4_2 R l0 s1 l2 [] w) : CallsD Try.prog 4 #[.slice l0.a l0.len l0.cap, .string s1, .slice l2.a l2.len l2.cap] u w fun e u' w' => u' = u ∧ R e w' :=
  callsD_of_L (l := [c4_0, c4_1, c4_2, c4_3, c4_4, c4_5, c4_6]) Try.func4 (by kernel_rfl) (by rw [Try.ntmps4]; exact Nat.le_of_ble_eq_true (by kernel_rfl)) (by kernel_rfl) c4_l
    (F4_2_ok R l0 s1 l2 [] w _ rfl rfl rfl h) u

/-! function 19: cabinetry/cabinetryref24.Loads -/
noncomputable def c19_0 : Code := itemAt (flat (bodyOf Try.f19)) 0
noncomputable def c19_1 : Code := itemAt (flat (bodyOf Try.f19)) 1
noncomputable def c19_2 : Code := itemAt (flat (bodyOf Try.f19)) 2
noncomputable def c19_3 : Code := itemAt (flat (bodyOf Try.f19)) 3
noncomputable def c19_4 : Code := itemAt (flat (bodyOf Try.f19)) 4
noncomputable def c19_5 : Code := itemAt (flat (bodyOf Try.f19)) 5
noncomputable def c19_6 : Code := itemAt (flat (bodyOf Try.f19)) 6
noncomputable def c19_7 : Code := itemAt (flat (bodyOf Try.f19)) 7
noncomputable def c19_8 : Code := itemAt (flat (bodyOf Try.f19)) 8
noncomputable def c19_9 : Code := itemAt (flat (bodyOf Try.f19)) 9
noncomputable def c19_10 : Code := itemAt (flat (bodyOf Try.f19)) 10
noncomputable def c19_11 : Code := itemAt (flat (bodyOf Try.f19)) 11
noncomputable def c19_9_0 : Code := itemAt (flat (innerC c19_9)) 0
noncomputable def c19_9_0_0 : Code := itemAt (flat (innerC c19_9_0)) 0
noncomputable def c19_9_0_1 : Code := itemAt (flat (innerC c19_9_0)) 1
noncomputable def c19_9_0_2 : Code := itemAt (flat (innerC c19_9_0)) 2
noncomputable def c19_9_0_3 : Code := itemAt (flat (innerC c19_9_0)) 3
noncomputable def c19_9_0_2_0 : Code := itemAt (flat (innerC c19_9_0_2)) 0
noncomputable def c19_9_0_2_1 : Code := itemAt (flat (innerC c19_9_0_2)) 1
noncomputable def c19_9_0_2_2 : Code := itemAt (flat (innerC c19_9_0_2)) 2
noncomputable def c19_9_0_2_3 : Code := itemAt (flat (innerC c19_9_0_2)) 3
noncomputable def c19_9_0_2_4 : Code := itemAt (flat (innerC c19_9_0_2)) 4
noncomputable def c19_9_0_2_1_0 : Code := itemAt (flat (innerC c19_9_0_2_1)) 0
noncomputable def c19_9_0_2_1_1 : Code := itemAt (flat (innerC c19_9_0_2_1)) 1
noncomputable def c19_9_0_2_1_1t_0 : Code := itemAt (flat (thnC c19_9_0_2_1_1)) 0
noncomputable def c19_9_0_2_1_1e_0 : Code := itemAt (flat (elsC c19_9_0_2_1_1)) 0
noncomputable def c19_9_0_2_1_1e_1 : Code := itemAt (flat (elsC c19_9_0_2_1_1)) 1
noncomputable def c19_9_0_2_1_1e_1t_0 : Code := itemAt (flat (thnC c19_9_0_2_1_1e_1)) 0
noncomputable def c19_9_0_2_1_1e_1t_1 : Code := itemAt (flat (thnC c19_9_0_2_1_1e_1)) 1
noncomputable def c19_9_0_2_1_1e_1t_2 : Code := itemAt (flat (thnC c19_9_0_2_1_1e_1)) 2
noncomputable def c19_9_0_2_1_1e_1e_0 : Code := itemAt (flat (elsC c19_9_0_2_1_1e_1)) 0
noncomputable def c19_9_0_2_1_1e_1e_1 : Code := itemAt (flat (elsC c19_9_0_2_1_1e_1)) 1
noncomputable def c19_9_0_2_1_1e_1e_2 : Code := itemAt (flat (elsC c19_9_0_2_1_1e_1)) 2
noncomputable def c19_9_0_2_1_1e_1e_3 : Code := itemAt (flat (elsC c19_9_0_2_1_1e_1)) 3
noncomputable def c19_9_0_2_1_1e_1e_4 : Code := itemAt (flat (elsC c19_9_0_2_1_1e_1)) 4
noncomputable def c19_9_0_2_1_1e_1e_5 : Code := itemAt (flat (elsC c19_9_0_2_1_1e_1)) 5
noncomputable def c19_9_0_2_1_1e_1e_2_0 : Code := itemAt (flat (innerC c19_9_0_2_1_1e_1e_2)) 0
noncomputable def c19_9_0_2_1_1e_1e_2_0_0 : Code := itemAt (flat (innerC c19_9_0_2_1_1e_1e_2_0)) 0
noncomputable def c19_9_0_2_1_1e_1e_2_0_1 : Code := itemAt (flat (innerC c19_9_0_2_1_1e_1e_2_0)) 1
noncomputable def c19_9_0_2_1_1e_1e_2_0_2 : Code := itemAt (flat (innerC c19_9_0_2_1_1e_1e_2_0)) 2
noncomputable def c19_9_0_2_1_1e_1e_2_0_3 : Code := itemAt (flat (innerC c19_9_0_2_1_1e_1e_2_0)) 3
def F19_q1 (R : Rt) : EQ := endQ Try.prog Try.f19.results.toList R
def F19_1 (R : Rt) (n13 : Int) (ds : Ds) (w : World) : Prop :=
 runD Try.prog ds w fun w1 =>
 R (.returned (.tuple #[.int .i64 n13, .int .i64 0])) w1
def F19_k2 (R : Rt) : EP := (fun ρ ds w => dInt .i64 (ρ 13) fun n13 => F19_1 R n13 ds w)
def F19_q3 (R : Rt) : EQ := (thenQ (F19_k2 R) (F19_q1 R))
def F19_q4 (R : Rt) : EQ := (blockQ 0 (F19_q3 R))
def F19_q5 (R : Rt) (J1 : (SV × Int × Int × Int) → World → Prop) : EQ := (thenQ (fun ρ _ w => dSl (ρ 11) fun l11 => dInt .i64 (ρ 12) fun n12 => dInt .i64 (ρ 13) fun n13 => dInt .i64 (ρ 14) fun n14 => J1 (l11, n12, n13, n14) w) (F19_q4 R))
def F19_2 (R : Rt) (J1 : (SV × Int × Int × Int) → World → Prop) (l2 : SV) (l8 : SV) (l11 : SV) (n12 : Int) (n13 : Int) (n14 : Int) (ds : Ds) (w : World) : Prop :=
 J1 (l11, n12, n13, (IntKind.i64.wrap (n14 + 1))) w
def F19_k6 (R : Rt) (J1 : (SV × Int × Int × Int) → World → Prop) : EP := (fun ρ ds w => dSl (ρ 2) fun l2 => dSl (ρ 8) fun l8 => dSl (ρ 11) fun l11 => dInt .i64 (ρ 12) fun n12 => dInt .i64 (ρ 13) fun n13 => dInt .i64 (ρ 14) fun n14 => F19_2 R J1 l2 l8 l11 n12 n13 n14 ds w)
def F19_q7 (R : Rt) (J1 : (SV × Int × Int × Int) → World → Prop) : EQ := (thenQ (F19_k6 R J1) (F19_q5 R J1))
def F19_q8 (R : Rt) (J1 : (SV × Int × Int × Int) → World → Prop) : EQ := (blockQ 1 (F19_q7 R J1))
def F19_3 (R : Rt) (J1 : (SV × Int × Int × Int) → World → Prop) (l2 : SV) (l8 : SV) (l11 : SV) (n12 : Int) (n13 : Int) (n14 : Int) (ds : Ds) (w : World) : Prop :=
 ∃ a2 : Addr, l11.a = some a2 ∧ 0 ≤ (IntKind.i64.wrap (((l11.len : Nat) : Int) - 1)) ∧ (IntKind.i64.wrap (((l11.len : Nat) : Int) - 1)) < ((l11.len : Nat) : Int) ∧
 ∃ n106 : Int, w.cell? (a2.add ((IntKind.i64.wrap (((l11.len : Nat) : Int) - 1)).toNat * 1)) = some (.int .i64 n106) ∧
 ∃ a3 : Addr, l8.a = some a3 ∧ 0 ≤ n106 ∧ n106 < ((l8.len : Nat) : Int) ∧
 ∃ n109 : Int, w.cell? ((a3.add (n106.toNat * 4)).add 1) = some (.int .i64 n109) ∧
 Br (decide (n109 > 0)) (
 Br (n109 != n12) (
 F19_2 R J1 l2 l8 l11 n109 (IntKind.i64.wrap (n13 + 1)) n14 ds w) (
 F19_2 R J1 l2 l8 l11 n12 n13 n14 ds w)) (
 F19_2 R J1 l2 l8 l11 n12 n13 n14 ds w)
def F19_k9 (R : Rt) (J1 : (SV × Int × Int × Int) → World → Prop) : EP := (fun ρ ds w => dSl (ρ 2) fun l2 => dSl (ρ 8) fun l8 => dSl (ρ 11) fun l11 => dInt .i64 (ρ 12) fun n12 => dInt .i64 (ρ 13) fun n13 => dInt .i64 (ρ 14) fun n14 => F19_3 R J1 l2 l8 l11 n12 n13 n14 ds w)
def F19_q10 (R : Rt) (J1 : (SV × Int × Int × Int) → World → Prop) : EQ := (thenQ (F19_k9 R J1) (F19_q8 R J1))
def F19_q11 (R : Rt) (J1 : (SV × Int × Int × Int) → World → Prop) : EQ := (blockQ 2 (F19_q10 R J1))
def F19_4 (R : Rt) (J1 : (SV × Int × Int × Int) → World → Prop) (l2 : SV) (l8 : SV) (l11 : SV) (n12 : Int) (n13 : Int) (n14 : Int) (ds : Ds) (w : World) : Prop :=
 F19_3 R J1 l2 l8 l11 n12 n13 n14 ds w
def F19_5 (R : Rt) (J1 : (SV × Int × Int × Int) → World → Prop) (l2 : SV) (l8 : SV) (l11 : SV) (n12 : Int) (n13 : Int) (n14 : Int) (ds : Ds) (w : World) : Prop :=
 0 ≤ (IntKind.i64.wrap (((l11.len : Nat) : Int) - 1)) ∧ (IntKind.i64.wrap (((l11.len : Nat) : Int) - 1)).toNat ≤ l11.cap ∧ 0 ≤ (IntKind.i64.wrap (((l11.len : Nat) : Int) - 1)).toNat ∧
 Br (((((IntKind.i64.wrap (((l11.len : Nat) : Int) - 1)).toNat - 0) : Nat) : Int) == 0) (
 runD Try.prog ds w fun w4 =>
 R (.returned (.tuple #[.int .i64 0, .int .i64 7])) w4) (
 F19_3 R J1 l2 l8 ⟨(if l11.cap = 0 then l11.a else l11.a.map (fun x => x.add (0 * 1))), ((IntKind.i64.wrap (((l11.len : Nat) : Int) - 1)).toNat - 0), (l11.cap - 0)⟩ n12 n13 n14 ds w)
def F19_6 (R : Rt) (J1 : (SV × Int × Int × Int) → World → Prop) (l2 : SV) (l8 : SV) (l11 : SV) (n12 : Int) (n13 : Int) (n14 : Int) (b16 : Bool) (ds : Ds) (w : World) : Prop :=
 Br (!b16) (
 runD Try.prog ds w fun w5 =>
 R (.returned (.tuple #[.int .i64 0, .int .i64 7])) w5) (
 ∃ a6 : Addr, l2.a = some a6 ∧ 0 ≤ n14 ∧ n14 < ((l2.len : Nat) : Int) ∧
 ∃ s79 : ByteArray, w.cell? (a6.add (n14.toNat * 1)) = some (.string s79) ∧
 Calls Try.prog 52 #[.slice l8.a l8.len l8.cap, .string s79] w fun e w7 =>
 ∃ n80 : Int, e = .returned (.int .i64 n80) ∧
 alE (.cells #[.int .i64 n80] 3) w7 fun r81 w8 =>
 ∃ l82 : SV, ∃ w9 : World, (Builtin.append_ #[30, 30] 30 #[.slice l11.a l11.len l11.cap, .slice (some ⟨r81, 0, none⟩) 1 1]).run Try.prog w8 = .ok (.slice l82.a l82.len l82.cap) w9 ∧
 F19_3 R J1 l2 l8 l82 n12 n13 n14 ds w9)
def F19_k12 (R : Rt) (J1 : (SV × Int × Int × Int) → World → Prop) : EP := (fun ρ ds w => dSl (ρ 2) fun l2 => dSl (ρ 8) fun l8 => dSl (ρ 11) fun l11 => dInt .i64 (ρ 12) fun n12 => dInt .i64 (ρ 13) fun n13 => dInt .i64 (ρ 14) fun n14 => dBl (ρ 16) fun b16 => F19_6 R J1 l2 l8 l11 n12 n13 n14 b16 ds w)
def F19_q13 (R : Rt) (J1 : (SV × Int × Int × Int) → World → Prop) : EQ := (thenQ (F19_k12 R J1) (F19_q11 R J1))
def F19_q14 (R : Rt) (J1 : (SV × Int × Int × Int) → World → Prop) : EQ := (blockQ 3 (F19_q13 R J1))
def F19_q15 (R : Rt) (J1 : (SV × Int × Int × Int) → World → Prop) (J2 : (Bool × Int) → World → Prop) : EQ := (thenQ (fun ρ _ w => dBl (ρ 16) fun b16 => dInt .i64 (ρ 17) fun n17 => J2 (b16, n17) w) (F19_q14 R J1))
def F19_7 (R : Rt) (J1 : (SV × Int × Int × Int) → World → Prop) (J2 : (Bool × Int) → World → Prop) (l2 : SV) (l8 : SV) (l11 : SV) (n12 : Int) (n13 : Int) (n14 : Int) (n15 : Int) (b16 : Bool) (n17 : Int) (ds : Ds) (w : World) : Prop :=
 ∃ a10 : Addr, l8.a = some a10 ∧ 0 ≤ n15 ∧ n15 < ((l8.len : Nat) : Int) ∧
 ∃ l51 : SV, w.cell? ((a10.add (n15.toNat * 4)).add 3) = some (.slice l51.a l51.len l51.cap) ∧
 Br (decide (n17 < ((l51.len : Nat) : Int))) (
 dwE w fun w11 =>
 Br b16 (
 J2 (true, (IntKind.i64.wrap (n17 + 1))) w11) (
 ∃ a12 : Addr, l8.a = some a12 ∧ 0 ≤ n15 ∧ n15 < ((l8.len : Nat) : Int) ∧
 ∃ l62 : SV, w11.cell? ((a12.add (n15.toNat * 4)).add 3) = some (.slice l62.a l62.len l62.cap) ∧
 ∃ a13 : Addr, l62.a = some a13 ∧ 0 ≤ n17 ∧ n17 < ((l62.len : Nat) : Int) ∧
 ∃ s65 : ByteArray, w11.cell? (a13.add (n17.toNat * 1)) = some (.string s65) ∧
 ∃ a14 : Addr, l2.a = some a14 ∧ 0 ≤ n14 ∧ n14 < ((l2.len : Nat) : Int) ∧
 ∃ s69 : ByteArray, w11.cell? (a14.add (n14.toNat * 1)) = some (.string s69) ∧
 J2 ((s65.toList == s69.toList), (IntKind.i64.wrap (n17 + 1))) w11)) (
 F19_6 R J1 l2 l8 l11 n12 n13 n14 b16 ds w)
def F19_8 (R : Rt) (J1 : (SV × Int × Int × Int) → World → Prop) (l2 : SV) (l8 : SV) (l11 : SV) (n12 : Int) (n13 : Int) (n14 : Int) (n15 : Int) (b16 : Bool) (n17 : Int) (ds : Ds) (w : World) : Prop :=
 loopT (fun (J2 : (Bool × Int) → World → Prop) (s : Bool × Int) (w : World) => F19_7 R J1 J2 l2 l8 l11 n12 n13 n14 n15 s.1 s.2 ds w) (b16, n17) w
@[reducible] def F19_9 (R : Rt) (J1 : (SV × Int × Int × Int) → World → Prop) (l2 : SV) (l8 : SV) (l11 : SV) (n12 : Int) (n13 : Int) (n14 : Int) (n15 : Int) (b16 : Bool) (n17 : Int) (ds : Ds) (w : World) : Prop := F19_8 R J1 l2 l8 l11 n12 n13 n14 n15 b16 n17 ds w
def F19_k16 (R : Rt) (J1 : (SV × Int × Int × Int) → World → Prop) : EP := (fun ρ ds w => dSl (ρ 2) fun l2 => dSl (ρ 8) fun l8 => dSl (ρ 11) fun l11 => dInt .i64 (ρ 12) fun n12 => dInt .i64 (ρ 13) fun n13 => dInt .i64 (ρ 14) fun n14 => dInt .i64 (ρ 15) fun n15 => dBl (ρ 16) fun b16 => dInt .i64 (ρ 17) fun n17 => F19_9 R J1 l2 l8 l11 n12 n13 n14 n15 b16 n17 ds w)
def F19_10 (R : Rt) (J1 : (SV × Int × Int × Int) → World → Prop) (l2 : SV) (l8 : SV) (l11 : SV) (n12 : Int) (n13 : Int) (n14 : Int) (n15 : Int) (ds : Ds) (w : World) : Prop :=
 F19_9 R J1 l2 l8 l11 n12 n13 n14 n15 false 0 ds w
def F19_11 (R : Rt) (J1 : (SV × Int × Int × Int) → World → Prop) (l2 : SV) (l8 : SV) (l11 : SV) (n12 : Int) (n13 : Int) (n14 : Int) (n15 : Int) (b86 : Bool) (ds : Ds) (w : World) : Prop :=
 Br b86 (
 F19_5 R J1 l2 l8 l11 n12 n13 n14 ds w) (
 F19_10 R J1 l2 l8 l11 n12 n13 n14 n15 ds w)
def F19_k17 (R : Rt) (J1 : (SV × Int × Int × Int) → World → Prop) : EP := (fun ρ ds w => dSl (ρ 2) fun l2 => dSl (ρ 8) fun l8 => dSl (ρ 11) fun l11 => dInt .i64 (ρ 12) fun n12 => dInt .i64 (ρ 13) fun n13 => dInt .i64 (ρ 14) fun n14 => dInt .i64 (ρ 15) fun n15 => dBl (ρ 86) fun b86 => F19_11 R J1 l2 l8 l11 n12 n13 n14 n15 b86 ds w)
def F19_12 (R : Rt) (J1 : (SV × Int × Int × Int) → World → Prop) (l2 : SV) (l8 : SV) (l11 : SV) (n12 : Int) (n13 : Int) (n14 : Int) (n15 : Int) (ds : Ds) (w : World) : Prop :=
 ∃ a15 : Addr, l2.a = some a15 ∧ 0 ≤ n14 ∧ n14 < ((l2.len : Nat) : Int) ∧
 ∃ s90 : ByteArray, w.cell? (a15.add (n14.toNat * 1)) = some (.string s90) ∧
 F19_11 R J1 l2 l8 l11 n12 n13 n14 n15 (s90.toList == (⟨#[]⟩ : ByteArray).toList) ds w
def F19_13 (R : Rt) (J1 : (SV × Int × Int × Int) → World → Prop) (l2 : SV) (l8 : SV) (l11 : SV) (n12 : Int) (n13 : Int) (n14 : Int) (n15 : Int) (b83 : Bool) (ds : Ds) (w : World) : Prop :=
 Br b83 (
 F19_4 R J1 l2 l8 l11 n12 n13 n14 ds w) (
 F19_12 R J1 l2 l8 l11 n12 n13 n14 n15 ds w)
def F19_k18 (R : Rt) (J1 : (SV × Int × Int × Int) → World → Prop) : EP := (fun ρ ds w => dSl (ρ 2) fun l2 => dSl (ρ 8) fun l8 => dSl (ρ 11) fun l11 => dInt .i64 (ρ 12) fun n12 => dInt .i64 (ρ 13) fun n13 => dInt .i64 (ρ 14) fun n14 => dInt .i64 (ρ 15) fun n15 => dBl (ρ 83) fun b83 => F19_13 R J1 l2 l8 l11 n12 n13 n14 n15 b83 ds w)
def F19_14 (R : Rt) (J1 : (SV × Int × Int × Int) → World → Prop) (l2 : SV) (l8 : SV) (l11 : SV) (n12 : Int) (n13 : Int) (n14 : Int) (n15 : Int) (ds : Ds) (w : World) : Prop :=
 F19_13 R J1 l2 l8 l11 n12 n13 n14 n15 (decide (n14 < 0)) ds w
@[reducible] def F19_15 (R : Rt) (J1 : (SV × Int × Int × Int) → World → Prop) (l2 : SV) (l8 : SV) (l11 : SV) (n12 : Int) (n13 : Int) (n14 : Int) (n15 : Int) (ds : Ds) (w : World) : Prop := F19_14 R J1 l2 l8 l11 n12 n13 n14 n15 ds w
def F19_k19 (R : Rt) (J1 : (SV × Int × Int × Int) → World → Prop) : EP := (fun ρ ds w => dSl (ρ 2) fun l2 => dSl (ρ 8) fun l8 => dSl (ρ 11) fun l11 => dInt .i64 (ρ 12) fun n12 => dInt .i64 (ρ 13) fun n13 => dInt .i64 (ρ 14) fun n14 => dInt .i64 (ρ 15) fun n15 => F19_15 R J1 l2 l8 l11 n12 n13 n14 n15 ds w)
def F19_16 (R : Rt) (J1 : (SV × Int × Int × Int) → World → Prop) (l2 : SV) (l8 : SV) (l11 : SV) (n12 : Int) (n13 : Int) (n14 : Int) (ds : Ds) (w : World) : Prop :=
 ∃ a16 : Addr, l11.a = some a16 ∧ 0 ≤ (IntKind.i64.wrap (((l11.len : Nat) : Int) - 1)) ∧ (IntKind.i64.wrap (((l11.len : Nat) : Int) - 1)) < ((l11.len : Nat) : Int) ∧
 ∃ n45 : Int, w.cell? (a16.add ((IntKind.i64.wrap (((l11.len : Nat) : Int) - 1)).toNat * 1)) = some (.int .i64 n45) ∧
 F19_15 R J1 l2 l8 l11 n12 n13 n14 n45 ds w
@[reducible] def F19_17 (R : Rt) (J1 : (SV × Int × Int × Int) → World → Prop) (l2 : SV) (l8 : SV) (l11 : SV) (n12 : Int) (n13 : Int) (n14 : Int) (ds : Ds) (w : World) : Prop := F19_16 R J1 l2 l8 l11 n12 n13 n14 ds w
def F19_k20 (R : Rt) (J1 : (SV × Int × Int × Int) → World → Prop) : EP := (fun ρ ds w => dSl (ρ 2) fun l2 => dSl (ρ 8) fun l8 => dSl (ρ 11) fun l11 => dInt .i64 (ρ 12) fun n12 => dInt .i64 (ρ 13) fun n13 => dInt .i64 (ρ 14) fun n14 => F19_17 R J1 l2 l8 l11 n12 n13 n14 ds w)
def F19_18 (R : Rt) (J1 : (SV × Int × Int × Int) → World → Prop) (l2 : SV) (l8 : SV) (l11 : SV) (n12 : Int) (n13 : Int) (n14 : Int) (ds : Ds) (w : World) : Prop :=
 Br (decide (n14 < ((l2.len : Nat) : Int))) (
 F19_17 R J1 l2 l8 l11 n12 n13 n14 ds w) (
 F19_1 R n13 ds w)
def F19_19 (R : Rt) (l2 : SV) (l8 : SV) (l11 : SV) (n12 : Int) (n13 : Int) (n14 : Int) (ds : Ds) (w : World) : Prop :=
 loopT (fun (J1 : (SV × Int × Int × Int) → World → Prop) (s : SV × Int × Int × Int) (w : World) => F19_18 R J1 l2 l8 s.1 s.2.1 s.2.2.1 s.2.2.2 ds w) (l11, n12, n13, n14) w
@[reducible] def F19_20 (R : Rt) (l2 : SV) (l8 : SV) (l11 : SV) (n12 : Int) (n13 : Int) (n14 : Int) (ds : Ds) (w : World) : Prop := F19_19 R l2 l8 l11 n12 n13 n14 ds w
def F19_k21 (R : Rt) : EP := (fun ρ ds w => dSl (ρ 2) fun l2 => dSl (ρ 8) fun l8 => dSl (ρ 11) fun l11 => dInt .i64 (ρ 12) fun n12 => dInt .i64 (ρ 13) fun n13 => dInt .i64 (ρ 14) fun n14 => F19_20 R l2 l8 l11 n12 n13 n14 ds w)
def F19_21 (R : Rt) (l0 : SV) (s1 : ByteArray) (l2 : SV) (ds : Ds) (w : World) : Prop :=
 Calls Try.prog 51 #[.slice l0.a l0.len l0.cap, .string s1] w fun e w17 =>
 ∃ l22_0 : SV, ∃ n22_1 : Int, ∃ n22_2 : Int, e = .returned (.tuple #[.slice l22_0.a l22_0.len l22_0.cap, .int .i64 n22_1, .int .i64 n22_2]) ∧
 Br (n22_2 != 0) (
 runD Try.prog ds w17 fun w18 =>
 R (.returned (.tuple #[.int .i64 0, .int .i64 n22_2])) w18) (
 Br (decide (((l2.len : Nat) : Int) > 1000)) (
 runD Try.prog ds w17 fun w19 =>
 R (.returned (.tuple #[.int .i64 0, .int .i64 3])) w19) (
 alE (.cells #[.int .i64 n22_1] 3) w17 fun r33 w20 =>
 F19_20 R l2 l22_0 ⟨(some ⟨r33, 0, none⟩), 1, 1⟩ 0 0 (-1) ds w20))
theorem c19_l : flat (bodyOf Try.f19) = [c19_0, c19_1, c19_2, c19_3, c19_4, c19_5, c19_6, c19_7, c19_8, c19_9, c19_10, c19_11] := by kernel_rfl
theorem c19_9_l : flat (innerC c19_9) = [c19_9_0] := by kernel_rfl
theorem c19_9_0_l : flat (innerC c19_9_0) = [c19_9_0_0, c19_9_0_1, c19_9_0_2, c19_9_0_3] := by kernel_rfl
theorem c19_9_0_2_l : flat (innerC c19_9_0_2) = [c19_9_0_2_0, c19_9_0_2_1, c19_9_0_2_2, c19_9_0_2_3, c19_9_0_2_4] := by kernel_rfl
theorem c19_9_0_2_1_l : flat (innerC c19_9_0_2_1) = [c19_9_0_2_1_0, c19_9_0_2_1_1] := by kernel_rfl
theorem c19_9_0_2_1_1t_l : flat (thnC c19_9_0_2_1_1) = [c19_9_0_2_1_1t_0] := by kernel_rfl
theorem c19_9_0_2_1_1e_l : flat (elsC c19_9_0_2_1_1) = [c19_9_0_2_1_1e_0, c19_9_0_2_1_1e_1] := by kernel_rfl
theorem c19_9_0_2_1_1e_1t_l : flat (thnC c19_9_0_2_1_1e_1) = [c19_9_0_2_1_1e_1t_0, c19_9_0_2_1_1e_1t_1, c19_9_0_2_1_1e_1t_2] := by kernel_rfl
theorem c19_9_0_2_1_1e_1e_l : flat (elsC c19_9_0_2_1_1e_1) = [c19_9_0_2_1_1e_1e_0, c19_9_0_2_1_1e_1e_1, c19_9_0_2_1_1e_1e_2, c19_9_0_2_1_1e_1e_3, c19_9_0_2_1_1e_1e_4, c19_9_0_2_1_1e_1e_5] := by kernel_rfl
theorem c19_9_0_2_1_1e_1e_2_l : flat (innerC c19_9_0_2_1_1e_1e_2) = [c19_9_0_2_1_1e_1e_2_0] := by kernel_rfl
theorem c19_9_0_2_1_1e_1e_2_0_l : flat (innerC c19_9_0_2_1_1e_1e_2_0) = [c19_9_0_2_1_1e_1e_2_0_0, c19_9_0_2_1_1e_1e_2_0_1, c19_9_0_2_1_1e_1e_2_0_2, c19_9_0_2_1_1e_1e_2_0_3] := by kernel_rfl
theorem F19_1_ok (R : Rt) (n13 : Int) (ds : Ds) (w : World) (ρ : Env) (e13 : ρ 13 = .int .i64 n13) (h : F19_1 R n13 ds w) :
    TrL Try.prog Try.f19.ntmps [c19_10, c19_11] (F19_q1 R) ρ ds w :=
  TrL_leaf (X := F19_1 R n13 ds w) (setAll_cons e13 setAll_nil) (by kernel_rfl) (by kernel_rfl) h
theorem F19_2_ok (R : Rt) (J1 : (SV × Int × Int × Int) → World → Prop) (l2 : SV) (l8 : SV) (l11 : SV) (n12 : Int) (n13 : Int) (n14 : Int) (ds : Ds) (w : World) (ρ : Env) (e2 : ρ 2 = .slice l2.a l2.len l2.cap) (e8 : ρ 8 = .slice l8.a l8.len l8.cap) (e11 : ρ 11 = .slice l11.a l11.len l11.cap) (e12 : ρ 12 = .int .i64 n12) (e13 : ρ 13 = .int .i64 n13) (e14 : ρ 14 = .int .i64 n14) (h : F19_2 R J1 l2 l8 l11 n12 n13 n14 ds w) :
    TrL Try.prog Try.f19.ntmps [c19_9_0_3] (F19_q5 R J1) ρ ds w :=
  TrL_leaf (X := F19_2 R J1 l2 l8 l11 n12 n13 n14 ds w) (setAll_cons e2 (setAll_cons e8 (setAll_cons e11 (setAll_cons e12 (setAll_cons e13 (setAll_cons e14 setAll_nil)))))) (by kernel_rfl) (by kernel_rfl) h
theorem F19_3_ok (R : Rt) (J1 : (SV × Int × Int × Int) → World → Prop) (l2 : SV) (l8 : SV) (l11 : SV) (n12 : Int) (n13 : Int) (n14 : Int) (ds : Ds) (w : World) (ρ : Env) (e2 : ρ 2 = .slice l2.a l2.len l2.cap) (e8 : ρ 8 = .slice l8.a l8.len l8.cap) (e11 : ρ 11 = .slice l11.a l11.len l11.cap) (e12 : ρ 12 = .int .i64 n12) (e13 : ρ 13 = .int .i64 n13) (e14 : ρ 14 = .int .i64 n14) (h : F19_3 R J1 l2 l8 l11 n12 n13 n14 ds w) :
    TrL Try.prog Try.f19.ntmps [c19_9_0_2_2, c19_9_0_2_3, c19_9_0_2_4] (F19_q8 R J1) ρ ds w :=
  TrL_leaf (X := F19_3 R J1 l2 l8 l11 n12 n13 n14 ds w) (setAll_cons e2 (setAll_cons e8 (setAll_cons e11 (setAll_cons e12 (setAll_cons e13 (setAll_cons e14 setAll_nil)))))) (by kernel_rfl) (by kernel_rfl) h
theorem F19_4_ok (R : Rt) (J1 : (SV × Int × Int × Int) → World → Prop) (l2 : SV) (l8 : SV) (l11 : SV) (n12 : Int) (n13 : Int) (n14 : Int) (ds : Ds) (w : World) (ρ : Env) (e2 : ρ 2 = .slice l2.a l2.len l2.cap) (e8 : ρ 8 = .slice l8.a l8.len l8.cap) (e11 : ρ 11 = .slice l11.a l11.len l11.cap) (e12 : ρ 12 = .int .i64 n12) (e13 : ρ 13 = .int .i64 n13) (e14 : ρ 14 = .int .i64 n14) (h : F19_4 R J1 l2 l8 l11 n12 n13 n14 ds w) :
    TrL Try.prog Try.f19.ntmps [c19_9_0_2_1_1t_0] (F19_q11 R J1) ρ ds w :=
  TrL_leaf (X := F19_4 R J1 l2 l8 l11 n12 n13 n14 ds w) (setAll_cons e2 (setAll_cons e8 (setAll_cons e11 (setAll_cons e12 (setAll_cons e13 (setAll_cons e14 setAll_nil)))))) (by kernel_rfl) (by kernel_rfl) h
theorem F19_5_ok (R : Rt) (J1 : (SV × Int × Int × Int) → World → Prop) (l2 : SV) (l8 : SV) (l11 : SV) (n12 : Int) (n13 : Int) (n14 : Int) (ds : Ds) (w : World) (ρ : Env) (e2 : ρ 2 = .slice l2.a l2.len l2.cap) (e8 : ρ 8 = .slice l8.a l8.len l8.cap) (e11 : ρ 11 = .slice l11.a l11.len l11.cap) (e12 : ρ 12 = .int .i64 n12) (e13 : ρ 13 = .int .i64 n13) (e14 : ρ 14 = .int .i64 n14) (h : F19_5 R J1 l2 l8 l11 n12 n13 n14 ds w) :
    TrL Try.prog Try.f19.ntmps [c19_9_0_2_1_1e_1t_0, c19_9_0_2_1_1e_1t_1, c19_9_0_2_1_1e_1t_2] (F19_q11 R J1) ρ ds w :=
  TrL_leaf (X := F19_5 R J1 l2 l8 l11 n12 n13 n14 ds w) (setAll_cons e2 (setAll_cons e8 (setAll_cons e11 (setAll_cons e12 (setAll_cons e13 (setAll_cons e14 setAll_nil)))))) (by kernel_rfl) (by kernel_rfl) h
theorem F19_6_ok (R : Rt) (J1 : (SV × Int × Int × Int) → World → Prop) (l2 : SV) (l8 : SV) (l11 : SV) (n12 : Int) (n13 : Int) (n14 : Int) (b16 : Bool) (ds : Ds) (w : World) (ρ : Env) (e2 : ρ 2 = .slice l2.a l2.len l2.cap) (e8 : ρ 8 = .slice l8.a l8.len l8.cap) (e11 : ρ 11 = .slice l11.a l11.len l11.cap) (e12 : ρ 12 = .int .i64 n12) (e13 : ρ 13 = .int .i64 n13) (e14 : ρ 14 = .int .i64 n14) (e16 : ρ 16 = .bool b16) (h : F19_6 R J1 l2 l8 l11 n12 n13 n14 b16 ds w) :
    TrL Try.prog Try.f19.ntmps [c19_9_0_2_1_1e_1e_3, c19_9_0_2_1_1e_1e_4, c19_9_0_2_1_1e_1e_5] (F19_q11 R J1) ρ ds w :=
  TrL_leaf (X := F19_6 R J1 l2 l8 l11 n12 n13 n14 b16 ds w) (setAll_cons e2 (setAll_cons e8 (setAll_cons e11 (setAll_cons e12 (setAll_cons e13 (setAll_cons e14 (setAll_cons e16 setAll_nil))))))) (by kernel_rfl) (by kernel_rfl) h
theorem F19_7_ok (R : Rt) (J1 : (SV × Int × Int × Int) → World → Prop) (J2 : (Bool × Int) → World → Prop) (l2 : SV) (l8 : SV) (l11 : SV) (n12 : Int) (n13 : Int) (n14 : Int) (n15 : Int) (b16 : Bool) (n17 : Int) (ds : Ds) (w : World) (ρ : Env) (e2 : ρ 2 = .slice l2.a l2.len l2.cap) (e8 : ρ 8 = .slice l8.a l8.len l8.cap) (e11 : ρ 11 = .slice l11.a l11.len l11.cap) (e12 : ρ 12 = .int .i64 n12) (e13 : ρ 13 = .int .i64 n13) (e14 : ρ 14 = .int .i64 n14) (e15 : ρ 15 = .int .i64 n15) (e16 : ρ 16 = .bool b16) (e17 : ρ 17 = .int .i64 n17) (h : F19_7 R J1 J2 l2 l8 l11 n12 n13 n14 n15 b16 n17 ds w) :
    TrL Try.prog Try.f19.ntmps [c19_9_0_2_1_1e_1e_2_0_0, c19_9_0_2_1_1e_1e_2_0_1, c19_9_0_2_1_1e_1e_2_0_2, c19_9_0_2_1_1e_1e_2_0_3] (F19_q15 R J1 J2) ρ ds w :=
  TrL_leaf (X := F19_7 R J1 J2 l2 l8 l11 n12 n13 n14 n15 b16 n17 ds w) (setAll_cons e2 (setAll_cons e8 (setAll_cons e11 (setAll_cons e12 (setAll_cons e13 (setAll_cons e14 (setAll_cons e15 (setAll_cons e16 (setAll_cons e17 setAll_nil))))))))) (by kernel_rfl) (by kernel_rfl) h
theorem F19_8_ok (R : Rt) (J1 : (SV × Int × Int × Int) → World → Prop) (l2 : SV) (l8 : SV) (l11 : SV) (n12 : Int) (n13 : Int) (n14 : Int) (n15 : Int) (b16 : Bool) (n17 : Int) (ds : Ds) (w : World) (ρ : Env) (e2 : ρ 2 = .slice l2.a l2.len l2.cap) (e8 : ρ 8 = .slice l8.a l8.len l8.cap) (e11 : ρ 11 = .slice l11.a l11.len l11.cap) (e12 : ρ 12 = .int .i64 n12) (e13 : ρ 13 = .int .i64 n13) (e14 : ρ 14 = .int .i64 n14) (e15 : ρ 15 = .int .i64 n15) (e16 : ρ 16 = .bool b16) (e17 : ρ 17 = .int .i64 n17) (h : F19_8 R J1 l2 l8 l11 n12 n13 n14 n15 b16 n17 ds w) :
    TrL Try.prog Try.f19.ntmps [c19_9_0_2_1_1e_1e_2_0] (F19_q14 R J1) ρ ds w :=
  TrL_one (Tr_loop' (c := innerC c19_9_0_2_1_1e_1e_2_0) (σ := Bool × Int) (enc := (fun (s : Bool × Int) (ρ : Env) => ρ 16 = .bool s.1 ∧ ρ 17 = .int .i64 s.2)) (D := (fun ρ K => dBl (ρ 16) fun b16 => dInt .i64 (ρ 17) fun n17 => K (b16, n17))) (F := (fun (J2 : (Bool × Int) → World → Prop) (s : Bool × Int) (w : World) => F19_7 R J1 J2 l2 l8 l11 n12 n13 n14 n15 s.1 s.2 ds w)) (s0 := (b16, n17)) (by kernel_rfl) c19_9_0_2_1_1e_1e_2_0_l ⟨e16, e17⟩ (by kernel_rfl) (fun ρ K hD => by obtain ⟨b16, e16, hD⟩ := dBl_elim hD; obtain ⟨n17, e17, hD⟩ := dInt_elim hD; exact ⟨(b16, n17), ⟨e16, e17⟩, hD⟩)
      (fun J2 s ρ' w' he ha hF => by
      obtain ⟨e16', e17'⟩ := he
      exact F19_7_ok R J1 J2 l2 l8 l11 n12 n13 n14 n15 s.1 s.2 ds w' ρ' ((ha 2 (by kernel_rfl)).trans e2) ((ha 8 (by kernel_rfl)).trans e8) ((ha 11 (by kernel_rfl)).trans e11) ((ha 12 (by kernel_rfl)).trans e12) ((ha 13 (by kernel_rfl)).trans e13) ((ha 14 (by kernel_rfl)).trans e14) ((ha 15 (by kernel_rfl)).trans e15) e16' e17' hF) h)
theorem F19_9_ok (R : Rt) (J1 : (SV × Int × Int × Int) → World → Prop) (l2 : SV) (l8 : SV) (l11 : SV) (n12 : Int) (n13 : Int) (n14 : Int) (n15 : Int) (b16 : Bool) (n17 : Int) (ds : Ds) (w : World) (ρ : Env) (e2 : ρ 2 = .slice l2.a l2.len l2.cap) (e8 : ρ 8 = .slice l8.a l8.len l8.cap) (e11 : ρ 11 = .slice l11.a l11.len l11.cap) (e12 : ρ 12 = .int .i64 n12) (e13 : ρ 13 = .int .i64 n13) (e14 : ρ 14 = .int .i64 n14) (e15 : ρ 15 = .int .i64 n15) (e16 : ρ 16 = .bool b16) (e17 : ρ 17 = .int .i64 n17) (h : F19_9 R J1 l2 l8 l11 n12 n13 n14 n15 b16 n17 ds w) :
    TrL Try.prog Try.f19.ntmps [c19_9_0_2_1_1e_1e_2, c19_9_0_2_1_1e_1e_3, c19_9_0_2_1_1e_1e_4, c19_9_0_2_1_1e_1e_5] (F19_q11 R J1) ρ ds w :=
  TrL_head (K := (F19_k12 R J1)) (Tr_block' (c := innerC c19_9_0_2_1_1e_1e_2) (by kernel_rfl) c19_9_0_2_1_1e_1e_2_l (F19_8_ok R J1 l2 l8 l11 n12 n13 n14 n15 b16 n17 ds w ρ e2 e8 e11 e12 e13 e14 e15 e16 e17 h))
    (fun ρ' ds' w' hD => by
      obtain ⟨l2, e2, hD⟩ := dSl_elim hD; obtain ⟨l8, e8, hD⟩ := dSl_elim hD; obtain ⟨l11, e11, hD⟩ := dSl_elim hD; obtain ⟨n12, e12, hD⟩ := dInt_elim hD; obtain ⟨n13, e13, hD⟩ := dInt_elim hD; obtain ⟨n14, e14, hD⟩ := dInt_elim hD; obtain ⟨b16, e16, hD⟩ := dBl_elim hD; exact F19_6_ok R J1 l2 l8 l11 n12 n13 n14 b16 ds' w' ρ' e2 e8 e11 e12 e13 e14 e16 hD)
theorem F19_10_ok (R : Rt) (J1 : (SV × Int × Int × Int) → World → Prop) (l2 : SV) (l8 : SV) (l11 : SV) (n12 : Int) (n13 : Int) (n14 : Int) (n15 : Int) (ds : Ds) (w : World) (ρ : Env) (e2 : ρ 2 = .slice l2.a l2.len l2.cap) (e8 : ρ 8 = .slice l8.a l8.len l8.cap) (e11 : ρ 11 = .slice l11.a l11.len l11.cap) (e12 : ρ 12 = .int .i64 n12) (e13 : ρ 13 = .int .i64 n13) (e14 : ρ 14 = .int .i64 n14) (e15 : ρ 15 = .int .i64 n15) (h : F19_10 R J1 l2 l8 l11 n12 n13 n14 n15 ds w) :
    TrL Try.prog Try.f19.ntmps [c19_9_0_2_1_1e_1e_0, c19_9_0_2_1_1e_1e_1, c19_9_0_2_1_1e_1e_2, c19_9_0_2_1_1e_1e_3, c19_9_0_2_1_1e_1e_4, c19_9_0_2_1_1e_1e_5] (F19_q11 R J1) ρ ds w :=
  TrL_piece (pre := [c19_9_0_2_1_1e_1e_0, c19_9_0_2_1_1e_1e_1]) (K := (F19_k16 R J1)) (X := F19_10 R J1 l2 l8 l11 n12 n13 n14 n15 ds w) (setAll_cons e2 (setAll_cons e8 (setAll_cons e11 (setAll_cons e12 (setAll_cons e13 (setAll_cons e14 (setAll_cons e15 setAll_nil))))))) (by kernel_rfl) (by kernel_rfl)
    (fun ρ' ds' w' hD => by
      obtain ⟨l2, e2, hD⟩ := dSl_elim hD; obtain ⟨l8, e8, hD⟩ := dSl_elim hD; obtain ⟨l11, e11, hD⟩ := dSl_elim hD; obtain ⟨n12, e12, hD⟩ := dInt_elim hD; obtain ⟨n13, e13, hD⟩ := dInt_elim hD; obtain ⟨n14, e14, hD⟩ := dInt_elim hD; obtain ⟨n15, e15, hD⟩ := dInt_elim hD; obtain ⟨b16, e16, hD⟩ := dBl_elim hD; obtain ⟨n17, e17, hD⟩ := dInt_elim hD; exact F19_9_ok R J1 l2 l8 l11 n12 n13 n14 n15 b16 n17 ds' w' ρ' e2 e8 e11 e12 e13 e14 e15 e16 e17 hD) h
theorem F19_11_ok (R : Rt) (J1 : (SV × Int × Int × Int) → World → Prop) (l2 : SV) (l8 : SV) (l11 : SV) (n12 : Int) (n13 : Int) (n14 : Int) (n15 : Int) (b86 : Bool) (ds : Ds) (w : World) (ρ : Env) (e2 : ρ 2 = .slice l2.a l2.len l2.cap) (e8 : ρ 8 = .slice l8.a l8.len l8.cap) (e11 : ρ 11 = .slice l11.a l11.len l11.cap) (e12 : ρ 12 = .int .i64 n12) (e13 : ρ 13 = .int .i64 n13) (e14 : ρ 14 = .int .i64 n14) (e15 : ρ 15 = .int .i64 n15) (e86 : ρ 86 = .bool b86) (h : F19_11 R J1 l2 l8 l11 n12 n13 n14 n15 b86 ds w) :
    TrL Try.prog Try.f19.ntmps [c19_9_0_2_1_1e_1] (F19_q11 R J1) ρ ds w :=
  TrL_one (Tr_cond' (c := .tmp 86) (x := thnC c19_9_0_2_1_1e_1) (y := elsC c19_9_0_2_1_1e_1) (by kernel_rfl) c19_9_0_2_1_1e_1t_l c19_9_0_2_1_1e_1e_l e86 (fun h => F19_5_ok R J1 l2 l8 l11 n12 n13 n14 ds w ρ e2 e8 e11 e12 e13 e14 h) (fun h => F19_10_ok R J1 l2 l8 l11 n12 n13 n14 n15 ds w ρ e2 e8 e11 e12 e13 e14 e15 h) h)
theorem F19_12_ok (R : Rt) (J1 : (SV × Int × Int × Int) → World → Prop) (l2 : SV) (l8 : SV) (l11 : SV) (n12 : Int) (n13 : Int) (n14 : Int) (n15 : Int) (ds : Ds) (w : World) (ρ : Env) (e2 : ρ 2 = .slice l2.a l2.len l2.cap) (e8 : ρ 8 = .slice l8.a l8.len l8.cap) (e11 : ρ 11 = .slice l11.a l11.len l11.cap) (e12 : ρ 12 = .int .i64 n12) (e13 : ρ 13 = .int .i64 n13) (e14 : ρ 14 = .int .i64 n14) (e15 : ρ 15 = .int .i64 n15) (h : F19_12 R J1 l2 l8 l11 n12 n13 n14 n15 ds w) :
    TrL Try.prog Try.f19.ntmps [c19_9_0_2_1_1e_0, c19_9_0_2_1_1e_1] (F19_q11 R J1) ρ ds w :=
  TrL_piece (pre := [c19_9_0_2_1_1e_0]) (K := (F19_k17 R J1)) (X := F19_12 R J1 l2 l8 l11 n12 n13 n14 n15 ds w) (setAll_cons e2 (setAll_cons e8 (setAll_cons e11 (setAll_cons e12 (setAll_cons e13 (setAll_cons e14 (setAll_cons e15 setAll_nil))))))) (by kernel_rfl) (by kernel_rfl)
    (fun ρ' ds' w' hD => by
      obtain ⟨l2, e2, hD⟩ := dSl_elim hD; obtain ⟨l8, e8, hD⟩ := dSl_elim hD; obtain ⟨l11, e11, hD⟩ := dSl_elim hD; obtain ⟨n12, e12, hD⟩ := dInt_elim hD; obtain ⟨n13, e13, hD⟩ := dInt_elim hD; obtain ⟨n14, e14, hD⟩ := dInt_elim hD; obtain ⟨n15, e15, hD⟩ := dInt_elim hD; obtain ⟨b86, e86, hD⟩ := dBl_elim hD; exact F19_11_ok R J1 l2 l8 l11 n12 n13 n14 n15 b86 ds' w' ρ' e2 e8 e11 e12 e13 e14 e15 e86 hD) h
theorem F19_13_ok (R : Rt) (J1 : (SV × Int × Int × Int) → World → Prop) (l2 : SV) (l8 : SV) (l11 : SV) (n12 : Int) (n13 : Int) (n14 : Int) (n15 : Int) (b83 : Bool) (ds : Ds) (w : World) (ρ : Env) (e2 : ρ 2 = .slice l2.a l2.len l2.cap) (e8 : ρ 8 = .slice l8.a l8.len l8.cap) (e11 : ρ 11 = .slice l11.a l11.len l11.cap) (e12 : ρ 12 = .int .i64 n12) (e13 : ρ 13 = .int .i64 n13) (e14 : ρ 14 = .int .i64 n14) (e15 : ρ 15 = .int .i64 n15) (e83 : ρ 83 = .bool b83) (h : F19_13 R J1 l2 l8 l11 n12 n13 n14 n15 b83 ds w) :
    TrL Try.prog Try.f19.ntmps [c19_9_0_2_1_1] (F19_q11 R J1) ρ ds w :=
  TrL_one (Tr_cond' (c := .tmp 83) (x := thnC c19_9_0_2_1_1) (y := elsC c19_9_0_2_1_1) (by kernel_rfl) c19_9_0_2_1_1t_l c19_9_0_2_1_1e_l e83 (fun h => F19_4_ok R J1 l2 l8 l11 n12 n13 n14 ds w ρ e2 e8 e11 e12 e13 e14 h) (fun h => F19_12_ok R J1 l2 l8 l11 n12 n13 n14 n15 ds w ρ e2 e8 e11 e12 e13 e14 e15 h) h)
theorem F19_14_ok (R : Rt) (J1 : (SV × Int × Int × Int) → World → Prop) (l2 : SV) (l8 : SV) (l11 : SV) (n12 : Int) (n13 : Int) (n14 : Int) (n15 : Int) (ds : Ds) (w : World) (ρ : Env) (e2 : ρ 2 = .slice l2.a l2.len l2.cap) (e8 : ρ 8 = .slice l8.a l8.len l8.cap) (e11 : ρ 11 = .slice l11.a l11.len l11.cap) (e12 : ρ 12 = .int .i64 n12) (e13 : ρ 13 = .int .i64 n13) (e14 : ρ 14 = .int .i64 n14) (e15 : ρ 15 = .int .i64 n15) (h : F19_14 R J1 l2 l8 l11 n12 n13 n14 n15 ds w) :
    TrL Try.prog Try.f19.ntmps [c19_9_0_2_1_0, c19_9_0_2_1_1] (F19_q11 R J1) ρ ds w :=
  TrL_piece (pre := [c19_9_0_2_1_0]) (K := (F19_k18 R J1)) (X := F19_14 R J1 l2 l8 l11 n12 n13 n14 n15 ds w) (setAll_cons e2 (setAll_cons e8 (setAll_cons e11 (setAll_cons e12 (setAll_cons e13 (setAll_cons e14 (setAll_cons e15 setAll_nil))))))) (by kernel_rfl) (by kernel_rfl)
    (fun ρ' ds' w' hD => by
      obtain ⟨l2, e2, hD⟩ := dSl_elim hD; obtain ⟨l8, e8, hD⟩ := dSl_elim hD; obtain ⟨l11, e11, hD⟩ := dSl_elim hD; obtain ⟨n12, e12, hD⟩ := dInt_elim hD; obtain ⟨n13, e13, hD⟩ := dInt_elim hD; obtain ⟨n14, e14, hD⟩ := dInt_elim hD; obtain ⟨n15, e15, hD⟩ := dInt_elim hD; obtain ⟨b83, e83, hD⟩ := dBl_elim hD; exact F19_13_ok R J1 l2 l8 l11 n12 n13 n14 n15 b83 ds' w' ρ' e2 e8 e11 e12 e13 e14 e15 e83 hD) h
theorem F19_15_ok (R : Rt) (J1 : (SV × Int × Int × Int) → World → Prop) (l2 : SV) (l8 : SV) (l11 : SV) (n12 : Int) (n13 : Int) (n14 : Int) (n15 : Int) (ds : Ds) (w : World) (ρ : Env) (e2 : ρ 2 = .slice l2.a l2.len l2.cap) (e8 : ρ 8 = .slice l8.a l8.len l8.cap) (e11 : ρ 11 = .slice l11.a l11.len l11.cap) (e12 : ρ 12 = .int .i64 n12) (e13 : ρ 13 = .int .i64 n13) (e14 : ρ 14 = .int .i64 n14) (e15 : ρ 15 = .int .i64 n15) (h : F19_15 R J1 l2 l8 l11 n12 n13 n14 n15 ds w) :
    TrL Try.prog Try.f19.ntmps [c19_9_0_2_1, c19_9_0_2_2, c19_9_0_2_3, c19_9_0_2_4] (F19_q8 R J1) ρ ds w :=
  TrL_head (K := (F19_k9 R J1)) (Tr_block' (c := innerC c19_9_0_2_1) (by kernel_rfl) c19_9_0_2_1_l (F19_14_ok R J1 l2 l8 l11 n12 n13 n14 n15 ds w ρ e2 e8 e11 e12 e13 e14 e15 h))
    (fun ρ' ds' w' hD => by
      obtain ⟨l2, e2, hD⟩ := dSl_elim hD; obtain ⟨l8, e8, hD⟩ := dSl_elim hD; obtain ⟨l11, e11, hD⟩ := dSl_elim hD; obtain ⟨n12, e12, hD⟩ := dInt_elim hD; obtain ⟨n13, e13, hD⟩ := dInt_elim hD; obtain ⟨n14, e14, hD⟩ := dInt_elim hD; exact F19_3_ok R J1 l2 l8 l11 n12 n13 n14 ds' w' ρ' e2 e8 e11 e12 e13 e14 hD)
theorem F19_16_ok (R : Rt) (J1 : (SV × Int × Int × Int) → World → Prop) (l2 : SV) (l8 : SV) (l11 : SV) (n12 : Int) (n13 : Int) (n14 : Int) (ds : Ds) (w : World) (ρ : Env) (e2 : ρ 2 = .slice l2.a l2.len l2.cap) (e8 : ρ 8 = .slice l8.a l8.len l8.cap) (e11 : ρ 11 = .slice l11.a l11.len l11.cap) (e12 : ρ 12 = .int .i64 n12) (e13 : ρ 13 = .int .i64 n13) (e14 : ρ 14 = .int .i64 n14) (h : F19_16 R J1 l2 l8 l11 n12 n13 n14 ds w) :
    TrL Try.prog Try.f19.ntmps [c19_9_0_2_0, c19_9_0_2_1, c19_9_0_2_2, c19_9_0_2_3, c19_9_0_2_4] (F19_q8 R J1) ρ ds w :=
  TrL_piece (pre := [c19_9_0_2_0]) (K := (F19_k19 R J1)) (X := F19_16 R J1 l2 l8 l11 n12 n13 n14 ds w) (setAll_cons e2 (setAll_cons e8 (setAll_cons e11 (setAll_cons e12 (setAll_cons e13 (setAll_cons e14 setAll_nil)))))) (by kernel_rfl) (by kernel_rfl)
    (fun ρ' ds' w' hD => by
      obtain ⟨l2, e2, hD⟩ := dSl_elim hD; obtain ⟨l8, e8, hD⟩ := dSl_elim hD; obtain ⟨l11, e11, hD⟩ := dSl_elim hD; obtain ⟨n12, e12, hD⟩ := dInt_elim hD; obtain ⟨n13, e13, hD⟩ := dInt_elim hD; obtain ⟨n14, e14, hD⟩ := dInt_elim hD; obtain ⟨n15, e15, hD⟩ := dInt_elim hD; exact F19_15_ok R J1 l2 l8 l11 n12 n13 n14 n15 ds' w' ρ' e2 e8 e11 e12 e13 e14 e15 hD) h
theorem F19_17_ok (R : Rt) (J1 : (SV × Int × Int × Int) → World → Prop) (l2 : SV) (l8 : SV) (l11 : SV) (n12 : Int) (n13 : Int) (n14 : Int) (ds : Ds) (w : World) (ρ : Env) (e2 : ρ 2 = .slice l2.a l2.len l2.cap) (e8 : ρ 8 = .slice l8.a l8.len l8.cap) (e11 : ρ 11 = .slice l11.a l11.len l11.cap) (e12 : ρ 12 = .int .i64 n12) (e13 : ρ 13 = .int .i64 n13) (e14 : ρ 14 = .int .i64 n14) (h : F19_17 R J1 l2 l8 l11 n12 n13 n14 ds w) :
    TrL Try.prog Try.f19.ntmps [c19_9_0_2, c19_9_0_3] (F19_q5 R J1) ρ ds w :=
  TrL_head (K := (F19_k6 R J1)) (Tr_block' (c := innerC c19_9_0_2) (by kernel_rfl) c19_9_0_2_l (F19_16_ok R J1 l2 l8 l11 n12 n13 n14 ds w ρ e2 e8 e11 e12 e13 e14 h))
    (fun ρ' ds' w' hD => by
      obtain ⟨l2, e2, hD⟩ := dSl_elim hD; obtain ⟨l8, e8, hD⟩ := dSl_elim hD; obtain ⟨l11, e11, hD⟩ := dSl_elim hD; obtain ⟨n12, e12, hD⟩ := dInt_elim hD; obtain ⟨n13, e13, hD⟩ := dInt_elim hD; obtain ⟨n14, e14, hD⟩ := dInt_elim hD; exact F19_2_ok R J1 l2 l8 l11 n12 n13 n14 ds' w' ρ' e2 e8 e11 e12 e13 e14 hD)
theorem F19_18_ok (R : Rt) (J1 : (SV × Int × Int × Int) → World → Prop) (l2 : SV) (l8 : SV) (l11 : SV) (n12 : Int) (n13 : Int) (n14 : Int) (ds : Ds) (w : World) (ρ : Env) (e2 : ρ 2 = .slice l2.a l2.len l2.cap) (e8 : ρ 8 = .slice l8.a l8.len l8.cap) (e11 : ρ 11 = .slice l11.a l11.len l11.cap) (e12 : ρ 12 = .int .i64 n12) (e13 : ρ 13 = .int .i64 n13) (e14 : ρ 14 = .int .i64 n14) (h : F19_18 R J1 l2 l8 l11 n12 n13 n14 ds w) :
    TrL Try.prog Try.f19.ntmps [c19_9_0_0, c19_9_0_1, c19_9_0_2, c19_9_0_3] (F19_q5 R J1) ρ ds w :=
  TrL_piece (pre := [c19_9_0_0, c19_9_0_1]) (K := (F19_k20 R J1)) (X := F19_18 R J1 l2 l8 l11 n12 n13 n14 ds w) (setAll_cons e2 (setAll_cons e8 (setAll_cons e11 (setAll_cons e12 (setAll_cons e13 (setAll_cons e14 setAll_nil)))))) (by kernel_rfl) (by kernel_rfl)
    (fun ρ' ds' w' hD => by
      obtain ⟨l2, e2, hD⟩ := dSl_elim hD; obtain ⟨l8, e8, hD⟩ := dSl_elim hD; obtain ⟨l11, e11, hD⟩ := dSl_elim hD; obtain ⟨n12, e12, hD⟩ := dInt_elim hD; obtain ⟨n13, e13, hD⟩ := dInt_elim hD; obtain ⟨n14, e14, hD⟩ := dInt_elim hD; exact F19_17_ok R J1 l2 l8 l11 n12 n13 n14 ds' w' ρ' e2 e8 e11 e12 e13 e14 hD) h
theorem F19_19_ok (R : Rt) (l2 : SV) (l8 : SV) (l11 : SV) (n12 : Int) (n13 : Int) (n14 : Int) (ds : Ds) (w : World) (ρ : Env) (e2 : ρ 2 = .slice l2.a l2.len l2.cap) (e8 : ρ 8 = .slice l8.a l8.len l8.cap) (e11 : ρ 11 = .slice l11.a l11.len l11.cap) (e12 : ρ 12 = .int .i64 n12) (e13 : ρ 13 = .int .i64 n13) (e14 : ρ 14 = .int .i64 n14) (h : F19_19 R l2 l8 l11 n12 n13 n14 ds w) :
    TrL Try.prog Try.f19.ntmps [c19_9_0] (F19_q4 R) ρ ds w :=
  TrL_one (Tr_loop' (c := innerC c19_9_0) (σ := SV × Int × Int × Int) (enc := (fun (s : SV × Int × Int × Int) (ρ : Env) => ρ 11 = .slice s.1.a s.1.len s.1.cap ∧ ρ 12 = .int .i64 s.2.1 ∧ ρ 13 = .int .i64 s.2.2.1 ∧ ρ 14 = .int .i64 s.2.2.2)) (D := (fun ρ K => dSl (ρ 11) fun l11 => dInt .i64 (ρ 12) fun n12 => dInt .i64 (ρ 13) fun n13 => dInt .i64 (ρ 14) fun n14 => K (l11, n12, n13, n14))) (F := (fun (J1 : (SV × Int × Int × Int) → World → Prop) (s : SV × Int × Int × Int) (w : World) => F19_18 R J1 l2 l8 s.1 s.2.1 s.2.2.1 s.2.2.2 ds w)) (s0 := (l11, n12, n13, n14)) (by kernel_rfl) c19_9_0_l ⟨e11, e12, e13, e14⟩ (by kernel_rfl) (fun ρ K hD => by obtain ⟨l11, e11, hD⟩ := dSl_elim hD; obtain ⟨n12, e12, hD⟩ := dInt_elim hD; obtain ⟨n13, e13, hD⟩ := dInt_elim hD; obtain ⟨n14, e14, hD⟩ := dInt_elim hD; exact ⟨(l11, n12, n13, n14), ⟨e11, e12, e13, e14⟩, hD⟩)
      (fun J1 s ρ' w' he ha hF => by
      obtain ⟨e11', e12', e13', e14'⟩ := he
      exact F19_18_ok R J1 l2 l8 s.1 s.2.1 s.2.2.1 s.2.2.2 ds w' ρ' ((ha 2 (by kernel_rfl)).trans e2) ((ha 8 (by kernel_rfl)).trans e8) e11' e12' e13' e14' hF) h)
theorem F19_20_ok (R : Rt) (l2 : SV) (l8 : SV) (l11 : SV) (n12 : Int) (n13 : Int) (n14 : Int) (ds : Ds) (w : World) (ρ : Env) (e2 : ρ 2 = .slice l2.a l2.len l2.cap) (e8 : ρ 8 = .slice l8.a l8.len l8.cap) (e11 : ρ 11 = .slice l11.a l11.len l11.cap) (e12 : ρ 12 = .int .i64 n12) (e13 : ρ 13 = .int .i64 n13) (e14 : ρ 14 = .int .i64 n14) (h : F19_20 R l2 l8 l11 n12 n13 n14 ds w) :
    TrL Try.prog Try.f19.ntmps [c19_9, c19_10, c19_11] (F19_q1 R) ρ ds w :=
  TrL_head (K := (F19_k2 R)) (Tr_block' (c := innerC c19_9) (by kernel_rfl) c19_9_l (F19_19_ok R l2 l8 l11 n12 n13 n14 ds w ρ e2 e8 e11 e12 e13 e14 h))
    (fun ρ' ds' w' hD => by
      obtain ⟨n13, e13, hD⟩ := dInt_elim hD; exact F19_1_ok R n13 ds' w' ρ' e13 hD)
theorem F19_21_ok (R : Rt) (l0 : SV) (s1 : ByteArray) (l2 : SV) (ds : Ds) (w : World) (ρ : Env) (e0 : ρ 0 = .slice l0.a l0.len l0.cap) (e1 : ρ 1 = .string s1) (e2 : ρ 2 = .slice l2.a l2.len l2.cap) (h : F19_21 R l0 s1 l2 ds w) :
    TrL Try.prog Try.f19.ntmps [c19_0, c19_1, c19_2, c19_3, c19_4, c19_5, c19_6, c19_7, c19_8, c19_9, c19_10, c19_11] (F19_q1 R) ρ ds w :=
  TrL_piece (pre := [c19_0, c19_1, c19_2, c19_3, c19_4, c19_5, c19_6, c19_7, c19_8]) (K := (F19_k21 R)) (X := F19_21 R l0 s1 l2 ds w) (setAll_cons e0 (setAll_cons e1 (setAll_cons e2 setAll_nil))) (by kernel_rfl) (by kernel_rfl)
    (fun ρ' ds' w' hD => by
      obtain ⟨l2, e2, hD⟩ := dSl_elim hD; obtain ⟨l8, e8, hD⟩ := dSl_elim hD; obtain ⟨l11, e11, hD⟩ := dSl_elim hD; obtain ⟨n12, e12, hD⟩ := dInt_elim hD; obtain ⟨n13, e13, hD⟩ := dInt_elim hD; obtain ⟨n14, e14, hD⟩ := dInt_elim hD; exact F19_20_ok R l2 l8 l11 n12 n13 n14 ds' w' ρ' e2 e8 e11 e12 e13 e14 hD) h
theorem F19_calls (l0 : SV) (s1 : ByteArray) (l2 : SV) (w : World) (R : Rt) (h : F19_21 R l0 s1 l2 [] w) : Calls Try.prog 19 #[.slice l0.a l0.len l0.cap, .string s1, .slice l2.a l2.len l2.cap] w R :=
  calls_of_L (l := [c19_0, c19_1, c19_2, c19_3, c19_4, c19_5, c19_6, c19_7, c19_8, c19_9, c19_10, c19_11]) Try.func19 (by kernel_rfl) (by rw [Try.ntmps19]; exact Nat.le_of_ble_eq_true (by kernel_rfl)) c19_l
    (F19_21_ok R l0 s1 l2 [] w _ rfl rfl rfl h)
theorem F19_callsD (l0 : SV) (s1 : ByteArray) (l2 : SV) (w : World) (R : Rt) (u : FrameMode) (h : F19_21 R l0 s1 l2 [] w) : CallsD Try.prog 19 #[.slice l0.a l0.len l0.cap, .string s1, .slice l2.a l2.len l2.cap] u w fun e u' w' => u' = u ∧ R e w' :=
  callsD_of_L (l := [c19_0, c19_1, c19_2, c19_3, c19_4, c19_5, c19_6, c19_7, c19_8, c19_9, c19_10, c19_11]) Try.func19 (by kernel_rfl) (by rw [Try.ntmps19]; exact Nat.le_of_ble_eq_true (by kernel_rfl)) (by kernel_rfl) c19_l
    (F19_21_ok R l0 s1 l2 [] w _ rfl rfl rfl h) u

end Go.Proofs.Ytcnenlmhbpijlaa
