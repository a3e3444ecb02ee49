/- Shallow texts of functions, printed by program, each checked by the kernel against the loaded code. No condition. -/
import Derived.Test.YtcnenlmhbpijlaaProg
import Derived.Test.YtcnenlmhbpijlaaShEight
set_option maxRecDepth 100000
set_option linter.unusedVariables false
namespace Go.Proofs.Ytcnenlmhbpijlaa
open Go.Sh
/-! function 6: cabinetry/cabinetrylaw24.LinkApart -/
noncomputable def c6_0 : Code := itemAt (flat (bodyOf Try.f6)) 0
noncomputable def c6_1 : Code := itemAt (flat (bodyOf Try.f6)) 1
noncomputable def c6_2 : Code := itemAt (flat (bodyOf Try.f6)) 2
noncomputable def c6_3 : Code := itemAt (flat (bodyOf Try.f6)) 3
noncomputable def c6_4 : Code := itemAt (flat (bodyOf Try.f6)) 4
noncomputable def c6_5 : Code := itemAt (flat (bodyOf Try.f6)) 5
noncomputable def c6_6 : Code := itemAt (flat (bodyOf Try.f6)) 6
noncomputable def c6_7 : Code := itemAt (flat (bodyOf Try.f6)) 7
noncomputable def c6_8 : Code := itemAt (flat (bodyOf Try.f6)) 8
noncomputable def c6_9 : Code := itemAt (flat (bodyOf Try.f6)) 9
noncomputable def c6_10 : Code := itemAt (flat (bodyOf Try.f6)) 10
noncomputable def c6_11 : Code := itemAt (flat (bodyOf Try.f6)) 11
noncomputable def c6_12 : Code := itemAt (flat (bodyOf Try.f6)) 12
noncomputable def c6_13 : Code := itemAt (flat (bodyOf Try.f6)) 13
noncomputable def c6_14 : Code := itemAt (flat (bodyOf Try.f6)) 14
noncomputable def c6_15 : Code := itemAt (flat (bodyOf Try.f6)) 15
noncomputable def c6_13_0 : Code := itemAt (flat (innerC c6_13)) 0
noncomputable def c6_13_0_0 : Code := itemAt (flat (innerC c6_13_0)) 0
noncomputable def c6_13_0_1 : Code := itemAt (flat (innerC c6_13_0)) 1
noncomputable def c6_13_0_2 : Code := itemAt (flat (innerC c6_13_0)) 2
noncomputable def c6_13_0_3 : Code := itemAt (flat (innerC c6_13_0)) 3
noncomputable def c6_13_0_2_0 : Code := itemAt (flat (innerC c6_13_0_2)) 0
noncomputable def c6_13_0_2_1 : Code := itemAt (flat (innerC c6_13_0_2)) 1
noncomputable def c6_13_0_2_2 : Code := itemAt (flat (innerC c6_13_0_2)) 2
noncomputable def c6_13_0_2_3 : Code := itemAt (flat (innerC c6_13_0_2)) 3
noncomputable def c6_13_0_2_4 : Code := itemAt (flat (innerC c6_13_0_2)) 4
noncomputable def c6_13_0_2_5 : Code := itemAt (flat (innerC c6_13_0_2)) 5
noncomputable def c6_13_0_2_6 : Code := itemAt (flat (innerC c6_13_0_2)) 6
noncomputable def c6_13_0_2_6_0 : Code := itemAt (flat (innerC c6_13_0_2_6)) 0
noncomputable def c6_13_0_2_6_0_0 : Code := itemAt (flat (innerC c6_13_0_2_6_0)) 0
noncomputable def c6_13_0_2_6_0_1 : Code := itemAt (flat (innerC c6_13_0_2_6_0)) 1
noncomputable def c6_13_0_2_6_0_2 : Code := itemAt (flat (innerC c6_13_0_2_6_0)) 2
noncomputable def c6_13_0_2_6_0_3 : Code := itemAt (flat (innerC c6_13_0_2_6_0)) 3
noncomputable def c6_9_0 : Code := itemAt (flat (innerC c6_9)) 0
noncomputable def c6_9_0_0 : Code := itemAt (flat (innerC c6_9_0)) 0
noncomputable def c6_9_0_1 : Code := itemAt (flat (innerC c6_9_0)) 1
noncomputable def c6_9_0_2 : Code := itemAt (flat (innerC c6_9_0)) 2
noncomputable def c6_9_0_3 : Code := itemAt (flat (innerC c6_9_0)) 3
noncomputable def c6_9_0_2_0 : Code := itemAt (flat (innerC c6_9_0_2)) 0
noncomputable def c6_9_0_2_1 : Code := itemAt (flat (innerC c6_9_0_2)) 1
noncomputable def c6_9_0_2_1_0 : Code := itemAt (flat (innerC c6_9_0_2_1)) 0
noncomputable def c6_9_0_2_1_0_0 : Code := itemAt (flat (innerC c6_9_0_2_1_0)) 0
noncomputable def c6_9_0_2_1_0_1 : Code := itemAt (flat (innerC c6_9_0_2_1_0)) 1
noncomputable def c6_9_0_2_1_0_2 : Code := itemAt (flat (innerC c6_9_0_2_1_0)) 2
noncomputable def c6_9_0_2_1_0_3 : Code := itemAt (flat (innerC c6_9_0_2_1_0)) 3
def F6_q1 (R : Rt) : EQ := endQ Try.prog Try.f6.results.toList R
def F6_1 (R : Rt) (ds : Ds) (w : World) : Prop :=
 Calls Try.prog 16 #[] w fun e w1 =>
 ∃ b176 : Bool, e = .returned (.bool b176) ∧
 runD Try.prog ds w1 fun w2 =>
 R (.returned (.bool b176)) w2
def F6_k2 (R : Rt) : EP := (fun ρ ds w => F6_1 R ds w)
def F6_q3 (R : Rt) : EQ := (thenQ (F6_k2 R) (F6_q1 R))
def F6_q4 (R : Rt) : EQ := (blockQ 4 (F6_q3 R))
def F6_q5 (R : Rt) (J1 : (Int) → World → Prop) : EQ := (thenQ (fun ρ _ w => dInt .i64 (ρ 13) fun n13 => J1 n13 w) (F6_q4 R))
def F6_2 (R : Rt) (J1 : (Int) → World → Prop) (l4 : SV) (n6 : Int) (n7 : Int) (l9 : SV) (l10 : SV) (n13 : Int) (ds : Ds) (w : World) : Prop :=
 J1 (IntKind.i64.wrap (n13 + 1)) w
def F6_k6 (R : Rt) (J1 : (Int) → World → Prop) : EP := (fun ρ ds w => dSl (ρ 4) fun l4 => dInt .i64 (ρ 6) fun n6 => dInt .i64 (ρ 7) fun n7 => dSl (ρ 9) fun l9 => dSl (ρ 10) fun l10 => dInt .i64 (ρ 13) fun n13 => F6_2 R J1 l4 n6 n7 l9 l10 n13 ds w)
def F6_q7 (R : Rt) (J1 : (Int) → World → Prop) : EQ := (thenQ (F6_k6 R J1) (F6_q5 R J1))
def F6_q8 (R : Rt) (J1 : (Int) → World → Prop) : EQ := (blockQ 5 (F6_q7 R J1))
def F6_q9 (R : Rt) (J1 : (Int) → World → Prop) : EQ := (blockQ 6 (F6_q8 R J1))
def F6_q10 (R : Rt) (J1 : (Int) → World → Prop) (J2 : (Int) → World → Prop) : EQ := (thenQ (fun ρ _ w => dInt .i64 (ρ 15) fun n15 => J2 n15 w) (F6_q9 R J1))
def F6_3 (R : Rt) (J1 : (Int) → World → Prop) (J2 : (Int) → World → Prop) (l4 : SV) (n6 : Int) (n7 : Int) (l9 : SV) (l10 : SV) (n13 : Int) (n15 : Int) (ds : Ds) (w : World) : Prop :=
 J2 (IntKind.i64.wrap (n15 + 1)) w
def F6_k11 (R : Rt) (J1 : (Int) → World → Prop) (J2 : (Int) → World → Prop) : EP := (fun ρ ds w => dSl (ρ 4) fun l4 => dInt .i64 (ρ 6) fun n6 => dInt .i64 (ρ 7) fun n7 => dSl (ρ 9) fun l9 => dSl (ρ 10) fun l10 => dInt .i64 (ρ 13) fun n13 => dInt .i64 (ρ 15) fun n15 => F6_3 R J1 J2 l4 n6 n7 l9 l10 n13 n15 ds w)
def F6_4 (R : Rt) (J1 : (Int) → World → Prop) (J2 : (Int) → World → Prop) (l4 : SV) (n6 : Int) (n7 : Int) (l9 : SV) (l10 : SV) (n13 : Int) (n15 : Int) (ds : Ds) (w : World) : Prop :=
 dwE w fun w3 =>
 ∃ a4 : Addr, l10.a = some a4 ∧ 0 ≤ n13 ∧ n13 < ((l10.len : Nat) : Int) ∧
 ∃ n123 : Int, w3.cell? (a4.add (n13.toNat * 1)) = some (.int .i64 n123) ∧
 ∃ a5 : Addr, l10.a = some a5 ∧ 0 ≤ n15 ∧ n15 < ((l10.len : Nat) : Int) ∧
 ∃ n127 : Int, w3.cell? (a5.add (n15.toNat * 1)) = some (.int .i64 n127) ∧
 Br (n123 == n127) (
 dwE w3 fun w6 =>
 ∃ a7 : Addr, l4.a = some a7 ∧ 0 ≤ n13 ∧ n13 < ((l4.len : Nat) : Int) ∧
 ∃ n148 : Int, w6.cell? (a7.add (n13.toNat * 1)) = some (.int .i64 n148) ∧
 ∃ a8 : Addr, l4.a = some a8 ∧ 0 ≤ n15 ∧ n15 < ((l4.len : Nat) : Int) ∧
 ∃ n152 : Int, w6.cell? (a8.add (n15.toNat * 1)) = some (.int .i64 n152) ∧
 ∃ a9 : Addr, l9.a = some a9 ∧ 0 ≤ n15 ∧ n15 < ((l9.len : Nat) : Int) ∧
 ∃ n156 : Int, w6.cell? (a9.add (n15.toNat * 1)) = some (.int .i64 n156) ∧
 Br (decide (n148 < (IntKind.i64.wrap (n152 + n156)))) (
 ∃ a10 : Addr, l4.a = some a10 ∧ 0 ≤ n15 ∧ n15 < ((l4.len : Nat) : Int) ∧
 ∃ n164 : Int, w6.cell? (a10.add (n15.toNat * 1)) = some (.int .i64 n164) ∧
 ∃ a11 : Addr, l4.a = some a11 ∧ 0 ≤ n13 ∧ n13 < ((l4.len : Nat) : Int) ∧
 ∃ n168 : Int, w6.cell? (a11.add (n13.toNat * 1)) = some (.int .i64 n168) ∧
 ∃ a12 : Addr, l9.a = some a12 ∧ 0 ≤ n13 ∧ n13 < ((l9.len : Nat) : Int) ∧
 ∃ n172 : Int, w6.cell? (a12.add (n13.toNat * 1)) = some (.int .i64 n172) ∧
 Br (decide (n164 < (IntKind.i64.wrap (n168 + n172)))) (
 runD Try.prog ds w6 fun w13 =>
 R (.returned (.bool false)) w13) (
 F6_3 R J1 J2 l4 n6 n7 l9 l10 n13 n15 ds w6)) (
 F6_3 R J1 J2 l4 n6 n7 l9 l10 n13 n15 ds w6)) (
 ∃ a14 : Addr, l10.a = some a14 ∧ 0 ≤ n13 ∧ n13 < ((l10.len : Nat) : Int) ∧
 ∃ n133 : Int, w3.cell? (a14.add (n13.toNat * 1)) = some (.int .i64 n133) ∧
 Br (n133 == 0) (
 dwE w3 fun w15 =>
 ∃ a16 : Addr, l4.a = some a16 ∧ 0 ≤ n13 ∧ n13 < ((l4.len : Nat) : Int) ∧
 ∃ n148 : Int, w15.cell? (a16.add (n13.toNat * 1)) = some (.int .i64 n148) ∧
 ∃ a17 : Addr, l4.a = some a17 ∧ 0 ≤ n15 ∧ n15 < ((l4.len : Nat) : Int) ∧
 ∃ n152 : Int, w15.cell? (a17.add (n15.toNat * 1)) = some (.int .i64 n152) ∧
 ∃ a18 : Addr, l9.a = some a18 ∧ 0 ≤ n15 ∧ n15 < ((l9.len : Nat) : Int) ∧
 ∃ n156 : Int, w15.cell? (a18.add (n15.toNat * 1)) = some (.int .i64 n156) ∧
 Br (decide (n148 < (IntKind.i64.wrap (n152 + n156)))) (
 ∃ a19 : Addr, l4.a = some a19 ∧ 0 ≤ n15 ∧ n15 < ((l4.len : Nat) : Int) ∧
 ∃ n164 : Int, w15.cell? (a19.add (n15.toNat * 1)) = some (.int .i64 n164) ∧
 ∃ a20 : Addr, l4.a = some a20 ∧ 0 ≤ n13 ∧ n13 < ((l4.len : Nat) : Int) ∧
 ∃ n168 : Int, w15.cell? (a20.add (n13.toNat * 1)) = some (.int .i64 n168) ∧
 ∃ a21 : Addr, l9.a = some a21 ∧ 0 ≤ n13 ∧ n13 < ((l9.len : Nat) : Int) ∧
 ∃ n172 : Int, w15.cell? (a21.add (n13.toNat * 1)) = some (.int .i64 n172) ∧
 Br (decide (n164 < (IntKind.i64.wrap (n168 + n172)))) (
 runD Try.prog ds w15 fun w22 =>
 R (.returned (.bool false)) w22) (
 F6_3 R J1 J2 l4 n6 n7 l9 l10 n13 n15 ds w15)) (
 F6_3 R J1 J2 l4 n6 n7 l9 l10 n13 n15 ds w15)) (
 ∃ a23 : Addr, l10.a = some a23 ∧ 0 ≤ n15 ∧ n15 < ((l10.len : Nat) : Int) ∧
 ∃ n140 : Int, w3.cell? (a23.add (n15.toNat * 1)) = some (.int .i64 n140) ∧
 dwE w3 fun w24 =>
 Br (n140 == 0) (
 ∃ a25 : Addr, l4.a = some a25 ∧ 0 ≤ n13 ∧ n13 < ((l4.len : Nat) : Int) ∧
 ∃ n148 : Int, w24.cell? (a25.add (n13.toNat * 1)) = some (.int .i64 n148) ∧
 ∃ a26 : Addr, l4.a = some a26 ∧ 0 ≤ n15 ∧ n15 < ((l4.len : Nat) : Int) ∧
 ∃ n152 : Int, w24.cell? (a26.add (n15.toNat * 1)) = some (.int .i64 n152) ∧
 ∃ a27 : Addr, l9.a = some a27 ∧ 0 ≤ n15 ∧ n15 < ((l9.len : Nat) : Int) ∧
 ∃ n156 : Int, w24.cell? (a27.add (n15.toNat * 1)) = some (.int .i64 n156) ∧
 Br (decide (n148 < (IntKind.i64.wrap (n152 + n156)))) (
 ∃ a28 : Addr, l4.a = some a28 ∧ 0 ≤ n15 ∧ n15 < ((l4.len : Nat) : Int) ∧
 ∃ n164 : Int, w24.cell? (a28.add (n15.toNat * 1)) = some (.int .i64 n164) ∧
 ∃ a29 : Addr, l4.a = some a29 ∧ 0 ≤ n13 ∧ n13 < ((l4.len : Nat) : Int) ∧
 ∃ n168 : Int, w24.cell? (a29.add (n13.toNat * 1)) = some (.int .i64 n168) ∧
 ∃ a30 : Addr, l9.a = some a30 ∧ 0 ≤ n13 ∧ n13 < ((l9.len : Nat) : Int) ∧
 ∃ n172 : Int, w24.cell? (a30.add (n13.toNat * 1)) = some (.int .i64 n172) ∧
 Br (decide (n164 < (IntKind.i64.wrap (n168 + n172)))) (
 runD Try.prog ds w24 fun w31 =>
 R (.returned (.bool false)) w31) (
 F6_3 R J1 J2 l4 n6 n7 l9 l10 n13 n15 ds w24)) (
 F6_3 R J1 J2 l4 n6 n7 l9 l10 n13 n15 ds w24)) (
 F6_3 R J1 J2 l4 n6 n7 l9 l10 n13 n15 ds w24)))
def F6_k12 (R : Rt) (J1 : (Int) → World → Prop) (J2 : (Int) → World → Prop) : EP := (fun ρ ds w => dSl (ρ 4) fun l4 => dInt .i64 (ρ 6) fun n6 => dInt .i64 (ρ 7) fun n7 => dSl (ρ 9) fun l9 => dSl (ρ 10) fun l10 => dInt .i64 (ρ 13) fun n13 => dInt .i64 (ρ 15) fun n15 => F6_4 R J1 J2 l4 n6 n7 l9 l10 n13 n15 ds w)
def F6_5 (R : Rt) (J1 : (Int) → World → Prop) (J2 : (Int) → World → Prop) (l4 : SV) (n6 : Int) (n7 : Int) (l9 : SV) (l10 : SV) (n13 : Int) (n15 : Int) (ds : Ds) (w : World) : Prop :=
 Br (decide (n15 < n13)) (
 F6_4 R J1 J2 l4 n6 n7 l9 l10 n13 n15 ds w) (
 F6_2 R J1 l4 n6 n7 l9 l10 n13 ds w)
def F6_6 (R : Rt) (J1 : (Int) → World → Prop) (l4 : SV) (n6 : Int) (n7 : Int) (l9 : SV) (l10 : SV) (n13 : Int) (n15 : Int) (ds : Ds) (w : World) : Prop :=
 loopT (fun (J2 : (Int) → World → Prop) (s : Int) (w : World) => F6_5 R J1 J2 l4 n6 n7 l9 l10 n13 s ds w) n15 w
@[reducible] def F6_7 (R : Rt) (J1 : (Int) → World → Prop) (l4 : SV) (n6 : Int) (n7 : Int) (l9 : SV) (l10 : SV) (n13 : Int) (n15 : Int) (ds : Ds) (w : World) : Prop := F6_6 R J1 l4 n6 n7 l9 l10 n13 n15 ds w
def F6_k13 (R : Rt) (J1 : (Int) → World → Prop) : EP := (fun ρ ds w => dSl (ρ 4) fun l4 => dInt .i64 (ρ 6) fun n6 => dInt .i64 (ρ 7) fun n7 => dSl (ρ 9) fun l9 => dSl (ρ 10) fun l10 => dInt .i64 (ρ 13) fun n13 => dInt .i64 (ρ 15) fun n15 => F6_7 R J1 l4 n6 n7 l9 l10 n13 n15 ds w)
def F6_8 (R : Rt) (J1 : (Int) → World → Prop) (l4 : SV) (n6 : Int) (n7 : Int) (l9 : SV) (l10 : SV) (n13 : Int) (ds : Ds) (w : World) : Prop :=
 ∃ a32 : Addr, l10.a = some a32 ∧ 0 ≤ n13 ∧ n13 < ((l10.len : Nat) : Int) ∧
 ∃ n94 : Int, w.cell? (a32.add (n13.toNat * 1)) = some (.int .i64 n94) ∧
 Br (n94 == 0) (
 dwE w fun w33 =>
 ∃ a34 : Addr, l4.a = some a34 ∧ 0 ≤ n13 ∧ n13 < ((l4.len : Nat) : Int) ∧
 ∃ n100 : Int, w33.cell? (a34.add (n13.toNat * 1)) = some (.int .i64 n100) ∧
 Br (decide (n100 < 0)) (
 runD Try.prog ds w33 fun w35 =>
 R (.returned (.bool false)) w35) (
 ∃ a36 : Addr, l4.a = some a36 ∧ 0 ≤ n13 ∧ n13 < ((l4.len : Nat) : Int) ∧
 ∃ n106 : Int, w33.cell? (a36.add (n13.toNat * 1)) = some (.int .i64 n106) ∧
 ∃ a37 : Addr, l9.a = some a37 ∧ 0 ≤ n13 ∧ n13 < ((l9.len : Nat) : Int) ∧
 ∃ n110 : Int, w33.cell? (a37.add (n13.toNat * 1)) = some (.int .i64 n110) ∧
 Br (decide ((IntKind.i64.wrap (n106 + n110)) > n6)) (
 runD Try.prog ds w33 fun w38 =>
 R (.returned (.bool false)) w38) (
 F6_7 R J1 l4 n6 n7 l9 l10 n13 0 ds w33))) (
 dwE w fun w39 =>
 ∃ a40 : Addr, l4.a = some a40 ∧ 0 ≤ n13 ∧ n13 < ((l4.len : Nat) : Int) ∧
 ∃ n100 : Int, w39.cell? (a40.add (n13.toNat * 1)) = some (.int .i64 n100) ∧
 Br (decide (n100 < 0)) (
 runD Try.prog ds w39 fun w41 =>
 R (.returned (.bool false)) w41) (
 ∃ a42 : Addr, l4.a = some a42 ∧ 0 ≤ n13 ∧ n13 < ((l4.len : Nat) : Int) ∧
 ∃ n106 : Int, w39.cell? (a42.add (n13.toNat * 1)) = some (.int .i64 n106) ∧
 ∃ a43 : Addr, l9.a = some a43 ∧ 0 ≤ n13 ∧ n13 < ((l9.len : Nat) : Int) ∧
 ∃ n110 : Int, w39.cell? (a43.add (n13.toNat * 1)) = some (.int .i64 n110) ∧
 Br (decide ((IntKind.i64.wrap (n106 + n110)) > (IntKind.i64.wrap (n6 + n7)))) (
 runD Try.prog ds w39 fun w44 =>
 R (.returned (.bool false)) w44) (
 F6_7 R J1 l4 n6 n7 l9 l10 n13 0 ds w39)))
@[reducible] def F6_9 (R : Rt) (J1 : (Int) → World → Prop) (l4 : SV) (n6 : Int) (n7 : Int) (l9 : SV) (l10 : SV) (n13 : Int) (ds : Ds) (w : World) : Prop := F6_8 R J1 l4 n6 n7 l9 l10 n13 ds w
def F6_k14 (R : Rt) (J1 : (Int) → World → Prop) : EP := (fun ρ ds w => dSl (ρ 4) fun l4 => dInt .i64 (ρ 6) fun n6 => dInt .i64 (ρ 7) fun n7 => dSl (ρ 9) fun l9 => dSl (ρ 10) fun l10 => dInt .i64 (ρ 13) fun n13 => F6_9 R J1 l4 n6 n7 l9 l10 n13 ds w)
def F6_10 (R : Rt) (J1 : (Int) → World → Prop) (l4 : SV) (n6 : Int) (n7 : Int) (l9 : SV) (l10 : SV) (n13 : Int) (ds : Ds) (w : World) : Prop :=
 Br (decide (n13 < ((l4.len : Nat) : Int))) (
 F6_9 R J1 l4 n6 n7 l9 l10 n13 ds w) (
 F6_1 R ds w)
def F6_11 (R : Rt) (l4 : SV) (n6 : Int) (n7 : Int) (l9 : SV) (l10 : SV) (n13 : Int) (ds : Ds) (w : World) : Prop :=
 loopT (fun (J1 : (Int) → World → Prop) (s : Int) (w : World) => F6_10 R J1 l4 n6 n7 l9 l10 s ds w) n13 w
@[reducible] def F6_12 (R : Rt) (l4 : SV) (n6 : Int) (n7 : Int) (l9 : SV) (l10 : SV) (n13 : Int) (ds : Ds) (w : World) : Prop := F6_11 R l4 n6 n7 l9 l10 n13 ds w
def F6_k15 (R : Rt) : EP := (fun ρ ds w => dSl (ρ 4) fun l4 => dInt .i64 (ρ 6) fun n6 => dInt .i64 (ρ 7) fun n7 => dSl (ρ 9) fun l9 => dSl (ρ 10) fun l10 => dInt .i64 (ρ 13) fun n13 => F6_12 R l4 n6 n7 l9 l10 n13 ds w)
def F6_13 (R : Rt) (l3 : SV) (l4 : SV) (n6 : Int) (n7 : Int) (l9 : SV) (l10 : SV) (ds : Ds) (w : World) : Prop :=
 Br (((l3.len : Nat) : Int) != ((l9.len : Nat) : Int)) (
 runD Try.prog ds w fun w45 =>
 R (.returned (.bool false)) w45) (
 Br (((l4.len : Nat) : Int) != ((l9.len : Nat) : Int)) (
 runD Try.prog ds w fun w46 =>
 R (.returned (.bool false)) w46) (
 F6_12 R l4 n6 n7 l9 l10 0 ds w))
def F6_k16 (R : Rt) : EP := (fun ρ ds w => dSl (ρ 3) fun l3 => dSl (ρ 4) fun l4 => dInt .i64 (ρ 6) fun n6 => dInt .i64 (ρ 7) fun n7 => dSl (ρ 9) fun l9 => dSl (ρ 10) fun l10 => F6_13 R l3 l4 n6 n7 l9 l10 ds w)
def F6_q17 (R : Rt) : EQ := (thenQ (F6_k16 R) (F6_q1 R))
def F6_q18 (R : Rt) : EQ := (blockQ 0 (F6_q17 R))
def F6_q19 (R : Rt) (J1 : (SV × SV × Int) → World → Prop) : EQ := (thenQ (fun ρ _ w => dSl (ρ 9) fun l9 => dSl (ρ 10) fun l10 => dInt .i64 (ρ 11) fun n11 => J1 (l9, l10, n11) w) (F6_q18 R))
def F6_14 (R : Rt) (J1 : (SV × SV × Int) → World → Prop) (l0 : SV) (l3 : SV) (l4 : SV) (n6 : Int) (n7 : Int) (l9 : SV) (l10 : SV) (n11 : Int) (ds : Ds) (w : World) : Prop :=
 J1 (l9, l10, (IntKind.i64.wrap (n11 + 1))) w
def F6_k20 (R : Rt) (J1 : (SV × SV × Int) → World → Prop) : EP := (fun ρ ds w => dSl (ρ 0) fun l0 => dSl (ρ 3) fun l3 => dSl (ρ 4) fun l4 => dInt .i64 (ρ 6) fun n6 => dInt .i64 (ρ 7) fun n7 => dSl (ρ 9) fun l9 => dSl (ρ 10) fun l10 => dInt .i64 (ρ 11) fun n11 => F6_14 R J1 l0 l3 l4 n6 n7 l9 l10 n11 ds w)
def F6_q21 (R : Rt) (J1 : (SV × SV × Int) → World → Prop) : EQ := (thenQ (F6_k20 R J1) (F6_q19 R J1))
def F6_q22 (R : Rt) (J1 : (SV × SV × Int) → World → Prop) : EQ := (blockQ 1 (F6_q21 R J1))
def F6_q23 (R : Rt) (J1 : (SV × SV × Int) → World → Prop) : EQ := (blockQ 2 (F6_q22 R J1))
def F6_q24 (R : Rt) (J1 : (SV × SV × Int) → World → Prop) (J2 : (SV × SV × Int) → World → Prop) : EQ := (thenQ (fun ρ _ w => dSl (ρ 9) fun l9 => dSl (ρ 10) fun l10 => dInt .i64 (ρ 12) fun n12 => J2 (l9, l10, n12) w) (F6_q23 R J1))
def F6_15 (R : Rt) (J1 : (SV × SV × Int) → World → Prop) (J2 : (SV × SV × Int) → World → Prop) (l0 : SV) (l3 : SV) (l4 : SV) (n6 : Int) (n7 : Int) (l9 : SV) (l10 : SV) (n11 : Int) (n12 : Int) (ds : Ds) (w : World) : Prop :=
 ∃ a47 : Addr, l0.a = some a47 ∧ 0 ≤ n11 ∧ n11 < ((l0.len : Nat) : Int) ∧
 ∃ l46 : SV, w.cell? ((a47.add (n11.toNat * 5)).add 2) = some (.slice l46.a l46.len l46.cap) ∧
 Br (decide (n12 < ((l46.len : Nat) : Int))) (
 dwE w fun w48 =>
 ∃ S7 : World → Prop, S7 w48 ∧
 ∃ a49 : Addr, l0.a = some a49 ∧ 0 ≤ n11 ∧ n11 < ((l0.len : Nat) : Int) ∧
 ∃ l56 : SV, (∀ w', S7 w' → w'.cell? ((a49.add (n11.toNat * 5)).add 3) = some (.slice l56.a l56.len l56.cap)) ∧
 ∃ a50 : Addr, l56.a = some a50 ∧ 0 ≤ n12 ∧ n12 < ((l56.len : Nat) : Int) ∧
 ∃ n59 : Int, (∀ w', S7 w' → w'.cell? (a50.add (n12.toNat * 1)) = some (.int .i64 n59)) ∧
 ∃ a51 : Addr, l0.a = some a51 ∧ 0 ≤ n11 ∧ n11 < ((l0.len : Nat) : Int) ∧
 ∃ n67 : Int, (∀ w', S7 w' → w'.cell? ((a51.add (n11.toNat * 5)).add 1) = some (.int .i64 n67)) ∧
 (
 alE (.cells #[.int .i64 n59] 3) w48 fun r60 w52 =>
 S7 w52 ∧
 (
 ∃ l61 : SV, ∃ w53 : World, (Builtin.append_ #[30, 30] 30 #[.slice l9.a l9.len l9.cap, .slice (some ⟨r60, 0, none⟩) 1 1]).run Try.prog w52 = .ok (.slice l61.a l61.len l61.cap) w53 ∧
 S7 w53 ∧
 alE (.cells #[.int .i64 n67] 3) w53 fun r68 w54 =>
 S7 w54 ∧
 ∃ l69 : SV, ∃ w55 : World, (Builtin.append_ #[30, 30] 30 #[.slice l10.a l10.len l10.cap, .slice (some ⟨r68, 0, none⟩) 1 1]).run Try.prog w54 = .ok (.slice l69.a l69.len l69.cap) w55 ∧
 J2 (l61, l69, (IntKind.i64.wrap (n12 + 1))) w55) ∧ (
 alE (.cells #[.int .i64 n67] 3) w52 fun r68 w56 =>
 S7 w56 ∧
 ∃ l61 : SV, ∃ w57 : World, (Builtin.append_ #[30, 30] 30 #[.slice l9.a l9.len l9.cap, .slice (some ⟨r60, 0, none⟩) 1 1]).run Try.prog w56 = .ok (.slice l61.a l61.len l61.cap) w57 ∧
 S7 w57 ∧
 ∃ l69 : SV, ∃ w58 : World, (Builtin.append_ #[30, 30] 30 #[.slice l10.a l10.len l10.cap, .slice (some ⟨r68, 0, none⟩) 1 1]).run Try.prog w57 = .ok (.slice l69.a l69.len l69.cap) w58 ∧
 J2 (l61, l69, (IntKind.i64.wrap (n12 + 1))) w58)) ∧ (
 alE (.cells #[.int .i64 n67] 3) w48 fun r68 w59 =>
 S7 w59 ∧
 alE (.cells #[.int .i64 n59] 3) w59 fun r60 w60 =>
 S7 w60 ∧
 ∃ l61 : SV, ∃ w61 : World, (Builtin.append_ #[30, 30] 30 #[.slice l9.a l9.len l9.cap, .slice (some ⟨r60, 0, none⟩) 1 1]).run Try.prog w60 = .ok (.slice l61.a l61.len l61.cap) w61 ∧
 S7 w61 ∧
 ∃ l69 : SV, ∃ w62 : World, (Builtin.append_ #[30, 30] 30 #[.slice l10.a l10.len l10.cap, .slice (some ⟨r68, 0, none⟩) 1 1]).run Try.prog w61 = .ok (.slice l69.a l69.len l69.cap) w62 ∧
 J2 (l61, l69, (IntKind.i64.wrap (n12 + 1))) w62)) (
 F6_14 R J1 l0 l3 l4 n6 n7 l9 l10 n11 ds w)
def F6_16 (R : Rt) (J1 : (SV × SV × Int) → World → Prop) (l0 : SV) (l3 : SV) (l4 : SV) (n6 : Int) (n7 : Int) (l9 : SV) (l10 : SV) (n11 : Int) (n12 : Int) (ds : Ds) (w : World) : Prop :=
 loopT (fun (J2 : (SV × SV × Int) → World → Prop) (s : SV × SV × Int) (w : World) => F6_15 R J1 J2 l0 l3 l4 n6 n7 s.1 s.2.1 n11 s.2.2 ds w) (l9, l10, n12) w
@[reducible] def F6_17 (R : Rt) (J1 : (SV × SV × Int) → World → Prop) (l0 : SV) (l3 : SV) (l4 : SV) (n6 : Int) (n7 : Int) (l9 : SV) (l10 : SV) (n11 : Int) (n12 : Int) (ds : Ds) (w : World) : Prop := F6_16 R J1 l0 l3 l4 n6 n7 l9 l10 n11 n12 ds w
def F6_k25 (R : Rt) (J1 : (SV × SV × Int) → World → Prop) : EP := (fun ρ ds w => dSl (ρ 0) fun l0 => dSl (ρ 3) fun l3 => dSl (ρ 4) fun l4 => dInt .i64 (ρ 6) fun n6 => dInt .i64 (ρ 7) fun n7 => dSl (ρ 9) fun l9 => dSl (ρ 10) fun l10 => dInt .i64 (ρ 11) fun n11 => dInt .i64 (ρ 12) fun n12 => F6_17 R J1 l0 l3 l4 n6 n7 l9 l10 n11 n12 ds w)
def F6_18 (R : Rt) (J1 : (SV × SV × Int) → World → Prop) (l0 : SV) (l3 : SV) (l4 : SV) (n6 : Int) (n7 : Int) (l9 : SV) (l10 : SV) (n11 : Int) (ds : Ds) (w : World) : Prop :=
 F6_17 R J1 l0 l3 l4 n6 n7 l9 l10 n11 0 ds w
@[reducible] def F6_19 (R : Rt) (J1 : (SV × SV × Int) → World → Prop) (l0 : SV) (l3 : SV) (l4 : SV) (n6 : Int) (n7 : Int) (l9 : SV) (l10 : SV) (n11 : Int) (ds : Ds) (w : World) : Prop := F6_18 R J1 l0 l3 l4 n6 n7 l9 l10 n11 ds w
def F6_k26 (R : Rt) (J1 : (SV × SV × Int) → World → Prop) : EP := (fun ρ ds w => dSl (ρ 0) fun l0 => dSl (ρ 3) fun l3 => dSl (ρ 4) fun l4 => dInt .i64 (ρ 6) fun n6 => dInt .i64 (ρ 7) fun n7 => dSl (ρ 9) fun l9 => dSl (ρ 10) fun l10 => dInt .i64 (ρ 11) fun n11 => F6_19 R J1 l0 l3 l4 n6 n7 l9 l10 n11 ds w)
def F6_20 (R : Rt) (J1 : (SV × SV × Int) → World → Prop) (l0 : SV) (l3 : SV) (l4 : SV) (n6 : Int) (n7 : Int) (l9 : SV) (l10 : SV) (n11 : Int) (ds : Ds) (w : World) : Prop :=
 Br (decide (n11 < ((l0.len : Nat) : Int))) (
 F6_19 R J1 l0 l3 l4 n6 n7 l9 l10 n11 ds w) (
 F6_13 R l3 l4 n6 n7 l9 l10 ds w)
def F6_21 (R : Rt) (l0 : SV) (l3 : SV) (l4 : SV) (n6 : Int) (n7 : Int) (l9 : SV) (l10 : SV) (n11 : Int) (ds : Ds) (w : World) : Prop :=
 loopT (fun (J1 : (SV × SV × Int) → World → Prop) (s : SV × SV × Int) (w : World) => F6_20 R J1 l0 l3 l4 n6 n7 s.1 s.2.1 s.2.2 ds w) (l9, l10, n11) w
@[reducible] def F6_22 (R : Rt) (l0 : SV) (l3 : SV) (l4 : SV) (n6 : Int) (n7 : Int) (l9 : SV) (l10 : SV) (n11 : Int) (ds : Ds) (w : World) : Prop := F6_21 R l0 l3 l4 n6 n7 l9 l10 n11 ds w
def F6_k27 (R : Rt) : EP := (fun ρ ds w => dSl (ρ 0) fun l0 => dSl (ρ 3) fun l3 => dSl (ρ 4) fun l4 => dInt .i64 (ρ 6) fun n6 => dInt .i64 (ρ 7) fun n7 => dSl (ρ 9) fun l9 => dSl (ρ 10) fun l10 => dInt .i64 (ρ 11) fun n11 => F6_22 R l0 l3 l4 n6 n7 l9 l10 n11 ds w)
def F6_23 (R : Rt) (l0 : SV) (ds : Ds) (w : World) : Prop :=
 Calls Try.prog 14 #[.slice l0.a l0.len l0.cap] w fun e w63 =>
 ∃ b18 : Bool, e = .returned (.bool b18) ∧
 Br b18 (
 Calls Try.prog 16 #[] w63 fun e w64 =>
 ∃ b19 : Bool, e = .returned (.bool b19) ∧
 runD Try.prog ds w64 fun w65 =>
 R (.returned (.bool b19)) w65) (
 Calls Try.prog 26 #[.slice l0.a l0.len l0.cap] w63 fun e w66 =>
 ∃ l22_0 : SV, ∃ l22_1 : SV, ∃ n22_2 : Int, e = .returned (.tuple #[.slice l22_0.a l22_0.len l22_0.cap, .slice l22_1.a l22_1.len l22_1.cap, .int .i64 n22_2]) ∧
 Br (n22_2 != 0) (
 Calls Try.prog 16 #[] w66 fun e w67 =>
 ∃ b28 : Bool, e = .returned (.bool b28) ∧
 runD Try.prog ds w67 fun w68 =>
 R (.returned (.bool b28)) w68) (
 Calls Try.prog 22 #[.slice l0.a l0.len l0.cap] w66 fun e w69 =>
 ∃ n31_0 : Int, ∃ n31_1 : Int, ∃ n31_2 : Int, e = .returned (.tuple #[.int .i64 n31_0, .int .i64 n31_1, .int .i64 n31_2]) ∧
 F6_22 R l0 l22_0 l22_1 n31_0 n31_1 ⟨none, 0, 0⟩ ⟨none, 0, 0⟩ 0 ds w69))
theorem c6_l : flat (bodyOf Try.f6) = [c6_0, c6_1, c6_2, c6_3, c6_4, c6_5, c6_6, c6_7, c6_8, c6_9, c6_10, c6_11, c6_12, c6_13, c6_14, c6_15] := by kernel_rfl
theorem c6_13_l : flat (innerC c6_13) = [c6_13_0] := by kernel_rfl
theorem c6_13_0_l : flat (innerC c6_13_0) = [c6_13_0_0, c6_13_0_1, c6_13_0_2, c6_13_0_3] := by kernel_rfl
theorem c6_13_0_2_l : flat (innerC c6_13_0_2) = [c6_13_0_2_0, c6_13_0_2_1, c6_13_0_2_2, c6_13_0_2_3, c6_13_0_2_4, c6_13_0_2_5, c6_13_0_2_6] := by kernel_rfl
theorem c6_13_0_2_6_l : flat (innerC c6_13_0_2_6) = [c6_13_0_2_6_0] := by kernel_rfl
theorem c6_13_0_2_6_0_l : flat (innerC c6_13_0_2_6_0) = [c6_13_0_2_6_0_0, c6_13_0_2_6_0_1, c6_13_0_2_6_0_2, c6_13_0_2_6_0_3] := by kernel_rfl
theorem c6_9_l : flat (innerC c6_9) = [c6_9_0] := by kernel_rfl
theorem c6_9_0_l : flat (innerC c6_9_0) = [c6_9_0_0, c6_9_0_1, c6_9_0_2, c6_9_0_3] := by kernel_rfl
theorem c6_9_0_2_l : flat (innerC c6_9_0_2) = [c6_9_0_2_0, c6_9_0_2_1] := by kernel_rfl
theorem c6_9_0_2_1_l : flat (innerC c6_9_0_2_1) = [c6_9_0_2_1_0] := by kernel_rfl
theorem c6_9_0_2_1_0_l : flat (innerC c6_9_0_2_1_0) = [c6_9_0_2_1_0_0, c6_9_0_2_1_0_1, c6_9_0_2_1_0_2, c6_9_0_2_1_0_3] := by kernel_rfl
theorem F6_1_ok (R : Rt) (ds : Ds) (w : World) (ρ : Env) (h : F6_1 R ds w) :
    TrL Try.prog Try.f6.ntmps [c6_14, c6_15] (F6_q1 R) ρ ds w :=
  TrL_leaf (X := F6_1 R ds w) setAll_nil (by kernel_rfl) (by kernel_rfl) h
theorem F6_2_ok (R : Rt) (J1 : (Int) → World → Prop) (l4 : SV) (n6 : Int) (n7 : Int) (l9 : SV) (l10 : SV) (n13 : Int) (ds : Ds) (w : World) (ρ : Env) (e4 : ρ 4 = .slice l4.a l4.len l4.cap) (e6 : ρ 6 = .int .i64 n6) (e7 : ρ 7 = .int .i64 n7) (e9 : ρ 9 = .slice l9.a l9.len l9.cap) (e10 : ρ 10 = .slice l10.a l10.len l10.cap) (e13 : ρ 13 = .int .i64 n13) (h : F6_2 R J1 l4 n6 n7 l9 l10 n13 ds w) :
    TrL Try.prog Try.f6.ntmps [c6_13_0_3] (F6_q5 R J1) ρ ds w :=
  TrL_leaf (X := F6_2 R J1 l4 n6 n7 l9 l10 n13 ds w) (setAll_cons e4 (setAll_cons e6 (setAll_cons e7 (setAll_cons e9 (setAll_cons e10 (setAll_cons e13 setAll_nil)))))) (by kernel_rfl) (by kernel_rfl) h
theorem F6_3_ok (R : Rt) (J1 : (Int) → World → Prop) (J2 : (Int) → World → Prop) (l4 : SV) (n6 : Int) (n7 : Int) (l9 : SV) (l10 : SV) (n13 : Int) (n15 : Int) (ds : Ds) (w : World) (ρ : Env) (e4 : ρ 4 = .slice l4.a l4.len l4.cap) (e6 : ρ 6 = .int .i64 n6) (e7 : ρ 7 = .int .i64 n7) (e9 : ρ 9 = .slice l9.a l9.len l9.cap) (e10 : ρ 10 = .slice l10.a l10.len l10.cap) (e13 : ρ 13 = .int .i64 n13) (e15 : ρ 15 = .int .i64 n15) (h : F6_3 R J1 J2 l4 n6 n7 l9 l10 n13 n15 ds w) :
    TrL Try.prog Try.f6.ntmps [c6_13_0_2_6_0_3] (F6_q10 R J1 J2) ρ ds w :=
  TrL_leaf (X := F6_3 R J1 J2 l4 n6 n7 l9 l10 n13 n15 ds w) (setAll_cons e4 (setAll_cons e6 (setAll_cons e7 (setAll_cons e9 (setAll_cons e10 (setAll_cons e13 (setAll_cons e15 setAll_nil))))))) (by kernel_rfl) (by kernel_rfl) h
theorem F6_4_ok (R : Rt) (J1 : (Int) → World → Prop) (J2 : (Int) → World → Prop) (l4 : SV) (n6 : Int) (n7 : Int) (l9 : SV) (l10 : SV) (n13 : Int) (n15 : Int) (ds : Ds) (w : World) (ρ : Env) (e4 : ρ 4 = .slice l4.a l4.len l4.cap) (e6 : ρ 6 = .int .i64 n6) (e7 : ρ 7 = .int .i64 n7) (e9 : ρ 9 = .slice l9.a l9.len l9.cap) (e10 : ρ 10 = .slice l10.a l10.len l10.cap) (e13 : ρ 13 = .int .i64 n13) (e15 : ρ 15 = .int .i64 n15) (h : F6_4 R J1 J2 l4 n6 n7 l9 l10 n13 n15 ds w) :
    TrL Try.prog Try.f6.ntmps [c6_13_0_2_6_0_2, c6_13_0_2_6_0_3] (F6_q10 R J1 J2) ρ ds w :=
  TrL_piece (pre := [c6_13_0_2_6_0_2]) (K := (F6_k11 R J1 J2)) (X := F6_4 R J1 J2 l4 n6 n7 l9 l10 n13 n15 ds w) (setAll_cons e4 (setAll_cons e6 (setAll_cons e7 (setAll_cons e9 (setAll_cons e10 (setAll_cons e13 (setAll_cons e15 setAll_nil))))))) (by kernel_rfl) (by kernel_rfl)
    (fun ρ' ds' w' hD => by
      obtain ⟨l4, e4, hD⟩ := dSl_elim hD; obtain ⟨n6, e6, hD⟩ := dInt_elim hD; obtain ⟨n7, e7, hD⟩ := dInt_elim hD; obtain ⟨l9, e9, hD⟩ := dSl_elim hD; obtain ⟨l10, e10, hD⟩ := dSl_elim hD; obtain ⟨n13, e13, hD⟩ := dInt_elim hD; obtain ⟨n15, e15, hD⟩ := dInt_elim hD; exact F6_3_ok R J1 J2 l4 n6 n7 l9 l10 n13 n15 ds' w' ρ' e4 e6 e7 e9 e10 e13 e15 hD) h
theorem F6_5_ok (R : Rt) (J1 : (Int) → World → Prop) (J2 : (Int) → World → Prop) (l4 : SV) (n6 : Int) (n7 : Int) (l9 : SV) (l10 : SV) (n13 : Int) (n15 : Int) (ds : Ds) (w : World) (ρ : Env) (e4 : ρ 4 = .slice l4.a l4.len l4.cap) (e6 : ρ 6 = .int .i64 n6) (e7 : ρ 7 = .int .i64 n7) (e9 : ρ 9 = .slice l9.a l9.len l9.cap) (e10 : ρ 10 = .slice l10.a l10.len l10.cap) (e13 : ρ 13 = .int .i64 n13) (e15 : ρ 15 = .int .i64 n15) (h : F6_5 R J1 J2 l4 n6 n7 l9 l10 n13 n15 ds w) :
    TrL Try.prog Try.f6.ntmps [c6_13_0_2_6_0_0, c6_13_0_2_6_0_1, c6_13_0_2_6_0_2, c6_13_0_2_6_0_3] (F6_q10 R J1 J2) ρ ds w :=
  TrL_piece (pre := [c6_13_0_2_6_0_0, c6_13_0_2_6_0_1]) (K := (F6_k12 R J1 J2)) (X := F6_5 R J1 J2 l4 n6 n7 l9 l10 n13 n15 ds w) (setAll_cons e4 (setAll_cons e6 (setAll_cons e7 (setAll_cons e9 (setAll_cons e10 (setAll_cons e13 (setAll_cons e15 setAll_nil))))))) (by kernel_rfl) (by kernel_rfl)
    (fun ρ' ds' w' hD => by
      obtain ⟨l4, e4, hD⟩ := dSl_elim hD; obtain ⟨n6, e6, hD⟩ := dInt_elim hD; obtain ⟨n7, e7, hD⟩ := dInt_elim hD; obtain ⟨l9, e9, hD⟩ := dSl_elim hD; obtain ⟨l10, e10, hD⟩ := dSl_elim hD; obtain ⟨n13, e13, hD⟩ := dInt_elim hD; obtain ⟨n15, e15, hD⟩ := dInt_elim hD; exact F6_4_ok R J1 J2 l4 n6 n7 l9 l10 n13 n15 ds' w' ρ' e4 e6 e7 e9 e10 e13 e15 hD) h
theorem F6_6_ok (R : Rt) (J1 : (Int) → World → Prop) (l4 : SV) (n6 : Int) (n7 : Int) (l9 : SV) (l10 : SV) (n13 : Int) (n15 : Int) (ds : Ds) (w : World) (ρ : Env) (e4 : ρ 4 = .slice l4.a l4.len l4.cap) (e6 : ρ 6 = .int .i64 n6) (e7 : ρ 7 = .int .i64 n7) (e9 : ρ 9 = .slice l9.a l9.len l9.cap) (e10 : ρ 10 = .slice l10.a l10.len l10.cap) (e13 : ρ 13 = .int .i64 n13) (e15 : ρ 15 = .int .i64 n15) (h : F6_6 R J1 l4 n6 n7 l9 l10 n13 n15 ds w) :
    TrL Try.prog Try.f6.ntmps [c6_13_0_2_6_0] (F6_q9 R J1) ρ ds w :=
  TrL_one (Tr_loop' (c := innerC c6_13_0_2_6_0) (σ := Int) (enc := (fun (s : Int) (ρ : Env) => ρ 15 = .int .i64 s)) (D := (fun ρ K => dInt .i64 (ρ 15) fun n15 => K n15)) (F := (fun (J2 : (Int) → World → Prop) (s : Int) (w : World) => F6_5 R J1 J2 l4 n6 n7 l9 l10 n13 s ds w)) (s0 := n15) (by kernel_rfl) c6_13_0_2_6_0_l e15 (by kernel_rfl) (fun ρ K hD => by obtain ⟨n15, e15, hD⟩ := dInt_elim hD; exact ⟨n15, e15, hD⟩)
      (fun J2 s ρ' w' he ha hF => by
      have e15' := he
      exact F6_5_ok R J1 J2 l4 n6 n7 l9 l10 n13 s ds w' ρ' ((ha 4 (by kernel_rfl)).trans e4) ((ha 6 (by kernel_rfl)).trans e6) ((ha 7 (by kernel_rfl)).trans e7) ((ha 9 (by kernel_rfl)).trans e9) ((ha 10 (by kernel_rfl)).trans e10) ((ha 13 (by kernel_rfl)).trans e13) e15' hF) h)
theorem F6_7_ok (R : Rt) (J1 : (Int) → World → Prop) (l4 : SV) (n6 : Int) (n7 : Int) (l9 : SV) (l10 : SV) (n13 : Int) (n15 : Int) (ds : Ds) (w : World) (ρ : Env) (e4 : ρ 4 = .slice l4.a l4.len l4.cap) (e6 : ρ 6 = .int .i64 n6) (e7 : ρ 7 = .int .i64 n7) (e9 : ρ 9 = .slice l9.a l9.len l9.cap) (e10 : ρ 10 = .slice l10.a l10.len l10.cap) (e13 : ρ 13 = .int .i64 n13) (e15 : ρ 15 = .int .i64 n15) (h : F6_7 R J1 l4 n6 n7 l9 l10 n13 n15 ds w) :
    TrL Try.prog Try.f6.ntmps [c6_13_0_2_6] (F6_q8 R J1) ρ ds w :=
  TrL_one (Tr_block' (c := innerC c6_13_0_2_6) (by kernel_rfl) c6_13_0_2_6_l (F6_6_ok R J1 l4 n6 n7 l9 l10 n13 n15 ds w ρ e4 e6 e7 e9 e10 e13 e15 h))
theorem F6_8_ok (R : Rt) (J1 : (Int) → World → Prop) (l4 : SV) (n6 : Int) (n7 : Int) (l9 : SV) (l10 : SV) (n13 : Int) (ds : Ds) (w : World) (ρ : Env) (e4 : ρ 4 = .slice l4.a l4.len l4.cap) (e6 : ρ 6 = .int .i64 n6) (e7 : ρ 7 = .int .i64 n7) (e9 : ρ 9 = .slice l9.a l9.len l9.cap) (e10 : ρ 10 = .slice l10.a l10.len l10.cap) (e13 : ρ 13 = .int .i64 n13) (h : F6_8 R J1 l4 n6 n7 l9 l10 n13 ds w) :
    TrL Try.prog Try.f6.ntmps [c6_13_0_2_0, c6_13_0_2_1, c6_13_0_2_2, c6_13_0_2_3, c6_13_0_2_4, c6_13_0_2_5, c6_13_0_2_6] (F6_q8 R J1) ρ ds w :=
  TrL_piece (pre := [c6_13_0_2_0, c6_13_0_2_1, c6_13_0_2_2, c6_13_0_2_3, c6_13_0_2_4, c6_13_0_2_5]) (K := (F6_k13 R J1)) (X := F6_8 R J1 l4 n6 n7 l9 l10 n13 ds w) (setAll_cons e4 (setAll_cons e6 (setAll_cons e7 (setAll_cons e9 (setAll_cons e10 (setAll_cons e13 setAll_nil)))))) (by kernel_rfl) (by kernel_rfl)
    (fun ρ' ds' w' hD => by
      obtain ⟨l4, e4, hD⟩ := dSl_elim hD; obtain ⟨n6, e6, hD⟩ := dInt_elim hD; obtain ⟨n7, e7, hD⟩ := dInt_elim hD; obtain ⟨l9, e9, hD⟩ := dSl_elim hD; obtain ⟨l10, e10, hD⟩ := dSl_elim hD; obtain ⟨n13, e13, hD⟩ := dInt_elim hD; obtain ⟨n15, e15, hD⟩ := dInt_elim hD; exact F6_7_ok R J1 l4 n6 n7 l9 l10 n13 n15 ds' w' ρ' e4 e6 e7 e9 e10 e13 e15 hD) h
theorem F6_9_ok (R : Rt) (J1 : (Int) → World → Prop) (l4 : SV) (n6 : Int) (n7 : Int) (l9 : SV) (l10 : SV) (n13 : Int) (ds : Ds) (w : World) (ρ : Env) (e4 : ρ 4 = .slice l4.a l4.len l4.cap) (e6 : ρ 6 = .int .i64 n6) (e7 : ρ 7 = .int .i64 n7) (e9 : ρ 9 = .slice l9.a l9.len l9.cap) (e10 : ρ 10 = .slice l10.a l10.len l10.cap) (e13 : ρ 13 = .int .i64 n13) (h : F6_9 R J1 l4 n6 n7 l9 l10 n13 ds w) :
    TrL Try.prog Try.f6.ntmps [c6_13_0_2, c6_13_0_3] (F6_q5 R J1) ρ ds w :=
  TrL_head (K := (F6_k6 R J1)) (Tr_block' (c := innerC c6_13_0_2) (by kernel_rfl) c6_13_0_2_l (F6_8_ok R J1 l4 n6 n7 l9 l10 n13 ds w ρ e4 e6 e7 e9 e10 e13 h))
    (fun ρ' ds' w' hD => by
      obtain ⟨l4, e4, hD⟩ := dSl_elim hD; obtain ⟨n6, e6, hD⟩ := dInt_elim hD; obtain ⟨n7, e7, hD⟩ := dInt_elim hD; obtain ⟨l9, e9, hD⟩ := dSl_elim hD; obtain ⟨l10, e10, hD⟩ := dSl_elim hD; obtain ⟨n13, e13, hD⟩ := dInt_elim hD; exact F6_2_ok R J1 l4 n6 n7 l9 l10 n13 ds' w' ρ' e4 e6 e7 e9 e10 e13 hD)
theorem F6_10_ok (R : Rt) (J1 : (Int) → World → Prop) (l4 : SV) (n6 : Int) (n7 : Int) (l9 : SV) (l10 : SV) (n13 : Int) (ds : Ds) (w : World) (ρ : Env) (e4 : ρ 4 = .slice l4.a l4.len l4.cap) (e6 : ρ 6 = .int .i64 n6) (e7 : ρ 7 = .int .i64 n7) (e9 : ρ 9 = .slice l9.a l9.len l9.cap) (e10 : ρ 10 = .slice l10.a l10.len l10.cap) (e13 : ρ 13 = .int .i64 n13) (h : F6_10 R J1 l4 n6 n7 l9 l10 n13 ds w) :
    TrL Try.prog Try.f6.ntmps [c6_13_0_0, c6_13_0_1, c6_13_0_2, c6_13_0_3] (F6_q5 R J1) ρ ds w :=
  TrL_piece (pre := [c6_13_0_0, c6_13_0_1]) (K := (F6_k14 R J1)) (X := F6_10 R J1 l4 n6 n7 l9 l10 n13 ds w) (setAll_cons e4 (setAll_cons e6 (setAll_cons e7 (setAll_cons e9 (setAll_cons e10 (setAll_cons e13 setAll_nil)))))) (by kernel_rfl) (by kernel_rfl)
    (fun ρ' ds' w' hD => by
      obtain ⟨l4, e4, hD⟩ := dSl_elim hD; obtain ⟨n6, e6, hD⟩ := dInt_elim hD; obtain ⟨n7, e7, hD⟩ := dInt_elim hD; obtain ⟨l9, e9, hD⟩ := dSl_elim hD; obtain ⟨l10, e10, hD⟩ := dSl_elim hD; obtain ⟨n13, e13, hD⟩ := dInt_elim hD; exact F6_9_ok R J1 l4 n6 n7 l9 l10 n13 ds' w' ρ' e4 e6 e7 e9 e10 e13 hD) h
theorem F6_11_ok (R : Rt) (l4 : SV) (n6 : Int) (n7 : Int) (l9 : SV) (l10 : SV) (n13 : Int) (ds : Ds) (w : World) (ρ : Env) (e4 : ρ 4 = .slice l4.a l4.len l4.cap) (e6 : ρ 6 = .int .i64 n6) (e7 : ρ 7 = .int .i64 n7) (e9 : ρ 9 = .slice l9.a l9.len l9.cap) (e10 : ρ 10 = .slice l10.a l10.len l10.cap) (e13 : ρ 13 = .int .i64 n13) (h : F6_11 R l4 n6 n7 l9 l10 n13 ds w) :
    TrL Try.prog Try.f6.ntmps [c6_13_0] (F6_q4 R) ρ ds w :=
  TrL_one (Tr_loop' (c := innerC c6_13_0) (σ := Int) (enc := (fun (s : Int) (ρ : Env) => ρ 13 = .int .i64 s)) (D := (fun ρ K => dInt .i64 (ρ 13) fun n13 => K n13)) (F := (fun (J1 : (Int) → World → Prop) (s : Int) (w : World) => F6_10 R J1 l4 n6 n7 l9 l10 s ds w)) (s0 := n13) (by kernel_rfl) c6_13_0_l e13 (by kernel_rfl) (fun ρ K hD => by obtain ⟨n13, e13, hD⟩ := dInt_elim hD; exact ⟨n13, e13, hD⟩)
      (fun J1 s ρ' w' he ha hF => by
      have e13' := he
      exact F6_10_ok R J1 l4 n6 n7 l9 l10 s ds w' ρ' ((ha 4 (by kernel_rfl)).trans e4) ((ha 6 (by kernel_rfl)).trans e6) ((ha 7 (by kernel_rfl)).trans e7) ((ha 9 (by kernel_rfl)).trans e9) ((ha 10 (by kernel_rfl)).trans e10) e13' hF) h)
theorem F6_12_ok (R : Rt) (l4 : SV) (n6 : Int) (n7 : Int) (l9 : SV) (l10 : SV) (n13 : Int) (ds : Ds) (w : World) (ρ : Env) (e4 : ρ 4 = .slice l4.a l4.len l4.cap) (e6 : ρ 6 = .int .i64 n6) (e7 : ρ 7 = .int .i64 n7) (e9 : ρ 9 = .slice l9.a l9.len l9.cap) (e10 : ρ 10 = .slice l10.a l10.len l10.cap) (e13 : ρ 13 = .int .i64 n13) (h : F6_12 R l4 n6 n7 l9 l10 n13 ds w) :
    TrL Try.prog Try.f6.ntmps [c6_13, c6_14, c6_15] (F6_q1 R) ρ ds w :=
  TrL_head (K := (F6_k2 R)) (Tr_block' (c := innerC c6_13) (by kernel_rfl) c6_13_l (F6_11_ok R l4 n6 n7 l9 l10 n13 ds w ρ e4 e6 e7 e9 e10 e13 h))
    (fun ρ' ds' w' hD => by
      exact F6_1_ok R ds' w' ρ'  hD)
theorem F6_13_ok (R : Rt) (l3 : SV) (l4 : SV) (n6 : Int) (n7 : Int) (l9 : SV) (l10 : SV) (ds : Ds) (w : World) (ρ : Env) (e3 : ρ 3 = .slice l3.a l3.len l3.cap) (e4 : ρ 4 = .slice l4.a l4.len l4.cap) (e6 : ρ 6 = .int .i64 n6) (e7 : ρ 7 = .int .i64 n7) (e9 : ρ 9 = .slice l9.a l9.len l9.cap) (e10 : ρ 10 = .slice l10.a l10.len l10.cap) (h : F6_13 R l3 l4 n6 n7 l9 l10 ds w) :
    TrL Try.prog Try.f6.ntmps [c6_10, c6_11, c6_12, c6_13, c6_14, c6_15] (F6_q1 R) ρ ds w :=
  TrL_piece (pre := [c6_10, c6_11, c6_12]) (K := (F6_k15 R)) (X := F6_13 R l3 l4 n6 n7 l9 l10 ds w) (setAll_cons e3 (setAll_cons e4 (setAll_cons e6 (setAll_cons e7 (setAll_cons e9 (setAll_cons e10 setAll_nil)))))) (by kernel_rfl) (by kernel_rfl)
    (fun ρ' ds' w' hD => by
      obtain ⟨l4, e4, hD⟩ := dSl_elim hD; obtain ⟨n6, e6, hD⟩ := dInt_elim hD; obtain ⟨n7, e7, hD⟩ := dInt_elim hD; obtain ⟨l9, e9, hD⟩ := dSl_elim hD; obtain ⟨l10, e10, hD⟩ := dSl_elim hD; obtain ⟨n13, e13, hD⟩ := dInt_elim hD; exact F6_12_ok R l4 n6 n7 l9 l10 n13 ds' w' ρ' e4 e6 e7 e9 e10 e13 hD) h
theorem F6_14_ok (R : Rt) (J1 : (SV × SV × Int) → World → Prop) (l0 : SV) (l3 : SV) (l4 : SV) (n6 : Int) (n7 : Int) (l9 : SV) (l10 : SV) (n11 : Int) (ds : Ds) (w : World) (ρ : Env) (e0 : ρ 0 = .slice l0.a l0.len l0.cap) (e3 : ρ 3 = .slice l3.a l3.len l3.cap) (e4 : ρ 4 = .slice l4.a l4.len l4.cap) (e6 : ρ 6 = .int .i64 n6) (e7 : ρ 7 = .int .i64 n7) (e9 : ρ 9 = .slice l9.a l9.len l9.cap) (e10 : ρ 10 = .slice l10.a l10.len l10.cap) (e11 : ρ 11 = .int .i64 n11) (h : F6_14 R J1 l0 l3 l4 n6 n7 l9 l10 n11 ds w) :
    TrL Try.prog Try.f6.ntmps [c6_9_0_3] (F6_q19 R J1) ρ ds w :=
  TrL_leaf (X := F6_14 R J1 l0 l3 l4 n6 n7 l9 l10 n11 ds w) (setAll_cons e0 (setAll_cons e3 (setAll_cons e4 (setAll_cons e6 (setAll_cons e7 (setAll_cons e9 (setAll_cons e10 (setAll_cons e11 setAll_nil)))))))) (by kernel_rfl) (by kernel_rfl) h
theorem F6_15_ok (R : Rt) (J1 : (SV × SV × Int) → World → Prop) (J2 : (SV × SV × Int) → World → Prop) (l0 : SV) (l3 : SV) (l4 : SV) (n6 : Int) (n7 : Int) (l9 : SV) (l10 : SV) (n11 : Int) (n12 : Int) (ds : Ds) (w : World) (ρ : Env) (e0 : ρ 0 = .slice l0.a l0.len l0.cap) (e3 : ρ 3 = .slice l3.a l3.len l3.cap) (e4 : ρ 4 = .slice l4.a l4.len l4.cap) (e6 : ρ 6 = .int .i64 n6) (e7 : ρ 7 = .int .i64 n7) (e9 : ρ 9 = .slice l9.a l9.len l9.cap) (e10 : ρ 10 = .slice l10.a l10.len l10.cap) (e11 : ρ 11 = .int .i64 n11) (e12 : ρ 12 = .int .i64 n12) (h : F6_15 R J1 J2 l0 l3 l4 n6 n7 l9 l10 n11 n12 ds w) :
    TrL Try.prog Try.f6.ntmps [c6_9_0_2_1_0_0, c6_9_0_2_1_0_1, c6_9_0_2_1_0_2, c6_9_0_2_1_0_3] (F6_q24 R J1 J2) ρ ds w :=
  TrL_leaf (X := F6_15 R J1 J2 l0 l3 l4 n6 n7 l9 l10 n11 n12 ds w) (setAll_cons e0 (setAll_cons e3 (setAll_cons e4 (setAll_cons e6 (setAll_cons e7 (setAll_cons e9 (setAll_cons e10 (setAll_cons e11 (setAll_cons e12 setAll_nil))))))))) (by kernel_rfl) (by kernel_rfl) h
theorem F6_16_ok (R : Rt) (J1 : (SV × SV × Int) → World → Prop) (l0 : SV) (l3 : SV) (l4 : SV) (n6 : Int) (n7 : Int) (l9 : SV) (l10 : SV) (n11 : Int) (n12 : Int) (ds : Ds) (w : World) (ρ : Env) (e0 : ρ 0 = .slice l0.a l0.len l0.cap) (e3 : ρ 3 = .slice l3.a l3.len l3.cap) (e4 : ρ 4 = .slice l4.a l4.len l4.cap) (e6 : ρ 6 = .int .i64 n6) (e7 : ρ 7 = .int .i64 n7) (e9 : ρ 9 = .slice l9.a l9.len l9.cap) (e10 : ρ 10 = .slice l10.a l10.len l10.cap) (e11 : ρ 11 = .int .i64 n11) (e12 : ρ 12 = .int .i64 n12) (h : F6_16 R J1 l0 l3 l4 n6 n7 l9 l10 n11 n12 ds w) :
    TrL Try.prog Try.f6.ntmps [c6_9_0_2_1_0] (F6_q23 R J1) ρ ds w :=
  TrL_one (Tr_loop' (c := innerC c6_9_0_2_1_0) (σ := SV × SV × Int) (enc := (fun (s : SV × SV × Int) (ρ : Env) => ρ 9 = .slice s.1.a s.1.len s.1.cap ∧ ρ 10 = .slice s.2.1.a s.2.1.len s.2.1.cap ∧ ρ 12 = .int .i64 s.2.2)) (D := (fun ρ K => dSl (ρ 9) fun l9 => dSl (ρ 10) fun l10 => dInt .i64 (ρ 12) fun n12 => K (l9, l10, n12))) (F := (fun (J2 : (SV × SV × Int) → World → Prop) (s : SV × SV × Int) (w : World) => F6_15 R J1 J2 l0 l3 l4 n6 n7 s.1 s.2.1 n11 s.2.2 ds w)) (s0 := (l9, l10, n12)) (by kernel_rfl) c6_9_0_2_1_0_l ⟨e9, e10, e12⟩ (by kernel_rfl) (fun ρ K hD => by obtain ⟨l9, e9, hD⟩ := dSl_elim hD; obtain ⟨l10, e10, hD⟩ := dSl_elim hD; obtain ⟨n12, e12, hD⟩ := dInt_elim hD; exact ⟨(l9, l10, n12), ⟨e9, e10, e12⟩, hD⟩)
      (fun J2 s ρ' w' he ha hF => by
      obtain ⟨e9', e10', e12'⟩ := he
      exact F6_15_ok R J1 J2 l0 l3 l4 n6 n7 s.1 s.2.1 n11 s.2.2 ds w' ρ' ((ha 0 (by kernel_rfl)).trans e0) ((ha 3 (by kernel_rfl)).trans e3) ((ha 4 (by kernel_rfl)).trans e4) ((ha 6 (by kernel_rfl)).trans e6) ((ha 7 (by kernel_rfl)).trans e7) e9' e10' ((ha 11 (by kernel_rfl)).trans e11) e12' hF) h)
theorem F6_17_ok (R : Rt) (J1 : (SV × SV × Int) → World → Prop) (l0 : SV) (l3 : SV) (l4 : SV) (n6 : Int) (n7 : Int) (l9 : SV) (l10 : SV) (n11 : Int) (n12 : Int) (ds : Ds) (w : World) (ρ : Env) (e0 : ρ 0 = .slice l0.a l0.len l0.cap) (e3 : ρ 3 = .slice l3.a l3.len l3.cap) (e4 : ρ 4 = .slice l4.a l4.len l4.cap) (e6 : ρ 6 = .int .i64 n6) (e7 : ρ 7 = .int .i64 n7) (e9 : ρ 9 = .slice l9.a l9.len l9.cap) (e10 : ρ 10 = .slice l10.a l10.len l10.cap) (e11 : ρ 11 = .int .i64 n11) (e12 : ρ 12 = .int .i64 n12) (h : F6_17 R J1 l0 l3 l4 n6 n7 l9 l10 n11 n12 ds w) :
    TrL Try.prog Try.f6.ntmps [c6_9_0_2_1] (F6_q22 R J1) ρ ds w :=
  TrL_one (Tr_block' (c := innerC c6_9_0_2_1) (by kernel_rfl) c6_9_0_2_1_l (F6_16_ok R J1 l0 l3 l4 n6 n7 l9 l10 n11 n12 ds w ρ e0 e3 e4 e6 e7 e9 e10 e11 e12 h))
theorem F6_18_ok (R : Rt) (J1 : (SV × SV × Int) → World → Prop) (l0 : SV) (l3 : SV) (l4 : SV) (n6 : Int) (n7 : Int) (l9 : SV) (l10 : SV) (n11 : Int) (ds : Ds) (w : World) (ρ : Env) (e0 : ρ 0 = .slice l0.a l0.len l0.cap) (e3 : ρ 3 = .slice l3.a l3.len l3.cap) (e4 : ρ 4 = .slice l4.a l4.len l4.cap) (e6 : ρ 6 = .int .i64 n6) (e7 : ρ 7 = .int .i64 n7) (e9 : ρ 9 = .slice l9.a l9.len l9.cap) (e10 : ρ 10 = .slice l10.a l10.len l10.cap) (e11 : ρ 11 = .int .i64 n11) (h : F6_18 R J1 l0 l3 l4 n6 n7 l9 l10 n11 ds w) :
    TrL Try.prog Try.f6.ntmps [c6_9_0_2_0, c6_9_0_2_1] (F6_q22 R J1) ρ ds w :=
  TrL_piece (pre := [c6_9_0_2_0]) (K := (F6_k25 R J1)) (X := F6_18 R J1 l0 l3 l4 n6 n7 l9 l10 n11 ds w) (setAll_cons e0 (setAll_cons e3 (setAll_cons e4 (setAll_cons e6 (setAll_cons e7 (setAll_cons e9 (setAll_cons e10 (setAll_cons e11 setAll_nil)))))))) (by kernel_rfl) (by kernel_rfl)
    (fun ρ' ds' w' hD => by
      obtain ⟨l0, e0, hD⟩ := dSl_elim hD; obtain ⟨l3, e3, hD⟩ := dSl_elim hD; obtain ⟨l4, e4, hD⟩ := dSl_elim hD; obtain ⟨n6, e6, hD⟩ := dInt_elim hD; obtain ⟨n7, e7, hD⟩ := dInt_elim hD; obtain ⟨l9, e9, hD⟩ := dSl_elim hD; obtain ⟨l10, e10, hD⟩ := dSl_elim hD; obtain ⟨n11, e11, hD⟩ := dInt_elim hD; obtain ⟨n12, e12, hD⟩ := dInt_elim hD; exact F6_17_ok R J1 l0 l3 l4 n6 n7 l9 l10 n11 n12 ds' w' ρ' e0 e3 e4 e6 e7 e9 e10 e11 e12 hD) h
theorem F6_19_ok (R : Rt) (J1 : (SV × SV × Int) → World → Prop) (l0 : SV) (l3 : SV) (l4 : SV) (n6 : Int) (n7 : Int) (l9 : SV) (l10 : SV) (n11 : Int) (ds : Ds) (w : World) (ρ : Env) (e0 : ρ 0 = .slice l0.a l0.len l0.cap) (e3 : ρ 3 = .slice l3.a l3.len l3.cap) (e4 : ρ 4 = .slice l4.a l4.len l4.cap) (e6 : ρ 6 = .int .i64 n6) (e7 : ρ 7 = .int .i64 n7) (e9 : ρ 9 = .slice l9.a l9.len l9.cap) (e10 : ρ 10 = .slice l10.a l10.len l10.cap) (e11 : ρ 11 = .int .i64 n11) (h : F6_19 R J1 l0 l3 l4 n6 n7 l9 l10 n11 ds w) :
    TrL Try.prog Try.f6.ntmps [c6_9_0_2, c6_9_0_3] (F6_q19 R J1) ρ ds w :=
  TrL_head (K := (F6_k20 R J1)) (Tr_block' (c := innerC c6_9_0_2) (by kernel_rfl) c6_9_0_2_l (F6_18_ok R J1 l0 l3 l4 n6 n7 l9 l10 n11 ds w ρ e0 e3 e4 e6 e7 e9 e10 e11 h))
    (fun ρ' ds' w' hD => by
      obtain ⟨l0, e0, hD⟩ := dSl_elim hD; obtain ⟨l3, e3, hD⟩ := dSl_elim hD; obtain ⟨l4, e4, hD⟩ := dSl_elim hD; obtain ⟨n6, e6, hD⟩ := dInt_elim hD; obtain ⟨n7, e7, hD⟩ := dInt_elim hD; obtain ⟨l9, e9, hD⟩ := dSl_elim hD; obtain ⟨l10, e10, hD⟩ := dSl_elim hD; obtain ⟨n11, e11, hD⟩ := dInt_elim hD; exact F6_14_ok R J1 l0 l3 l4 n6 n7 l9 l10 n11 ds' w' ρ' e0 e3 e4 e6 e7 e9 e10 e11 hD)
theorem F6_20_ok (R : Rt) (J1 : (SV × SV × Int) → World → Prop) (l0 : SV) (l3 : SV) (l4 : SV) (n6 : Int) (n7 : Int) (l9 : SV) (l10 : SV) (n11 : Int) (ds : Ds) (w : World) (ρ : Env) (e0 : ρ 0 = .slice l0.a l0.len l0.cap) (e3 : ρ 3 = .slice l3.a l3.len l3.cap) (e4 : ρ 4 = .slice l4.a l4.len l4.cap) (e6 : ρ 6 = .int .i64 n6) (e7 : ρ 7 = .int .i64 n7) (e9 : ρ 9 = .slice l9.a l9.len l9.cap) (e10 : ρ 10 = .slice l10.a l10.len l10.cap) (e11 : ρ 11 = .int .i64 n11) (h : F6_20 R J1 l0 l3 l4 n6 n7 l9 l10 n11 ds w) :
    TrL Try.prog Try.f6.ntmps [c6_9_0_0, c6_9_0_1, c6_9_0_2, c6_9_0_3] (F6_q19 R J1) ρ ds w :=
  TrL_piece (pre := [c6_9_0_0, c6_9_0_1]) (K := (F6_k26 R J1)) (X := F6_20 R J1 l0 l3 l4 n6 n7 l9 l10 n11 ds w) (setAll_cons e0 (setAll_cons e3 (setAll_cons e4 (setAll_cons e6 (setAll_cons e7 (setAll_cons e9 (setAll_cons e10 (setAll_cons e11 setAll_nil)))))))) (by kernel_rfl) (by kernel_rfl)
    (fun ρ' ds' w' hD => by
      obtain ⟨l0, e0, hD⟩ := dSl_elim hD; obtain ⟨l3, e3, hD⟩ := dSl_elim hD; obtain ⟨l4, e4, hD⟩ := dSl_elim hD; obtain ⟨n6, e6, hD⟩ := dInt_elim hD; obtain ⟨n7, e7, hD⟩ := dInt_elim hD; obtain ⟨l9, e9, hD⟩ := dSl_elim hD; obtain ⟨l10, e10, hD⟩ := dSl_elim hD; obtain ⟨n11, e11, hD⟩ := dInt_elim hD; exact F6_19_ok R J1 l0 l3 l4 n6 n7 l9 l10 n11 ds' w' ρ' e0 e3 e4 e6 e7 e9 e10 e11 hD) h
theorem F6_21_ok (R : Rt) (l0 : SV) (l3 : SV) (l4 : SV) (n6 : Int) (n7 : Int) (l9 : SV) (l10 : SV) (n11 : Int) (ds : Ds) (w : World) (ρ : Env) (e0 : ρ 0 = .slice l0.a l0.len l0.cap) (e3 : ρ 3 = .slice l3.a l3.len l3.cap) (e4 : ρ 4 = .slice l4.a l4.len l4.cap) (e6 : ρ 6 = .int .i64 n6) (e7 : ρ 7 = .int .i64 n7) (e9 : ρ 9 = .slice l9.a l9.len l9.cap) (e10 : ρ 10 = .slice l10.a l10.len l10.cap) (e11 : ρ 11 = .int .i64 n11) (h : F6_21 R l0 l3 l4 n6 n7 l9 l10 n11 ds w) :
    TrL Try.prog Try.f6.ntmps [c6_9_0] (F6_q18 R) ρ ds w :=
  TrL_one (Tr_loop' (c := innerC c6_9_0) (σ := SV × SV × Int) (enc := (fun (s : SV × SV × Int) (ρ : Env) => ρ 9 = .slice s.1.a s.1.len s.1.cap ∧ ρ 10 = .slice s.2.1.a s.2.1.len s.2.1.cap ∧ ρ 11 = .int .i64 s.2.2)) (D := (fun ρ K => dSl (ρ 9) fun l9 => dSl (ρ 10) fun l10 => dInt .i64 (ρ 11) fun n11 => K (l9, l10, n11))) (F := (fun (J1 : (SV × SV × Int) → World → Prop) (s : SV × SV × Int) (w : World) => F6_20 R J1 l0 l3 l4 n6 n7 s.1 s.2.1 s.2.2 ds w)) (s0 := (l9, l10, n11)) (by kernel_rfl) c6_9_0_l ⟨e9, e10, e11⟩ (by kernel_rfl) (fun ρ K hD => by obtain ⟨l9, e9, hD⟩ := dSl_elim hD; obtain ⟨l10, e10, hD⟩ := dSl_elim hD; obtain ⟨n11, e11, hD⟩ := dInt_elim hD; exact ⟨(l9, l10, n11), ⟨e9, e10, e11⟩, hD⟩)
      (fun J1 s ρ' w' he ha hF => by
      obtain ⟨e9', e10', e11'⟩ := he
      exact F6_20_ok R J1 l0 l3 l4 n6 n7 s.1 s.2.1 s.2.2 ds w' ρ' ((ha 0 (by kernel_rfl)).trans e0) ((ha 3 (by kernel_rfl)).trans e3) ((ha 4 (by kernel_rfl)).trans e4) ((ha 6 (by kernel_rfl)).trans e6) ((ha 7 (by kernel_rfl)).trans e7) e9' e10' e11' hF) h)
theorem F6_22_ok (R : Rt) (l0 : SV) (l3 : SV) (l4 : SV) (n6 : Int) (n7 : Int) (l9 : SV) (l10 : SV) (n11 : Int) (ds : Ds) (w : World) (ρ : Env) (e0 : ρ 0 = .slice l0.a l0.len l0.cap) (e3 : ρ 3 = .slice l3.a l3.len l3.cap) (e4 : ρ 4 = .slice l4.a l4.len l4.cap) (e6 : ρ 6 = .int .i64 n6) (e7 : ρ 7 = .int .i64 n7) (e9 : ρ 9 = .slice l9.a l9.len l9.cap) (e10 : ρ 10 = .slice l10.a l10.len l10.cap) (e11 : ρ 11 = .int .i64 n11) (h : F6_22 R l0 l3 l4 n6 n7 l9 l10 n11 ds w) :
    TrL Try.prog Try.f6.ntmps [c6_9, c6_10, c6_11, c6_12, c6_13, c6_14, c6_15] (F6_q1 R) ρ ds w :=
  TrL_head (K := (F6_k16 R)) (Tr_block' (c := innerC c6_9) (by kernel_rfl) c6_9_l (F6_21_ok R l0 l3 l4 n6 n7 l9 l10 n11 ds w ρ e0 e3 e4 e6 e7 e9 e10 e11 h))
    (fun ρ' ds' w' hD => by
      obtain ⟨l3, e3, hD⟩ := dSl_elim hD; obtain ⟨l4, e4, hD⟩ := dSl_elim hD; obtain ⟨n6, e6, hD⟩ := dInt_elim hD; obtain ⟨n7, e7, hD⟩ := dInt_elim hD; obtain ⟨l9, e9, hD⟩ := dSl_elim hD; obtain ⟨l10, e10, hD⟩ := dSl_elim hD; exact F6_13_ok R l3 l4 n6 n7 l9 l10 ds' w' ρ' e3 e4 e6 e7 e9 e10 hD)
theorem F6_23_ok (R : Rt) (l0 : SV) (ds : Ds) (w : World) (ρ : Env) (e0 : ρ 0 = .slice l0.a l0.len l0.cap) (h : F6_23 R l0 ds w) :
    TrL Try.prog Try.f6.ntmps [c6_0, c6_1, c6_2, c6_3, c6_4, c6_5, c6_6, c6_7, c6_8, c6_9, c6_10, c6_11, c6_12, c6_13, c6_14, c6_15] (F6_q1 R) ρ ds w :=
  TrL_piece (pre := [c6_0, c6_1, c6_2, c6_3, c6_4, c6_5, c6_6, c6_7, c6_8]) (K := (F6_k27 R)) (X := F6_23 R l0 ds w) (setAll_cons e0 setAll_nil) (by kernel_rfl) (by kernel_rfl)
    (fun ρ' ds' w' hD => by
      obtain ⟨l0, e0, hD⟩ := dSl_elim hD; obtain ⟨l3, e3, hD⟩ := dSl_elim hD; obtain ⟨l4, e4, hD⟩ := dSl_elim hD; obtain ⟨n6, e6, hD⟩ := dInt_elim hD; obtain ⟨n7, e7, hD⟩ := dInt_elim hD; obtain ⟨l9, e9, hD⟩ := dSl_elim hD; obtain ⟨l10, e10, hD⟩ := dSl_elim hD; obtain ⟨n11, e11, hD⟩ := dInt_elim hD; exact F6_22_ok R l0 l3 l4 n6 n7 l9 l10 n11 ds' w' ρ' e0 e3 e4 e6 e7 e9 e10 e11 hD) h
theorem F6_calls (l0 : SV) (w : World) (R : Rt) (h : F6_23 R l0 [] w) : Calls Try.prog 6 #[.slice l0.a l0.len l0.cap] w R :=
  calls_of_L (l := [c6_0, c6_1, c6_2, c6_3, c6_4, c6_5, c6_6, c6_7, c6_8, c6_9, c6_10, c6_11, c6_12, c6_13, c6_14, c6_15]) Try.func6 (by kernel_rfl) (by rw [Try.ntmps6]; exact Nat.le_of_ble_eq_true (by kernel_rfl)) c6_l
    (F6_23_ok R l0 [] w _ rfl h)
theorem F6_callsD (l0 : SV) (w : World) (R : Rt) (u : FrameMode) (h : F6_23 R l0 [] w) : CallsD Try.prog 6 #[.slice l0.a l0.len l0.cap] u w fun e u' w' => u' = u ∧ R e w' :=
  callsD_of_L (l := [c6_0, c6_1, c6_2, c6_3, c6_4, c6_5, c6_6, c6_7, c6_8, c6_9, c6_10, c6_11, c6_12, c6_13, c6_14, c6_15]) Try.func6 (by kernel_rfl) (by rw [Try.ntmps6]; exact Nat.le_of_ble_eq_true (by kernel_rfl)) (by kernel_rfl) c6_l
    (F6_23_ok R l0 [] w _ rfl h) u

end Go.Proofs.Ytcnenlmhbpijlaa
