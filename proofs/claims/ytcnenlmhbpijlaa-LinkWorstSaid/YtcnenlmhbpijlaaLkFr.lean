import Derived.Test.YtcnenlmhbpijlaaProg
import Derived.Test.YtcnenlmhbpijlaaShEight
/- Shallow texts of functions, printed by program, each checked by the kernel against the loaded code. No condition. -/
set_option maxRecDepth 100000
set_option linter.unusedVariables false
namespace Go.Proofs.Ytcnenlmhbpijlaa
open Go.Sh
/-! function 24: cabinetry/cabinetryref24.Validate -/
noncomputable def c24_0 : Code := itemAt (flat (bodyOf Try.f24)) 0
noncomputable def c24_1 : Code := itemAt (flat (bodyOf Try.f24)) 1
noncomputable def c24_2 : Code := itemAt (flat (bodyOf Try.f24)) 2
noncomputable def c24_3 : Code := itemAt (flat (bodyOf Try.f24)) 3
noncomputable def c24_4 : Code := itemAt (flat (bodyOf Try.f24)) 4
noncomputable def c24_5 : Code := itemAt (flat (bodyOf Try.f24)) 5
noncomputable def c24_6 : Code := itemAt (flat (bodyOf Try.f24)) 6
noncomputable def c24_7 : Code := itemAt (flat (bodyOf Try.f24)) 7
noncomputable def c24_8 : Code := itemAt (flat (bodyOf Try.f24)) 8
noncomputable def c24_9 : Code := itemAt (flat (bodyOf Try.f24)) 9
noncomputable def c24_10 : Code := itemAt (flat (bodyOf Try.f24)) 10
noncomputable def c24_11 : Code := itemAt (flat (bodyOf Try.f24)) 11
noncomputable def c24_9_0 : Code := itemAt (flat (innerC c24_9)) 0
noncomputable def c24_9_0_0 : Code := itemAt (flat (innerC c24_9_0)) 0
noncomputable def c24_9_0_1 : Code := itemAt (flat (innerC c24_9_0)) 1
noncomputable def c24_9_0_2 : Code := itemAt (flat (innerC c24_9_0)) 2
noncomputable def c24_9_0_3 : Code := itemAt (flat (innerC c24_9_0)) 3
noncomputable def c24_9_0_2_0 : Code := itemAt (flat (innerC c24_9_0_2)) 0
noncomputable def c24_9_0_2_1 : Code := itemAt (flat (innerC c24_9_0_2)) 1
noncomputable def c24_9_0_2_2 : Code := itemAt (flat (innerC c24_9_0_2)) 2
noncomputable def c24_9_0_2_3 : Code := itemAt (flat (innerC c24_9_0_2)) 3
noncomputable def c24_9_0_2_4 : Code := itemAt (flat (innerC c24_9_0_2)) 4
noncomputable def c24_9_0_2_4_0 : Code := itemAt (flat (innerC c24_9_0_2_4)) 0
noncomputable def c24_9_0_2_4_0_0 : Code := itemAt (flat (innerC c24_9_0_2_4_0)) 0
noncomputable def c24_9_0_2_4_0_1 : Code := itemAt (flat (innerC c24_9_0_2_4_0)) 1
noncomputable def c24_9_0_2_4_0_2 : Code := itemAt (flat (innerC c24_9_0_2_4_0)) 2
noncomputable def c24_9_0_2_4_0_3 : Code := itemAt (flat (innerC c24_9_0_2_4_0)) 3
noncomputable def c24_6_0 : Code := itemAt (flat (innerC c24_6)) 0
noncomputable def c24_6_0_0 : Code := itemAt (flat (innerC c24_6_0)) 0
noncomputable def c24_6_0_1 : Code := itemAt (flat (innerC c24_6_0)) 1
noncomputable def c24_6_0_2 : Code := itemAt (flat (innerC c24_6_0)) 2
noncomputable def c24_6_0_3 : Code := itemAt (flat (innerC c24_6_0)) 3
noncomputable def c24_4_0 : Code := itemAt (flat (innerC c24_4)) 0
noncomputable def c24_4_0_0 : Code := itemAt (flat (innerC c24_4_0)) 0
noncomputable def c24_4_0_1 : Code := itemAt (flat (innerC c24_4_0)) 1
noncomputable def c24_4_0_2 : Code := itemAt (flat (innerC c24_4_0)) 2
noncomputable def c24_4_0_3 : Code := itemAt (flat (innerC c24_4_0)) 3
def F24_q1 (R : Rt) : EQ := endQ Try.prog Try.f24.results.toList R
def F24_1 (R : Rt) (ds : Ds) (w : World) : Prop :=
 runD Try.prog ds w fun w1 =>
 R (.returned (.int .i64 0)) w1
def F24_k2 (R : Rt) : EP := (fun ρ ds w => F24_1 R ds w)
def F24_q3 (R : Rt) : EQ := (thenQ (F24_k2 R) (F24_q1 R))
def F24_q4 (R : Rt) : EQ := (blockQ 4 (F24_q3 R))
def F24_q5 (R : Rt) (J1 : (Int) → World → Prop) : EQ := (thenQ (fun ρ _ w => dInt .i64 (ρ 7) fun n7 => J1 n7 w) (F24_q4 R))
def F24_2 (R : Rt) (J1 : (Int) → World → Prop) (l0 : SV) (m5 : Option Nat) (m6 : Option Nat) (n7 : Int) (ds : Ds) (w : World) : Prop :=
 J1 (IntKind.i64.wrap (n7 + 1)) w
def F24_k6 (R : Rt) (J1 : (Int) → World → Prop) : EP := (fun ρ ds w => dSl (ρ 0) fun l0 => dMap (ρ 5) fun m5 => dMap (ρ 6) fun m6 => dInt .i64 (ρ 7) fun n7 => F24_2 R J1 l0 m5 m6 n7 ds w)
def F24_q7 (R : Rt) (J1 : (Int) → World → Prop) : EQ := (thenQ (F24_k6 R J1) (F24_q5 R J1))
def F24_q8 (R : Rt) (J1 : (Int) → World → Prop) : EQ := (blockQ 5 (F24_q7 R J1))
def F24_q9 (R : Rt) (J1 : (Int) → World → Prop) : EQ := (blockQ 6 (F24_q8 R J1))
def F24_q10 (R : Rt) (J1 : (Int) → World → Prop) (J2 : (Int) → World → Prop) : EQ := (thenQ (fun ρ _ w => dInt .i64 (ρ 8) fun n8 => J2 n8 w) (F24_q9 R J1))
def F24_3 (R : Rt) (J1 : (Int) → World → Prop) (J2 : (Int) → World → Prop) (l0 : SV) (m5 : Option Nat) (m6 : Option Nat) (n7 : Int) (n8 : Int) (ds : Ds) (w : World) : Prop :=
 ∃ a2 : Addr, l0.a = some a2 ∧ 0 ≤ n7 ∧ n7 < ((l0.len : Nat) : Int) ∧
 ∃ l83 : SV, w.cell? ((a2.add (n7.toNat * 5)).add 2) = some (.slice l83.a l83.len l83.cap) ∧
 Br (decide (n8 < ((l83.len : Nat) : Int))) (
 ∃ a3 : Addr, l0.a = some a3 ∧ 0 ≤ n7 ∧ n7 < ((l0.len : Nat) : Int) ∧
 ∃ l93 : SV, w.cell? ((a3.add (n7.toNat * 5)).add 2) = some (.slice l93.a l93.len l93.cap) ∧
 ∃ a4 : Addr, l93.a = some a4 ∧ 0 ≤ n8 ∧ n8 < ((l93.len : Nat) : Int) ∧
 ∃ s96 : ByteArray, w.cell? (a4.add (n8.toNat * 1)) = some (.string s96) ∧
 ∃ b97 : Bool, ∃ w5 : World, (Instr.lookup 82 (.map m6) (.string s96) false).run Try.prog w = .ok (.bool b97) w5 ∧
 Br b97 (
 runD Try.prog ds w5 fun w6 =>
 R (.returned (.int .i64 5)) w6) (
 ∃ a7 : Addr, l0.a = some a7 ∧ 0 ≤ n7 ∧ n7 < ((l0.len : Nat) : Int) ∧
 ∃ l103 : SV, w5.cell? ((a7.add (n7.toNat * 5)).add 2) = some (.slice l103.a l103.len l103.cap) ∧
 ∃ a8 : Addr, l103.a = some a8 ∧ 0 ≤ n8 ∧ n8 < ((l103.len : Nat) : Int) ∧
 ∃ s106 : ByteArray, w5.cell? (a8.add (n8.toNat * 1)) = some (.string s106) ∧
 doE Try.prog (Instr.mapUpdate 82 (.map m6) (.string s106) (.bool true)) w5 fun w9 =>
 J2 (IntKind.i64.wrap (n8 + 1)) w9)) (
 F24_2 R J1 l0 m5 m6 n7 ds w)
def F24_4 (R : Rt) (J1 : (Int) → World → Prop) (l0 : SV) (m5 : Option Nat) (m6 : Option Nat) (n7 : Int) (n8 : Int) (ds : Ds) (w : World) : Prop :=
 loopT (fun (J2 : (Int) → World → Prop) (s : Int) (w : World) => F24_3 R J1 J2 l0 m5 m6 n7 s ds w) n8 w
@[reducible] def F24_5 (R : Rt) (J1 : (Int) → World → Prop) (l0 : SV) (m5 : Option Nat) (m6 : Option Nat) (n7 : Int) (n8 : Int) (ds : Ds) (w : World) : Prop := F24_4 R J1 l0 m5 m6 n7 n8 ds w
def F24_k11 (R : Rt) (J1 : (Int) → World → Prop) : EP := (fun ρ ds w => dSl (ρ 0) fun l0 => dMap (ρ 5) fun m5 => dMap (ρ 6) fun m6 => dInt .i64 (ρ 7) fun n7 => dInt .i64 (ρ 8) fun n8 => F24_5 R J1 l0 m5 m6 n7 n8 ds w)
def F24_6 (R : Rt) (J1 : (Int) → World → Prop) (l0 : SV) (m5 : Option Nat) (m6 : Option Nat) (n7 : Int) (ds : Ds) (w : World) : Prop :=
 ∃ a10 : Addr, l0.a = some a10 ∧ 0 ≤ n7 ∧ n7 < ((l0.len : Nat) : Int) ∧
 ∃ s70 : ByteArray, w.cell? (a10.add (n7.toNat * 5)) = some (.string s70) ∧
 ∃ b71 : Bool, ∃ w11 : World, (Instr.lookup 82 (.map m5) (.string s70) false).run Try.prog w = .ok (.bool b71) w11 ∧
 Br b71 (
 runD Try.prog ds w11 fun w12 =>
 R (.returned (.int .i64 5)) w12) (
 ∃ a13 : Addr, l0.a = some a13 ∧ 0 ≤ n7 ∧ n7 < ((l0.len : Nat) : Int) ∧
 ∃ s77 : ByteArray, w11.cell? (a13.add (n7.toNat * 5)) = some (.string s77) ∧
 doE Try.prog (Instr.mapUpdate 82 (.map m5) (.string s77) (.bool true)) w11 fun w14 =>
 F24_5 R J1 l0 m5 m6 n7 0 ds w14)
@[reducible] def F24_7 (R : Rt) (J1 : (Int) → World → Prop) (l0 : SV) (m5 : Option Nat) (m6 : Option Nat) (n7 : Int) (ds : Ds) (w : World) : Prop := F24_6 R J1 l0 m5 m6 n7 ds w
def F24_k12 (R : Rt) (J1 : (Int) → World → Prop) : EP := (fun ρ ds w => dSl (ρ 0) fun l0 => dMap (ρ 5) fun m5 => dMap (ρ 6) fun m6 => dInt .i64 (ρ 7) fun n7 => F24_7 R J1 l0 m5 m6 n7 ds w)
def F24_8 (R : Rt) (J1 : (Int) → World → Prop) (l0 : SV) (m5 : Option Nat) (m6 : Option Nat) (n7 : Int) (ds : Ds) (w : World) : Prop :=
 Br (decide (n7 < ((l0.len : Nat) : Int))) (
 F24_7 R J1 l0 m5 m6 n7 ds w) (
 F24_1 R ds w)
def F24_9 (R : Rt) (l0 : SV) (m5 : Option Nat) (m6 : Option Nat) (n7 : Int) (ds : Ds) (w : World) : Prop :=
 loopT (fun (J1 : (Int) → World → Prop) (s : Int) (w : World) => F24_8 R J1 l0 m5 m6 s ds w) n7 w
@[reducible] def F24_10 (R : Rt) (l0 : SV) (m5 : Option Nat) (m6 : Option Nat) (n7 : Int) (ds : Ds) (w : World) : Prop := F24_9 R l0 m5 m6 n7 ds w
def F24_k13 (R : Rt) : EP := (fun ρ ds w => dSl (ρ 0) fun l0 => dMap (ρ 5) fun m5 => dMap (ρ 6) fun m6 => dInt .i64 (ρ 7) fun n7 => F24_10 R l0 m5 m6 n7 ds w)
def F24_11 (R : Rt) (l0 : SV) (ds : Ds) (w : World) : Prop :=
 alE (.map #[] 0) w fun r57 w15 =>
 alE (.map #[] 0) w15 fun r58 w16 =>
 F24_10 R l0 (some r57) (some r58) 0 ds w16
def F24_k14 (R : Rt) : EP := (fun ρ ds w => dSl (ρ 0) fun l0 => F24_11 R l0 ds w)
def F24_q15 (R : Rt) : EQ := (thenQ (F24_k14 R) (F24_q1 R))
def F24_q16 (R : Rt) : EQ := (blockQ 2 (F24_q15 R))
def F24_q17 (R : Rt) (J1 : (Int) → World → Prop) : EQ := (thenQ (fun ρ _ w => dInt .i64 (ρ 4) fun n4 => J1 n4 w) (F24_q16 R))
def F24_12 (R : Rt) (J1 : (Int) → World → Prop) (l0 : SV) (n4 : Int) (ds : Ds) (w : World) : Prop :=
 Br (decide (n4 < ((l0.len : Nat) : Int))) (
 dwE w fun w17 =>
 ∃ a18 : Addr, l0.a = some a18 ∧ 0 ≤ n4 ∧ n4 < ((l0.len : Nat) : Int) ∧
 ∃ l33 : SV, w17.cell? ((a18.add (n4.toNat * 5)).add 3) = some (.slice l33.a l33.len l33.cap) ∧
 ∃ a19 : Addr, l0.a = some a19 ∧ 0 ≤ n4 ∧ n4 < ((l0.len : Nat) : Int) ∧
 ∃ l39 : SV, w17.cell? ((a19.add (n4.toNat * 5)).add 2) = some (.slice l39.a l39.len l39.cap) ∧
 Br (((l33.len : Nat) : Int) != ((l39.len : Nat) : Int)) (
 runD Try.prog ds w17 fun w20 =>
 R (.returned (.int .i64 10)) w20) (
 ∃ a21 : Addr, l0.a = some a21 ∧ 0 ≤ n4 ∧ n4 < ((l0.len : Nat) : Int) ∧
 ∃ l47 : SV, w17.cell? ((a21.add (n4.toNat * 5)).add 4) = some (.slice l47.a l47.len l47.cap) ∧
 ∃ a22 : Addr, l0.a = some a22 ∧ 0 ≤ n4 ∧ n4 < ((l0.len : Nat) : Int) ∧
 ∃ l53 : SV, w17.cell? ((a22.add (n4.toNat * 5)).add 2) = some (.slice l53.a l53.len l53.cap) ∧
 Br (((l47.len : Nat) : Int) != ((l53.len : Nat) : Int)) (
 runD Try.prog ds w17 fun w23 =>
 R (.returned (.int .i64 10)) w23) (
 J1 (IntKind.i64.wrap (n4 + 1)) w17))) (
 F24_11 R l0 ds w)
def F24_13 (R : Rt) (l0 : SV) (n4 : Int) (ds : Ds) (w : World) : Prop :=
 loopT (fun (J1 : (Int) → World → Prop) (s : Int) (w : World) => F24_12 R J1 l0 s ds w) n4 w
@[reducible] def F24_14 (R : Rt) (l0 : SV) (n4 : Int) (ds : Ds) (w : World) : Prop := F24_13 R l0 n4 ds w
def F24_k18 (R : Rt) : EP := (fun ρ ds w => dSl (ρ 0) fun l0 => dInt .i64 (ρ 4) fun n4 => F24_14 R l0 n4 ds w)
def F24_15 (R : Rt) (l0 : SV) (ds : Ds) (w : World) : Prop :=
 F24_14 R l0 0 ds w
def F24_k19 (R : Rt) : EP := (fun ρ ds w => dSl (ρ 0) fun l0 => F24_15 R l0 ds w)
def F24_q20 (R : Rt) : EQ := (thenQ (F24_k19 R) (F24_q1 R))
def F24_q21 (R : Rt) : EQ := (blockQ 0 (F24_q20 R))
def F24_q22 (R : Rt) (J1 : (Int) → World → Prop) : EQ := (thenQ (fun ρ _ w => dInt .i64 (ρ 3) fun n3 => J1 n3 w) (F24_q21 R))
def F24_16 (R : Rt) (J1 : (Int) → World → Prop) (l0 : SV) (n3 : Int) (ds : Ds) (w : World) : Prop :=
 Br (decide (n3 < ((l0.len : Nat) : Int))) (
 ∃ a24 : Addr, l0.a = some a24 ∧ 0 ≤ n3 ∧ n3 < ((l0.len : Nat) : Int) ∧
 ∃ s20_0 : ByteArray, w.cell? ((a24.add (n3.toNat * 5)).add 0) = some (.string s20_0) ∧
 ∃ n20_1 : Int, w.cell? ((a24.add (n3.toNat * 5)).add 1) = some (.int .i64 n20_1) ∧
 ∃ l20_2 : SV, w.cell? ((a24.add (n3.toNat * 5)).add 2) = some (.slice l20_2.a l20_2.len l20_2.cap) ∧
 ∃ l20_3 : SV, w.cell? ((a24.add (n3.toNat * 5)).add 3) = some (.slice l20_3.a l20_3.len l20_3.cap) ∧
 ∃ l20_4 : SV, w.cell? ((a24.add (n3.toNat * 5)).add 4) = some (.slice l20_4.a l20_4.len l20_4.cap) ∧
 Calls Try.prog 61 #[.agg #[.string s20_0, .int .i64 n20_1, .slice l20_2.a l20_2.len l20_2.cap, .slice l20_3.a l20_3.len l20_3.cap, .slice l20_4.a l20_4.len l20_4.cap]] w fun e w25 =>
 ∃ b21 : Bool, e = .returned (.bool b21) ∧
 Br (!b21) (
 runD Try.prog ds w25 fun w26 =>
 R (.returned (.int .i64 1)) w26) (
 J1 (IntKind.i64.wrap (n3 + 1)) w25)) (
 F24_15 R l0 ds w)
def F24_17 (R : Rt) (l0 : SV) (n3 : Int) (ds : Ds) (w : World) : Prop :=
 loopT (fun (J1 : (Int) → World → Prop) (s : Int) (w : World) => F24_16 R J1 l0 s ds w) n3 w
@[reducible] def F24_18 (R : Rt) (l0 : SV) (n3 : Int) (ds : Ds) (w : World) : Prop := F24_17 R l0 n3 ds w
def F24_k23 (R : Rt) : EP := (fun ρ ds w => dSl (ρ 0) fun l0 => dInt .i64 (ρ 3) fun n3 => F24_18 R l0 n3 ds w)
def F24_19 (R : Rt) (l0 : SV) (ds : Ds) (w : World) : Prop :=
 Calls Try.prog 60 #[.slice l0.a l0.len l0.cap] w fun e w27 =>
 ∃ b10 : Bool, e = .returned (.bool b10) ∧
 Br b10 (
 runD Try.prog ds w27 fun w28 =>
 R (.returned (.int .i64 3)) w28) (
 F24_18 R l0 0 ds w27)
theorem c24_l : flat (bodyOf Try.f24) = [c24_0, c24_1, c24_2, c24_3, c24_4, c24_5, c24_6, c24_7, c24_8, c24_9, c24_10, c24_11] := by kernel_rfl
theorem c24_9_l : flat (innerC c24_9) = [c24_9_0] := by kernel_rfl
theorem c24_9_0_l : flat (innerC c24_9_0) = [c24_9_0_0, c24_9_0_1, c24_9_0_2, c24_9_0_3] := by kernel_rfl
theorem c24_9_0_2_l : flat (innerC c24_9_0_2) = [c24_9_0_2_0, c24_9_0_2_1, c24_9_0_2_2, c24_9_0_2_3, c24_9_0_2_4] := by kernel_rfl
theorem c24_9_0_2_4_l : flat (innerC c24_9_0_2_4) = [c24_9_0_2_4_0] := by kernel_rfl
theorem c24_9_0_2_4_0_l : flat (innerC c24_9_0_2_4_0) = [c24_9_0_2_4_0_0, c24_9_0_2_4_0_1, c24_9_0_2_4_0_2, c24_9_0_2_4_0_3] := by kernel_rfl
theorem c24_6_l : flat (innerC c24_6) = [c24_6_0] := by kernel_rfl
theorem c24_6_0_l : flat (innerC c24_6_0) = [c24_6_0_0, c24_6_0_1, c24_6_0_2, c24_6_0_3] := by kernel_rfl
theorem c24_4_l : flat (innerC c24_4) = [c24_4_0] := by kernel_rfl
theorem c24_4_0_l : flat (innerC c24_4_0) = [c24_4_0_0, c24_4_0_1, c24_4_0_2, c24_4_0_3] := by kernel_rfl
theorem F24_1_ok (R : Rt) (ds : Ds) (w : World) (ρ : Env) (h : F24_1 R ds w) :
    TrL Try.prog Try.f24.ntmps [c24_10, c24_11] (F24_q1 R) ρ ds w :=
  TrL_leaf (X := F24_1 R ds w) setAll_nil (by kernel_rfl) (by kernel_rfl) h
theorem F24_2_ok (R : Rt) (J1 : (Int) → World → Prop) (l0 : SV) (m5 : Option Nat) (m6 : Option Nat) (n7 : Int) (ds : Ds) (w : World) (ρ : Env) (e0 : ρ 0 = .slice l0.a l0.len l0.cap) (e5 : ρ 5 = .map m5) (e6 : ρ 6 = .map m6) (e7 : ρ 7 = .int .i64 n7) (h : F24_2 R J1 l0 m5 m6 n7 ds w) :
    TrL Try.prog Try.f24.ntmps [c24_9_0_3] (F24_q5 R J1) ρ ds w :=
  TrL_leaf (X := F24_2 R J1 l0 m5 m6 n7 ds w) (setAll_cons e0 (setAll_cons e5 (setAll_cons e6 (setAll_cons e7 setAll_nil)))) (by kernel_rfl) (by kernel_rfl) h
theorem F24_3_ok (R : Rt) (J1 : (Int) → World → Prop) (J2 : (Int) → World → Prop) (l0 : SV) (m5 : Option Nat) (m6 : Option Nat) (n7 : Int) (n8 : Int) (ds : Ds) (w : World) (ρ : Env) (e0 : ρ 0 = .slice l0.a l0.len l0.cap) (e5 : ρ 5 = .map m5) (e6 : ρ 6 = .map m6) (e7 : ρ 7 = .int .i64 n7) (e8 : ρ 8 = .int .i64 n8) (h : F24_3 R J1 J2 l0 m5 m6 n7 n8 ds w) :
    TrL Try.prog Try.f24.ntmps [c24_9_0_2_4_0_0, c24_9_0_2_4_0_1, c24_9_0_2_4_0_2, c24_9_0_2_4_0_3] (F24_q10 R J1 J2) ρ ds w :=
  TrL_leaf (X := F24_3 R J1 J2 l0 m5 m6 n7 n8 ds w) (setAll_cons e0 (setAll_cons e5 (setAll_cons e6 (setAll_cons e7 (setAll_cons e8 setAll_nil))))) (by kernel_rfl) (by kernel_rfl) h
theorem F24_4_ok (R : Rt) (J1 : (Int) → World → Prop) (l0 : SV) (m5 : Option Nat) (m6 : Option Nat) (n7 : Int) (n8 : Int) (ds : Ds) (w : World) (ρ : Env) (e0 : ρ 0 = .slice l0.a l0.len l0.cap) (e5 : ρ 5 = .map m5) (e6 : ρ 6 = .map m6) (e7 : ρ 7 = .int .i64 n7) (e8 : ρ 8 = .int .i64 n8) (h : F24_4 R J1 l0 m5 m6 n7 n8 ds w) :
    TrL Try.prog Try.f24.ntmps [c24_9_0_2_4_0] (F24_q9 R J1) ρ ds w :=
  TrL_one (Tr_loop' (c := innerC c24_9_0_2_4_0) (σ := Int) (enc := (fun (s : Int) (ρ : Env) => ρ 8 = .int .i64 s)) (D := (fun ρ K => dInt .i64 (ρ 8) fun n8 => K n8)) (F := (fun (J2 : (Int) → World → Prop) (s : Int) (w : World) => F24_3 R J1 J2 l0 m5 m6 n7 s ds w)) (s0 := n8) (by kernel_rfl) c24_9_0_2_4_0_l e8 (by kernel_rfl) (fun ρ K hD => by obtain ⟨n8, e8, hD⟩ := dInt_elim hD; exact ⟨n8, e8, hD⟩)
      (fun J2 s ρ' w' he ha hF => by
      have e8' := he
      exact F24_3_ok R J1 J2 l0 m5 m6 n7 s ds w' ρ' ((ha 0 (by kernel_rfl)).trans e0) ((ha 5 (by kernel_rfl)).trans e5) ((ha 6 (by kernel_rfl)).trans e6) ((ha 7 (by kernel_rfl)).trans e7) e8' hF) h)
theorem F24_5_ok (R : Rt) (J1 : (Int) → World → Prop) (l0 : SV) (m5 : Option Nat) (m6 : Option Nat) (n7 : Int) (n8 : Int) (ds : Ds) (w : World) (ρ : Env) (e0 : ρ 0 = .slice l0.a l0.len l0.cap) (e5 : ρ 5 = .map m5) (e6 : ρ 6 = .map m6) (e7 : ρ 7 = .int .i64 n7) (e8 : ρ 8 = .int .i64 n8) (h : F24_5 R J1 l0 m5 m6 n7 n8 ds w) :
    TrL Try.prog Try.f24.ntmps [c24_9_0_2_4] (F24_q8 R J1) ρ ds w :=
  TrL_one (Tr_block' (c := innerC c24_9_0_2_4) (by kernel_rfl) c24_9_0_2_4_l (F24_4_ok R J1 l0 m5 m6 n7 n8 ds w ρ e0 e5 e6 e7 e8 h))
theorem F24_6_ok (R : Rt) (J1 : (Int) → World → Prop) (l0 : SV) (m5 : Option Nat) (m6 : Option Nat) (n7 : Int) (ds : Ds) (w : World) (ρ : Env) (e0 : ρ 0 = .slice l0.a l0.len l0.cap) (e5 : ρ 5 = .map m5) (e6 : ρ 6 = .map m6) (e7 : ρ 7 = .int .i64 n7) (h : F24_6 R J1 l0 m5 m6 n7 ds w) :
    TrL Try.prog Try.f24.ntmps [c24_9_0_2_0, c24_9_0_2_1, c24_9_0_2_2, c24_9_0_2_3, c24_9_0_2_4] (F24_q8 R J1) ρ ds w :=
  TrL_piece (pre := [c24_9_0_2_0, c24_9_0_2_1, c24_9_0_2_2, c24_9_0_2_3]) (K := (F24_k11 R J1)) (X := F24_6 R J1 l0 m5 m6 n7 ds w) (setAll_cons e0 (setAll_cons e5 (setAll_cons e6 (setAll_cons e7 setAll_nil)))) (by kernel_rfl) (by kernel_rfl)
    (fun ρ' ds' w' hD => by
      obtain ⟨l0, e0, hD⟩ := dSl_elim hD; obtain ⟨m5, e5, hD⟩ := dMap_elim hD; obtain ⟨m6, e6, hD⟩ := dMap_elim hD; obtain ⟨n7, e7, hD⟩ := dInt_elim hD; obtain ⟨n8, e8, hD⟩ := dInt_elim hD; exact F24_5_ok R J1 l0 m5 m6 n7 n8 ds' w' ρ' e0 e5 e6 e7 e8 hD) h
theorem F24_7_ok (R : Rt) (J1 : (Int) → World → Prop) (l0 : SV) (m5 : Option Nat) (m6 : Option Nat) (n7 : Int) (ds : Ds) (w : World) (ρ : Env) (e0 : ρ 0 = .slice l0.a l0.len l0.cap) (e5 : ρ 5 = .map m5) (e6 : ρ 6 = .map m6) (e7 : ρ 7 = .int .i64 n7) (h : F24_7 R J1 l0 m5 m6 n7 ds w) :
    TrL Try.prog Try.f24.ntmps [c24_9_0_2, c24_9_0_3] (F24_q5 R J1) ρ ds w :=
  TrL_head (K := (F24_k6 R J1)) (Tr_block' (c := innerC c24_9_0_2) (by kernel_rfl) c24_9_0_2_l (F24_6_ok R J1 l0 m5 m6 n7 ds w ρ e0 e5 e6 e7 h))
    (fun ρ' ds' w' hD => by
      obtain ⟨l0, e0, hD⟩ := dSl_elim hD; obtain ⟨m5, e5, hD⟩ := dMap_elim hD; obtain ⟨m6, e6, hD⟩ := dMap_elim hD; obtain ⟨n7, e7, hD⟩ := dInt_elim hD; exact F24_2_ok R J1 l0 m5 m6 n7 ds' w' ρ' e0 e5 e6 e7 hD)
theorem F24_8_ok (R : Rt) (J1 : (Int) → World → Prop) (l0 : SV) (m5 : Option Nat) (m6 : Option Nat) (n7 : Int) (ds : Ds) (w : World) (ρ : Env) (e0 : ρ 0 = .slice l0.a l0.len l0.cap) (e5 : ρ 5 = .map m5) (e6 : ρ 6 = .map m6) (e7 : ρ 7 = .int .i64 n7) (h : F24_8 R J1 l0 m5 m6 n7 ds w) :
    TrL Try.prog Try.f24.ntmps [c24_9_0_0, c24_9_0_1, c24_9_0_2, c24_9_0_3] (F24_q5 R J1) ρ ds w :=
  TrL_piece (pre := [c24_9_0_0, c24_9_0_1]) (K := (F24_k12 R J1)) (X := F24_8 R J1 l0 m5 m6 n7 ds w) (setAll_cons e0 (setAll_cons e5 (setAll_cons e6 (setAll_cons e7 setAll_nil)))) (by kernel_rfl) (by kernel_rfl)
    (fun ρ' ds' w' hD => by
      obtain ⟨l0, e0, hD⟩ := dSl_elim hD; obtain ⟨m5, e5, hD⟩ := dMap_elim hD; obtain ⟨m6, e6, hD⟩ := dMap_elim hD; obtain ⟨n7, e7, hD⟩ := dInt_elim hD; exact F24_7_ok R J1 l0 m5 m6 n7 ds' w' ρ' e0 e5 e6 e7 hD) h
theorem F24_9_ok (R : Rt) (l0 : SV) (m5 : Option Nat) (m6 : Option Nat) (n7 : Int) (ds : Ds) (w : World) (ρ : Env) (e0 : ρ 0 = .slice l0.a l0.len l0.cap) (e5 : ρ 5 = .map m5) (e6 : ρ 6 = .map m6) (e7 : ρ 7 = .int .i64 n7) (h : F24_9 R l0 m5 m6 n7 ds w) :
    TrL Try.prog Try.f24.ntmps [c24_9_0] (F24_q4 R) ρ ds w :=
  TrL_one (Tr_loop' (c := innerC c24_9_0) (σ := Int) (enc := (fun (s : Int) (ρ : Env) => ρ 7 = .int .i64 s)) (D := (fun ρ K => dInt .i64 (ρ 7) fun n7 => K n7)) (F := (fun (J1 : (Int) → World → Prop) (s : Int) (w : World) => F24_8 R J1 l0 m5 m6 s ds w)) (s0 := n7) (by kernel_rfl) c24_9_0_l e7 (by kernel_rfl) (fun ρ K hD => by obtain ⟨n7, e7, hD⟩ := dInt_elim hD; exact ⟨n7, e7, hD⟩)
      (fun J1 s ρ' w' he ha hF => by
      have e7' := he
      exact F24_8_ok R J1 l0 m5 m6 s ds w' ρ' ((ha 0 (by kernel_rfl)).trans e0) ((ha 5 (by kernel_rfl)).trans e5) ((ha 6 (by kernel_rfl)).trans e6) e7' hF) h)
theorem F24_10_ok (R : Rt) (l0 : SV) (m5 : Option Nat) (m6 : Option Nat) (n7 : Int) (ds : Ds) (w : World) (ρ : Env) (e0 : ρ 0 = .slice l0.a l0.len l0.cap) (e5 : ρ 5 = .map m5) (e6 : ρ 6 = .map m6) (e7 : ρ 7 = .int .i64 n7) (h : F24_10 R l0 m5 m6 n7 ds w) :
    TrL Try.prog Try.f24.ntmps [c24_9, c24_10, c24_11] (F24_q1 R) ρ ds w :=
  TrL_head (K := (F24_k2 R)) (Tr_block' (c := innerC c24_9) (by kernel_rfl) c24_9_l (F24_9_ok R l0 m5 m6 n7 ds w ρ e0 e5 e6 e7 h))
    (fun ρ' ds' w' hD => by
      exact F24_1_ok R ds' w' ρ'  hD)
theorem F24_11_ok (R : Rt) (l0 : SV) (ds : Ds) (w : World) (ρ : Env) (e0 : ρ 0 = .slice l0.a l0.len l0.cap) (h : F24_11 R l0 ds w) :
    TrL Try.prog Try.f24.ntmps [c24_7, c24_8, c24_9, c24_10, c24_11] (F24_q1 R) ρ ds w :=
  TrL_piece (pre := [c24_7, c24_8]) (K := (F24_k13 R)) (X := F24_11 R l0 ds w) (setAll_cons e0 setAll_nil) (by kernel_rfl) (by kernel_rfl)
    (fun ρ' ds' w' hD => by
      obtain ⟨l0, e0, hD⟩ := dSl_elim hD; obtain ⟨m5, e5, hD⟩ := dMap_elim hD; obtain ⟨m6, e6, hD⟩ := dMap_elim hD; obtain ⟨n7, e7, hD⟩ := dInt_elim hD; exact F24_10_ok R l0 m5 m6 n7 ds' w' ρ' e0 e5 e6 e7 hD) h
theorem F24_12_ok (R : Rt) (J1 : (Int) → World → Prop) (l0 : SV) (n4 : Int) (ds : Ds) (w : World) (ρ : Env) (e0 : ρ 0 = .slice l0.a l0.len l0.cap) (e4 : ρ 4 = .int .i64 n4) (h : F24_12 R J1 l0 n4 ds w) :
    TrL Try.prog Try.f24.ntmps [c24_6_0_0, c24_6_0_1, c24_6_0_2, c24_6_0_3] (F24_q17 R J1) ρ ds w :=
  TrL_leaf (X := F24_12 R J1 l0 n4 ds w) (setAll_cons e0 (setAll_cons e4 setAll_nil)) (by kernel_rfl) (by kernel_rfl) h
theorem F24_13_ok (R : Rt) (l0 : SV) (n4 : Int) (ds : Ds) (w : World) (ρ : Env) (e0 : ρ 0 = .slice l0.a l0.len l0.cap) (e4 : ρ 4 = .int .i64 n4) (h : F24_13 R l0 n4 ds w) :
    TrL Try.prog Try.f24.ntmps [c24_6_0] (F24_q16 R) ρ ds w :=
  TrL_one (Tr_loop' (c := innerC c24_6_0) (σ := Int) (enc := (fun (s : Int) (ρ : Env) => ρ 4 = .int .i64 s)) (D := (fun ρ K => dInt .i64 (ρ 4) fun n4 => K n4)) (F := (fun (J1 : (Int) → World → Prop) (s : Int) (w : World) => F24_12 R J1 l0 s ds w)) (s0 := n4) (by kernel_rfl) c24_6_0_l e4 (by kernel_rfl) (fun ρ K hD => by obtain ⟨n4, e4, hD⟩ := dInt_elim hD; exact ⟨n4, e4, hD⟩)
      (fun J1 s ρ' w' he ha hF => by
      have e4' := he
      exact F24_12_ok R J1 l0 s ds w' ρ' ((ha 0 (by kernel_rfl)).trans e0) e4' hF) h)
theorem F24_14_ok (R : Rt) (l0 : SV) (n4 : Int) (ds : Ds) (w : World) (ρ : Env) (e0 : ρ 0 = .slice l0.a l0.len l0.cap) (e4 : ρ 4 = .int .i64 n4) (h : F24_14 R l0 n4 ds w) :
    TrL Try.prog Try.f24.ntmps [c24_6, c24_7, c24_8, c24_9, c24_10, c24_11] (F24_q1 R) ρ ds w :=
  TrL_head (K := (F24_k14 R)) (Tr_block' (c := innerC c24_6) (by kernel_rfl) c24_6_l (F24_13_ok R l0 n4 ds w ρ e0 e4 h))
    (fun ρ' ds' w' hD => by
      obtain ⟨l0, e0, hD⟩ := dSl_elim hD; exact F24_11_ok R l0 ds' w' ρ' e0 hD)
theorem F24_15_ok (R : Rt) (l0 : SV) (ds : Ds) (w : World) (ρ : Env) (e0 : ρ 0 = .slice l0.a l0.len l0.cap) (h : F24_15 R l0 ds w) :
    TrL Try.prog Try.f24.ntmps [c24_5, c24_6, c24_7, c24_8, c24_9, c24_10, c24_11] (F24_q1 R) ρ ds w :=
  TrL_piece (pre := [c24_5]) (K := (F24_k18 R)) (X := F24_15 R l0 ds w) (setAll_cons e0 setAll_nil) (by kernel_rfl) (by kernel_rfl)
    (fun ρ' ds' w' hD => by
      obtain ⟨l0, e0, hD⟩ := dSl_elim hD; obtain ⟨n4, e4, hD⟩ := dInt_elim hD; exact F24_14_ok R l0 n4 ds' w' ρ' e0 e4 hD) h
theorem F24_16_ok (R : Rt) (J1 : (Int) → World → Prop) (l0 : SV) (n3 : Int) (ds : Ds) (w : World) (ρ : Env) (e0 : ρ 0 = .slice l0.a l0.len l0.cap) (e3 : ρ 3 = .int .i64 n3) (h : F24_16 R J1 l0 n3 ds w) :
    TrL Try.prog Try.f24.ntmps [c24_4_0_0, c24_4_0_1, c24_4_0_2, c24_4_0_3] (F24_q22 R J1) ρ ds w :=
  TrL_leaf (X := F24_16 R J1 l0 n3 ds w) (setAll_cons e0 (setAll_cons e3 setAll_nil)) (by kernel_rfl) (by kernel_rfl) h
theorem F24_17_ok (R : Rt) (l0 : SV) (n3 : Int) (ds : Ds) (w : World) (ρ : Env) (e0 : ρ 0 = .slice l0.a l0.len l0.cap) (e3 : ρ 3 = .int .i64 n3) (h : F24_17 R l0 n3 ds w) :
    TrL Try.prog Try.f24.ntmps [c24_4_0] (F24_q21 R) ρ ds w :=
  TrL_one (Tr_loop' (c := innerC c24_4_0) (σ := Int) (enc := (fun (s : Int) (ρ : Env) => ρ 3 = .int .i64 s)) (D := (fun ρ K => dInt .i64 (ρ 3) fun n3 => K n3)) (F := (fun (J1 : (Int) → World → Prop) (s : Int) (w : World) => F24_16 R J1 l0 s ds w)) (s0 := n3) (by kernel_rfl) c24_4_0_l e3 (by kernel_rfl) (fun ρ K hD => by obtain ⟨n3, e3, hD⟩ := dInt_elim hD; exact ⟨n3, e3, hD⟩)
      (fun J1 s ρ' w' he ha hF => by
      have e3' := he
      exact F24_16_ok R J1 l0 s ds w' ρ' ((ha 0 (by kernel_rfl)).trans e0) e3' hF) h)
theorem F24_18_ok (R : Rt) (l0 : SV) (n3 : Int) (ds : Ds) (w : World) (ρ : Env) (e0 : ρ 0 = .slice l0.a l0.len l0.cap) (e3 : ρ 3 = .int .i64 n3) (h : F24_18 R l0 n3 ds w) :
    TrL Try.prog Try.f24.ntmps [c24_4, c24_5, c24_6, c24_7, c24_8, c24_9, c24_10, c24_11] (F24_q1 R) ρ ds w :=
  TrL_head (K := (F24_k19 R)) (Tr_block' (c := innerC c24_4) (by kernel_rfl) c24_4_l (F24_17_ok R l0 n3 ds w ρ e0 e3 h))
    (fun ρ' ds' w' hD => by
      obtain ⟨l0, e0, hD⟩ := dSl_elim hD; exact F24_15_ok R l0 ds' w' ρ' e0 hD)
theorem F24_19_ok (R : Rt) (l0 : SV) (ds : Ds) (w : World) (ρ : Env) (e0 : ρ 0 = .slice l0.a l0.len l0.cap) (h : F24_19 R l0 ds w) :
    TrL Try.prog Try.f24.ntmps [c24_0, c24_1, c24_2, c24_3, c24_4, c24_5, c24_6, c24_7, c24_8, c24_9, c24_10, c24_11] (F24_q1 R) ρ ds w :=
  TrL_piece (pre := [c24_0, c24_1, c24_2, c24_3]) (K := (F24_k23 R)) (X := F24_19 R l0 ds w) (setAll_cons e0 setAll_nil) (by kernel_rfl) (by kernel_rfl)
    (fun ρ' ds' w' hD => by
      obtain ⟨l0, e0, hD⟩ := dSl_elim hD; obtain ⟨n3, e3, hD⟩ := dInt_elim hD; exact F24_18_ok R l0 n3 ds' w' ρ' e0 e3 hD) h
theorem F24_calls (l0 : SV) (w : World) (R : Rt) (h : F24_19 R l0 [] w) : Calls Try.prog 24 #[.slice l0.a l0.len l0.cap] w R :=
  calls_of_L (l := [c24_0, c24_1, c24_2, c24_3, c24_4, c24_5, c24_6, c24_7, c24_8, c24_9, c24_10, c24_11]) Try.func24 (by kernel_rfl) (by rw [Try.ntmps24]; exact Nat.le_of_ble_eq_true (by kernel_rfl)) c24_l
    (F24_19_ok R l0 [] w _ rfl h)
theorem F24_callsD (l0 : SV) (w : World) (R : Rt) (u : FrameMode) (h : F24_19 R l0 [] w) : CallsD Try.prog 24 #[.slice l0.a l0.len l0.cap] u w fun e u' w' => u' = u ∧ R e w' :=
  callsD_of_L (l := [c24_0, c24_1, c24_2, c24_3, c24_4, c24_5, c24_6, c24_7, c24_8, c24_9, c24_10, c24_11]) Try.func24 (by kernel_rfl) (by rw [Try.ntmps24]; exact Nat.le_of_ble_eq_true (by kernel_rfl)) (by kernel_rfl) c24_l
    (F24_19_ok R l0 [] w _ rfl h) u

/-! function 51: cabinetry/cabinetryref24.from -/
noncomputable def c51_0 : Code := itemAt (flat (bodyOf Try.f51)) 0
noncomputable def c51_1 : Code := itemAt (flat (bodyOf Try.f51)) 1
noncomputable def c51_2 : Code := itemAt (flat (bodyOf Try.f51)) 2
noncomputable def c51_3 : Code := itemAt (flat (bodyOf Try.f51)) 3
noncomputable def c51_4 : Code := itemAt (flat (bodyOf Try.f51)) 4
noncomputable def c51_5 : Code := itemAt (flat (bodyOf Try.f51)) 5
noncomputable def c51_6 : Code := itemAt (flat (bodyOf Try.f51)) 6
noncomputable def c51_7 : Code := itemAt (flat (bodyOf Try.f51)) 7
noncomputable def c51_8 : Code := itemAt (flat (bodyOf Try.f51)) 8
noncomputable def c51_9 : Code := itemAt (flat (bodyOf Try.f51)) 9
def F51_q1 (R : Rt) : EQ := endQ Try.prog Try.f51.results.toList R
def F51_1 (R : Rt) (l0 : SV) (s1 : ByteArray) (ds : Ds) (w : World) : Prop :=
 Calls Try.prog 63 #[.slice l0.a l0.len l0.cap] w fun e w1 =>
 ∃ n11 : Int, e = .returned (.int .i64 n11) ∧
 Br (n11 != 0) (
 runD Try.prog ds w1 fun w2 =>
 R (.returned (.tuple #[.slice none 0 0, .int .i64 0, .int .i64 n11])) w2) (
 Calls Try.prog 59 #[.slice l0.a l0.len l0.cap] w1 fun e w3 =>
 ∃ l16 : SV, e = .returned (.slice l16.a l16.len l16.cap) ∧
 Calls Try.prog 52 #[.slice l16.a l16.len l16.cap, .string s1] w3 fun e w4 =>
 ∃ n19 : Int, e = .returned (.int .i64 n19) ∧
 Br (decide (n19 < 0)) (
 runD Try.prog ds w4 fun w5 =>
 R (.returned (.tuple #[.slice none 0 0, .int .i64 0, .int .i64 4])) w5) (
 runD Try.prog ds w4 fun w6 =>
 R (.returned (.tuple #[.slice l16.a l16.len l16.cap, .int .i64 n19, .int .i64 0])) w6))
theorem c51_l : flat (bodyOf Try.f51) = [c51_0, c51_1, c51_2, c51_3, c51_4, c51_5, c51_6, c51_7, c51_8, c51_9] := by kernel_rfl
theorem F51_1_ok (R : Rt) (l0 : SV) (s1 : ByteArray) (ds : Ds) (w : World) (ρ : Env) (e0 : ρ 0 = .slice l0.a l0.len l0.cap) (e1 : ρ 1 = .string s1) (h : F51_1 R l0 s1 ds w) :
    TrL Try.prog Try.f51.ntmps [c51_0, c51_1, c51_2, c51_3, c51_4, c51_5, c51_6, c51_7, c51_8, c51_9] (F51_q1 R) ρ ds w :=
  TrL_leaf (X := F51_1 R l0 s1 ds w) (setAll_cons e0 (setAll_cons e1 setAll_nil)) (by kernel_rfl) (by kernel_rfl) h
theorem F51_calls (l0 : SV) (s1 : ByteArray) (w : World) (R : Rt) (h : F51_1 R l0 s1 [] w) : Calls Try.prog 51 #[.slice l0.a l0.len l0.cap, .string s1] w R :=
  calls_of_L (l := [c51_0, c51_1, c51_2, c51_3, c51_4, c51_5, c51_6, c51_7, c51_8, c51_9]) Try.func51 (by kernel_rfl) (by rw [Try.ntmps51]; exact Nat.le_of_ble_eq_true (by kernel_rfl)) c51_l
    (F51_1_ok R l0 s1 [] w _ rfl rfl h)
theorem F51_callsD (l0 : SV) (s1 : ByteArray) (w : World) (R : Rt) (u : FrameMode) (h : F51_1 R l0 s1 [] w) : CallsD Try.prog 51 #[.slice l0.a l0.len l0.cap, .string s1] u w fun e u' w' => u' = u ∧ R e w' :=
  callsD_of_L (l := [c51_0, c51_1, c51_2, c51_3, c51_4, c51_5, c51_6, c51_7, c51_8, c51_9]) Try.func51 (by kernel_rfl) (by rw [Try.ntmps51]; exact Nat.le_of_ble_eq_true (by kernel_rfl)) (by kernel_rfl) c51_l
    (F51_1_ok R l0 s1 [] w _ rfl rfl h) u

/-! function 52: cabinetry/cabinetryref24.find -/
noncomputable def c52_0 : Code := itemAt (flat (bodyOf Try.f52)) 0
noncomputable def c52_1 : Code := itemAt (flat (bodyOf Try.f52)) 1
noncomputable def c52_2 : Code := itemAt (flat (bodyOf Try.f52)) 2
noncomputable def c52_3 : Code := itemAt (flat (bodyOf Try.f52)) 3
noncomputable def c52_4 : Code := itemAt (flat (bodyOf Try.f52)) 4
noncomputable def c52_2_0 : Code := itemAt (flat (innerC c52_2)) 0
noncomputable def c52_2_0_0 : Code := itemAt (flat (innerC c52_2_0)) 0
noncomputable def c52_2_0_1 : Code := itemAt (flat (innerC c52_2_0)) 1
noncomputable def c52_2_0_2 : Code := itemAt (flat (innerC c52_2_0)) 2
noncomputable def c52_2_0_3 : Code := itemAt (flat (innerC c52_2_0)) 3
def F52_q1 (R : Rt) : EQ := endQ Try.prog Try.f52.results.toList R
def F52_1 (R : Rt) (ds : Ds) (w : World) : Prop :=
 runD Try.prog ds w fun w1 =>
 R (.returned (.int .i64 (-1))) w1
def F52_k2 (R : Rt) : EP := (fun ρ ds w => F52_1 R ds w)
def F52_q3 (R : Rt) : EQ := (thenQ (F52_k2 R) (F52_q1 R))
def F52_q4 (R : Rt) : EQ := (blockQ 0 (F52_q3 R))
def F52_q5 (R : Rt) (J1 : (Int) → World → Prop) : EQ := (thenQ (fun ρ _ w => dInt .i64 (ρ 5) fun n5 => J1 n5 w) (F52_q4 R))
def F52_2 (R : Rt) (J1 : (Int) → World → Prop) (l0 : SV) (s1 : ByteArray) (n5 : Int) (ds : Ds) (w : World) : Prop :=
 Br (decide (n5 < ((l0.len : Nat) : Int))) (
 ∃ a2 : Addr, l0.a = some a2 ∧ 0 ≤ n5 ∧ n5 < ((l0.len : Nat) : Int) ∧
 ∃ s16 : ByteArray, w.cell? (a2.add (n5.toNat * 4)) = some (.string s16) ∧
 Br (s16.toList == s1.toList) (
 runD Try.prog ds w fun w3 =>
 R (.returned (.int .i64 n5)) w3) (
 J1 (IntKind.i64.wrap (n5 + 1)) w)) (
 F52_1 R ds w)
def F52_3 (R : Rt) (l0 : SV) (s1 : ByteArray) (n5 : Int) (ds : Ds) (w : World) : Prop :=
 loopT (fun (J1 : (Int) → World → Prop) (s : Int) (w : World) => F52_2 R J1 l0 s1 s ds w) n5 w
@[reducible] def F52_4 (R : Rt) (l0 : SV) (s1 : ByteArray) (n5 : Int) (ds : Ds) (w : World) : Prop := F52_3 R l0 s1 n5 ds w
def F52_k6 (R : Rt) : EP := (fun ρ ds w => dSl (ρ 0) fun l0 => dStr (ρ 1) fun s1 => dInt .i64 (ρ 5) fun n5 => F52_4 R l0 s1 n5 ds w)
def F52_5 (R : Rt) (l0 : SV) (s1 : ByteArray) (ds : Ds) (w : World) : Prop :=
 F52_4 R l0 s1 0 ds w
theorem c52_l : flat (bodyOf Try.f52) = [c52_0, c52_1, c52_2, c52_3, c52_4] := by kernel_rfl
theorem c52_2_l : flat (innerC c52_2) = [c52_2_0] := by kernel_rfl
theorem c52_2_0_l : flat (innerC c52_2_0) = [c52_2_0_0, c52_2_0_1, c52_2_0_2, c52_2_0_3] := by kernel_rfl
theorem F52_1_ok (R : Rt) (ds : Ds) (w : World) (ρ : Env) (h : F52_1 R ds w) :
    TrL Try.prog Try.f52.ntmps [c52_3, c52_4] (F52_q1 R) ρ ds w :=
  TrL_leaf (X := F52_1 R ds w) setAll_nil (by kernel_rfl) (by kernel_rfl) h
theorem F52_2_ok (R : Rt) (J1 : (Int) → World → Prop) (l0 : SV) (s1 : ByteArray) (n5 : Int) (ds : Ds) (w : World) (ρ : Env) (e0 : ρ 0 = .slice l0.a l0.len l0.cap) (e1 : ρ 1 = .string s1) (e5 : ρ 5 = .int .i64 n5) (h : F52_2 R J1 l0 s1 n5 ds w) :
    TrL Try.prog Try.f52.ntmps [c52_2_0_0, c52_2_0_1, c52_2_0_2, c52_2_0_3] (F52_q5 R J1) ρ ds w :=
  TrL_leaf (X := F52_2 R J1 l0 s1 n5 ds w) (setAll_cons e0 (setAll_cons e1 (setAll_cons e5 setAll_nil))) (by kernel_rfl) (by kernel_rfl) h
theorem F52_3_ok (R : Rt) (l0 : SV) (s1 : ByteArray) (n5 : Int) (ds : Ds) (w : World) (ρ : Env) (e0 : ρ 0 = .slice l0.a l0.len l0.cap) (e1 : ρ 1 = .string s1) (e5 : ρ 5 = .int .i64 n5) (h : F52_3 R l0 s1 n5 ds w) :
    TrL Try.prog Try.f52.ntmps [c52_2_0] (F52_q4 R) ρ ds w :=
  TrL_one (Tr_loop' (c := innerC c52_2_0) (σ := Int) (enc := (fun (s : Int) (ρ : Env) => ρ 5 = .int .i64 s)) (D := (fun ρ K => dInt .i64 (ρ 5) fun n5 => K n5)) (F := (fun (J1 : (Int) → World → Prop) (s : Int) (w : World) => F52_2 R J1 l0 s1 s ds w)) (s0 := n5) (by kernel_rfl) c52_2_0_l e5 (by kernel_rfl) (fun ρ K hD => by obtain ⟨n5, e5, hD⟩ := dInt_elim hD; exact ⟨n5, e5, hD⟩)
      (fun J1 s ρ' w' he ha hF => by
      have e5' := he
      exact F52_2_ok R J1 l0 s1 s ds w' ρ' ((ha 0 (by kernel_rfl)).trans e0) ((ha 1 (by kernel_rfl)).trans e1) e5' hF) h)
theorem F52_4_ok (R : Rt) (l0 : SV) (s1 : ByteArray) (n5 : Int) (ds : Ds) (w : World) (ρ : Env) (e0 : ρ 0 = .slice l0.a l0.len l0.cap) (e1 : ρ 1 = .string s1) (e5 : ρ 5 = .int .i64 n5) (h : F52_4 R l0 s1 n5 ds w) :
    TrL Try.prog Try.f52.ntmps [c52_2, c52_3, c52_4] (F52_q1 R) ρ ds w :=
  TrL_head (K := (F52_k2 R)) (Tr_block' (c := innerC c52_2) (by kernel_rfl) c52_2_l (F52_3_ok R l0 s1 n5 ds w ρ e0 e1 e5 h))
    (fun ρ' ds' w' hD => by
      exact F52_1_ok R ds' w' ρ'  hD)
theorem F52_5_ok (R : Rt) (l0 : SV) (s1 : ByteArray) (ds : Ds) (w : World) (ρ : Env) (e0 : ρ 0 = .slice l0.a l0.len l0.cap) (e1 : ρ 1 = .string s1) (h : F52_5 R l0 s1 ds w) :
    TrL Try.prog Try.f52.ntmps [c52_0, c52_1, c52_2, c52_3, c52_4] (F52_q1 R) ρ ds w :=
  TrL_piece (pre := [c52_0, c52_1]) (K := (F52_k6 R)) (X := F52_5 R l0 s1 ds w) (setAll_cons e0 (setAll_cons e1 setAll_nil)) (by kernel_rfl) (by kernel_rfl)
    (fun ρ' ds' w' hD => by
      obtain ⟨l0, e0, hD⟩ := dSl_elim hD; obtain ⟨s1, e1, hD⟩ := dStr_elim hD; obtain ⟨n5, e5, hD⟩ := dInt_elim hD; exact F52_4_ok R l0 s1 n5 ds' w' ρ' e0 e1 e5 hD) h
theorem F52_calls (l0 : SV) (s1 : ByteArray) (w : World) (R : Rt) (h : F52_5 R l0 s1 [] w) : Calls Try.prog 52 #[.slice l0.a l0.len l0.cap, .string s1] w R :=
  calls_of_L (l := [c52_0, c52_1, c52_2, c52_3, c52_4]) Try.func52 (by kernel_rfl) (by rw [Try.ntmps52]; exact Nat.le_of_ble_eq_true (by kernel_rfl)) c52_l
    (F52_5_ok R l0 s1 [] w _ rfl rfl h)
theorem F52_callsD (l0 : SV) (s1 : ByteArray) (w : World) (R : Rt) (u : FrameMode) (h : F52_5 R l0 s1 [] w) : CallsD Try.prog 52 #[.slice l0.a l0.len l0.cap, .string s1] u w fun e u' w' => u' = u ∧ R e w' :=
  callsD_of_L (l := [c52_0, c52_1, c52_2, c52_3, c52_4]) Try.func52 (by kernel_rfl) (by rw [Try.ntmps52]; exact Nat.le_of_ble_eq_true (by kernel_rfl)) (by kernel_rfl) c52_l
    (F52_5_ok R l0 s1 [] w _ rfl rfl h) u

/-! function 55: cabinetry/cabinetryref24.missing -/
noncomputable def c55_0 : Code := itemAt (flat (bodyOf Try.f55)) 0
noncomputable def c55_1 : Code := itemAt (flat (bodyOf Try.f55)) 1
noncomputable def c55_2 : Code := itemAt (flat (bodyOf Try.f55)) 2
noncomputable def c55_3 : Code := itemAt (flat (bodyOf Try.f55)) 3
noncomputable def c55_4 : Code := itemAt (flat (bodyOf Try.f55)) 4
noncomputable def c55_5 : Code := itemAt (flat (bodyOf Try.f55)) 5
noncomputable def c55_6 : Code := itemAt (flat (bodyOf Try.f55)) 6
noncomputable def c55_4_0 : Code := itemAt (flat (innerC c55_4)) 0
noncomputable def c55_4_0_0 : Code := itemAt (flat (innerC c55_4_0)) 0
noncomputable def c55_4_0_1 : Code := itemAt (flat (innerC c55_4_0)) 1
noncomputable def c55_4_0_2 : Code := itemAt (flat (innerC c55_4_0)) 2
noncomputable def c55_4_0_3 : Code := itemAt (flat (innerC c55_4_0)) 3
noncomputable def c55_4_0_2_0 : Code := itemAt (flat (innerC c55_4_0_2)) 0
noncomputable def c55_4_0_2_1 : Code := itemAt (flat (innerC c55_4_0_2)) 1
noncomputable def c55_4_0_2_1_0 : Code := itemAt (flat (innerC c55_4_0_2_1)) 0
noncomputable def c55_4_0_2_1_0_0 : Code := itemAt (flat (innerC c55_4_0_2_1_0)) 0
noncomputable def c55_4_0_2_1_0_1 : Code := itemAt (flat (innerC c55_4_0_2_1_0)) 1
noncomputable def c55_4_0_2_1_0_2 : Code := itemAt (flat (innerC c55_4_0_2_1_0)) 2
noncomputable def c55_4_0_2_1_0_3 : Code := itemAt (flat (innerC c55_4_0_2_1_0)) 3
def F55_q1 (R : Rt) : EQ := endQ Try.prog Try.f55.results.toList R
def F55_1 (R : Rt) (l4 : SV) (ds : Ds) (w : World) : Prop :=
 Calls Try.prog 68 #[.slice l4.a l4.len l4.cap] w fun e w1 =>
 ∃ l48 : SV, e = .returned (.slice l48.a l48.len l48.cap) ∧
 runD Try.prog ds w1 fun w2 =>
 R (.returned (.slice l48.a l48.len l48.cap)) w2
def F55_k2 (R : Rt) : EP := (fun ρ ds w => dSl (ρ 4) fun l4 => F55_1 R l4 ds w)
def F55_q3 (R : Rt) : EQ := (thenQ (F55_k2 R) (F55_q1 R))
def F55_q4 (R : Rt) : EQ := (blockQ 0 (F55_q3 R))
def F55_q5 (R : Rt) (J1 : (SV × Int) → World → Prop) : EQ := (thenQ (fun ρ _ w => dSl (ρ 4) fun l4 => dInt .i64 (ρ 5) fun n5 => J1 (l4, n5) w) (F55_q4 R))
def F55_2 (R : Rt) (J1 : (SV × Int) → World → Prop) (l3 : SV) (l4 : SV) (n5 : Int) (ds : Ds) (w : World) : Prop :=
 J1 (l4, (IntKind.i64.wrap (n5 + 1))) w
def F55_k6 (R : Rt) (J1 : (SV × Int) → World → Prop) : EP := (fun ρ ds w => dSl (ρ 3) fun l3 => dSl (ρ 4) fun l4 => dInt .i64 (ρ 5) fun n5 => F55_2 R J1 l3 l4 n5 ds w)
def F55_q7 (R : Rt) (J1 : (SV × Int) → World → Prop) : EQ := (thenQ (F55_k6 R J1) (F55_q5 R J1))
def F55_q8 (R : Rt) (J1 : (SV × Int) → World → Prop) : EQ := (blockQ 1 (F55_q7 R J1))
def F55_q9 (R : Rt) (J1 : (SV × Int) → World → Prop) : EQ := (blockQ 2 (F55_q8 R J1))
def F55_q10 (R : Rt) (J1 : (SV × Int) → World → Prop) (J2 : (SV × Int) → World → Prop) : EQ := (thenQ (fun ρ _ w => dSl (ρ 4) fun l4 => dInt .i64 (ρ 6) fun n6 => J2 (l4, n6) w) (F55_q9 R J1))
def F55_3 (R : Rt) (J1 : (SV × Int) → World → Prop) (J2 : (SV × Int) → World → Prop) (l3 : SV) (l4 : SV) (n5 : Int) (n6 : Int) (ds : Ds) (w : World) : Prop :=
 ∃ a3 : Addr, l3.a = some a3 ∧ 0 ≤ n5 ∧ n5 < ((l3.len : Nat) : Int) ∧
 ∃ l20 : SV, w.cell? ((a3.add (n5.toNat * 4)).add 3) = some (.slice l20.a l20.len l20.cap) ∧
 Br (decide (n6 < ((l20.len : Nat) : Int))) (
 ∃ a4 : Addr, l3.a = some a4 ∧ 0 ≤ n5 ∧ n5 < ((l3.len : Nat) : Int) ∧
 ∃ l30 : SV, w.cell? ((a4.add (n5.toNat * 4)).add 3) = some (.slice l30.a l30.len l30.cap) ∧
 ∃ a5 : Addr, l30.a = some a5 ∧ 0 ≤ n6 ∧ n6 < ((l30.len : Nat) : Int) ∧
 ∃ s33 : ByteArray, w.cell? (a5.add (n6.toNat * 1)) = some (.string s33) ∧
 Calls Try.prog 52 #[.slice l3.a l3.len l3.cap, .string s33] w fun e w6 =>
 ∃ n34 : Int, e = .returned (.int .i64 n34) ∧
 Br (decide (n34 < 0)) (
 ∃ a7 : Addr, l3.a = some a7 ∧ 0 ≤ n5 ∧ n5 < ((l3.len : Nat) : Int) ∧
 ∃ l41 : SV, w6.cell? ((a7.add (n5.toNat * 4)).add 3) = some (.slice l41.a l41.len l41.cap) ∧
 ∃ a8 : Addr, l41.a = some a8 ∧ 0 ≤ n6 ∧ n6 < ((l41.len : Nat) : Int) ∧
 ∃ s44 : ByteArray, w6.cell? (a8.add (n6.toNat * 1)) = some (.string s44) ∧
 alE (.cells #[.string s44] 9) w6 fun r45 w9 =>
 ∃ l46 : SV, ∃ w10 : World, (Builtin.append_ #[23, 23] 23 #[.slice l4.a l4.len l4.cap, .slice (some ⟨r45, 0, none⟩) 1 1]).run Try.prog w9 = .ok (.slice l46.a l46.len l46.cap) w10 ∧
 J2 (l46, (IntKind.i64.wrap (n6 + 1))) w10) (
 J2 (l4, (IntKind.i64.wrap (n6 + 1))) w6)) (
 F55_2 R J1 l3 l4 n5 ds w)
def F55_4 (R : Rt) (J1 : (SV × Int) → World → Prop) (l3 : SV) (l4 : SV) (n5 : Int) (n6 : Int) (ds : Ds) (w : World) : Prop :=
 loopT (fun (J2 : (SV × Int) → World → Prop) (s : SV × Int) (w : World) => F55_3 R J1 J2 l3 s.1 n5 s.2 ds w) (l4, n6) w
@[reducible] def F55_5 (R : Rt) (J1 : (SV × Int) → World → Prop) (l3 : SV) (l4 : SV) (n5 : Int) (n6 : Int) (ds : Ds) (w : World) : Prop := F55_4 R J1 l3 l4 n5 n6 ds w
def F55_k11 (R : Rt) (J1 : (SV × Int) → World → Prop) : EP := (fun ρ ds w => dSl (ρ 3) fun l3 => dSl (ρ 4) fun l4 => dInt .i64 (ρ 5) fun n5 => dInt .i64 (ρ 6) fun n6 => F55_5 R J1 l3 l4 n5 n6 ds w)
def F55_6 (R : Rt) (J1 : (SV × Int) → World → Prop) (l3 : SV) (l4 : SV) (n5 : Int) (ds : Ds) (w : World) : Prop :=
 F55_5 R J1 l3 l4 n5 0 ds w
@[reducible] def F55_7 (R : Rt) (J1 : (SV × Int) → World → Prop) (l3 : SV) (l4 : SV) (n5 : Int) (ds : Ds) (w : World) : Prop := F55_6 R J1 l3 l4 n5 ds w
def F55_k12 (R : Rt) (J1 : (SV × Int) → World → Prop) : EP := (fun ρ ds w => dSl (ρ 3) fun l3 => dSl (ρ 4) fun l4 => dInt .i64 (ρ 5) fun n5 => F55_7 R J1 l3 l4 n5 ds w)
def F55_8 (R : Rt) (J1 : (SV × Int) → World → Prop) (l3 : SV) (l4 : SV) (n5 : Int) (ds : Ds) (w : World) : Prop :=
 Br (decide (n5 < ((l3.len : Nat) : Int))) (
 F55_7 R J1 l3 l4 n5 ds w) (
 F55_1 R l4 ds w)
def F55_9 (R : Rt) (l3 : SV) (l4 : SV) (n5 : Int) (ds : Ds) (w : World) : Prop :=
 loopT (fun (J1 : (SV × Int) → World → Prop) (s : SV × Int) (w : World) => F55_8 R J1 l3 s.1 s.2 ds w) (l4, n5) w
@[reducible] def F55_10 (R : Rt) (l3 : SV) (l4 : SV) (n5 : Int) (ds : Ds) (w : World) : Prop := F55_9 R l3 l4 n5 ds w
def F55_k13 (R : Rt) : EP := (fun ρ ds w => dSl (ρ 3) fun l3 => dSl (ρ 4) fun l4 => dInt .i64 (ρ 5) fun n5 => F55_10 R l3 l4 n5 ds w)
def F55_11 (R : Rt) (l0 : SV) (ds : Ds) (w : World) : Prop :=
 Calls Try.prog 59 #[.slice l0.a l0.len l0.cap] w fun e w11 =>
 ∃ l8 : SV, e = .returned (.slice l8.a l8.len l8.cap) ∧
 F55_10 R l8 ⟨none, 0, 0⟩ 0 ds w11
theorem c55_l : flat (bodyOf Try.f55) = [c55_0, c55_1, c55_2, c55_3, c55_4, c55_5, c55_6] := by kernel_rfl
theorem c55_4_l : flat (innerC c55_4) = [c55_4_0] := by kernel_rfl
theorem c55_4_0_l : flat (innerC c55_4_0) = [c55_4_0_0, c55_4_0_1, c55_4_0_2, c55_4_0_3] := by kernel_rfl
theorem c55_4_0_2_l : flat (innerC c55_4_0_2) = [c55_4_0_2_0, c55_4_0_2_1] := by kernel_rfl
theorem c55_4_0_2_1_l : flat (innerC c55_4_0_2_1) = [c55_4_0_2_1_0] := by kernel_rfl
theorem c55_4_0_2_1_0_l : flat (innerC c55_4_0_2_1_0) = [c55_4_0_2_1_0_0, c55_4_0_2_1_0_1, c55_4_0_2_1_0_2, c55_4_0_2_1_0_3] := by kernel_rfl
theorem F55_1_ok (R : Rt) (l4 : SV) (ds : Ds) (w : World) (ρ : Env) (e4 : ρ 4 = .slice l4.a l4.len l4.cap) (h : F55_1 R l4 ds w) :
    TrL Try.prog Try.f55.ntmps [c55_5, c55_6] (F55_q1 R) ρ ds w :=
  TrL_leaf (X := F55_1 R l4 ds w) (setAll_cons e4 setAll_nil) (by kernel_rfl) (by kernel_rfl) h
theorem F55_2_ok (R : Rt) (J1 : (SV × Int) → World → Prop) (l3 : SV) (l4 : SV) (n5 : Int) (ds : Ds) (w : World) (ρ : Env) (e3 : ρ 3 = .slice l3.a l3.len l3.cap) (e4 : ρ 4 = .slice l4.a l4.len l4.cap) (e5 : ρ 5 = .int .i64 n5) (h : F55_2 R J1 l3 l4 n5 ds w) :
    TrL Try.prog Try.f55.ntmps [c55_4_0_3] (F55_q5 R J1) ρ ds w :=
  TrL_leaf (X := F55_2 R J1 l3 l4 n5 ds w) (setAll_cons e3 (setAll_cons e4 (setAll_cons e5 setAll_nil))) (by kernel_rfl) (by kernel_rfl) h
theorem F55_3_ok (R : Rt) (J1 : (SV × Int) → World → Prop) (J2 : (SV × Int) → World → Prop) (l3 : SV) (l4 : SV) (n5 : Int) (n6 : Int) (ds : Ds) (w : World) (ρ : Env) (e3 : ρ 3 = .slice l3.a l3.len l3.cap) (e4 : ρ 4 = .slice l4.a l4.len l4.cap) (e5 : ρ 5 = .int .i64 n5) (e6 : ρ 6 = .int .i64 n6) (h : F55_3 R J1 J2 l3 l4 n5 n6 ds w) :
    TrL Try.prog Try.f55.ntmps [c55_4_0_2_1_0_0, c55_4_0_2_1_0_1, c55_4_0_2_1_0_2, c55_4_0_2_1_0_3] (F55_q10 R J1 J2) ρ ds w :=
  TrL_leaf (X := F55_3 R J1 J2 l3 l4 n5 n6 ds w) (setAll_cons e3 (setAll_cons e4 (setAll_cons e5 (setAll_cons e6 setAll_nil)))) (by kernel_rfl) (by kernel_rfl) h
theorem F55_4_ok (R : Rt) (J1 : (SV × Int) → World → Prop) (l3 : SV) (l4 : SV) (n5 : Int) (n6 : Int) (ds : Ds) (w : World) (ρ : Env) (e3 : ρ 3 = .slice l3.a l3.len l3.cap) (e4 : ρ 4 = .slice l4.a l4.len l4.cap) (e5 : ρ 5 = .int .i64 n5) (e6 : ρ 6 = .int .i64 n6) (h : F55_4 R J1 l3 l4 n5 n6 ds w) :
    TrL Try.prog Try.f55.ntmps [c55_4_0_2_1_0] (F55_q9 R J1) ρ ds w :=
  TrL_one (Tr_loop' (c := innerC c55_4_0_2_1_0) (σ := SV × Int) (enc := (fun (s : SV × Int) (ρ : Env) => ρ 4 = .slice s.1.a s.1.len s.1.cap ∧ ρ 6 = .int .i64 s.2)) (D := (fun ρ K => dSl (ρ 4) fun l4 => dInt .i64 (ρ 6) fun n6 => K (l4, n6))) (F := (fun (J2 : (SV × Int) → World → Prop) (s : SV × Int) (w : World) => F55_3 R J1 J2 l3 s.1 n5 s.2 ds w)) (s0 := (l4, n6)) (by kernel_rfl) c55_4_0_2_1_0_l ⟨e4, e6⟩ (by kernel_rfl) (fun ρ K hD => by obtain ⟨l4, e4, hD⟩ := dSl_elim hD; obtain ⟨n6, e6, hD⟩ := dInt_elim hD; exact ⟨(l4, n6), ⟨e4, e6⟩, hD⟩)
      (fun J2 s ρ' w' he ha hF => by
      obtain ⟨e4', e6'⟩ := he
      exact F55_3_ok R J1 J2 l3 s.1 n5 s.2 ds w' ρ' ((ha 3 (by kernel_rfl)).trans e3) e4' ((ha 5 (by kernel_rfl)).trans e5) e6' hF) h)
theorem F55_5_ok (R : Rt) (J1 : (SV × Int) → World → Prop) (l3 : SV) (l4 : SV) (n5 : Int) (n6 : Int) (ds : Ds) (w : World) (ρ : Env) (e3 : ρ 3 = .slice l3.a l3.len l3.cap) (e4 : ρ 4 = .slice l4.a l4.len l4.cap) (e5 : ρ 5 = .int .i64 n5) (e6 : ρ 6 = .int .i64 n6) (h : F55_5 R J1 l3 l4 n5 n6 ds w) :
    TrL Try.prog Try.f55.ntmps [c55_4_0_2_1] (F55_q8 R J1) ρ ds w :=
  TrL_one (Tr_block' (c := innerC c55_4_0_2_1) (by kernel_rfl) c55_4_0_2_1_l (F55_4_ok R J1 l3 l4 n5 n6 ds w ρ e3 e4 e5 e6 h))
theorem F55_6_ok (R : Rt) (J1 : (SV × Int) → World → Prop) (l3 : SV) (l4 : SV) (n5 : Int) (ds : Ds) (w : World) (ρ : Env) (e3 : ρ 3 = .slice l3.a l3.len l3.cap) (e4 : ρ 4 = .slice l4.a l4.len l4.cap) (e5 : ρ 5 = .int .i64 n5) (h : F55_6 R J1 l3 l4 n5 ds w) :
    TrL Try.prog Try.f55.ntmps [c55_4_0_2_0, c55_4_0_2_1] (F55_q8 R J1) ρ ds w :=
  TrL_piece (pre := [c55_4_0_2_0]) (K := (F55_k11 R J1)) (X := F55_6 R J1 l3 l4 n5 ds w) (setAll_cons e3 (setAll_cons e4 (setAll_cons e5 setAll_nil))) (by kernel_rfl) (by kernel_rfl)
    (fun ρ' ds' w' hD => by
      obtain ⟨l3, e3, hD⟩ := dSl_elim hD; obtain ⟨l4, e4, hD⟩ := dSl_elim hD; obtain ⟨n5, e5, hD⟩ := dInt_elim hD; obtain ⟨n6, e6, hD⟩ := dInt_elim hD; exact F55_5_ok R J1 l3 l4 n5 n6 ds' w' ρ' e3 e4 e5 e6 hD) h
theorem F55_7_ok (R : Rt) (J1 : (SV × Int) → World → Prop) (l3 : SV) (l4 : SV) (n5 : Int) (ds : Ds) (w : World) (ρ : Env) (e3 : ρ 3 = .slice l3.a l3.len l3.cap) (e4 : ρ 4 = .slice l4.a l4.len l4.cap) (e5 : ρ 5 = .int .i64 n5) (h : F55_7 R J1 l3 l4 n5 ds w) :
    TrL Try.prog Try.f55.ntmps [c55_4_0_2, c55_4_0_3] (F55_q5 R J1) ρ ds w :=
  TrL_head (K := (F55_k6 R J1)) (Tr_block' (c := innerC c55_4_0_2) (by kernel_rfl) c55_4_0_2_l (F55_6_ok R J1 l3 l4 n5 ds w ρ e3 e4 e5 h))
    (fun ρ' ds' w' hD => by
      obtain ⟨l3, e3, hD⟩ := dSl_elim hD; obtain ⟨l4, e4, hD⟩ := dSl_elim hD; obtain ⟨n5, e5, hD⟩ := dInt_elim hD; exact F55_2_ok R J1 l3 l4 n5 ds' w' ρ' e3 e4 e5 hD)
theorem F55_8_ok (R : Rt) (J1 : (SV × Int) → World → Prop) (l3 : SV) (l4 : SV) (n5 : Int) (ds : Ds) (w : World) (ρ : Env) (e3 : ρ 3 = .slice l3.a l3.len l3.cap) (e4 : ρ 4 = .slice l4.a l4.len l4.cap) (e5 : ρ 5 = .int .i64 n5) (h : F55_8 R J1 l3 l4 n5 ds w) :
    TrL Try.prog Try.f55.ntmps [c55_4_0_0, c55_4_0_1, c55_4_0_2, c55_4_0_3] (F55_q5 R J1) ρ ds w :=
  TrL_piece (pre := [c55_4_0_0, c55_4_0_1]) (K := (F55_k12 R J1)) (X := F55_8 R J1 l3 l4 n5 ds w) (setAll_cons e3 (setAll_cons e4 (setAll_cons e5 setAll_nil))) (by kernel_rfl) (by kernel_rfl)
    (fun ρ' ds' w' hD => by
      obtain ⟨l3, e3, hD⟩ := dSl_elim hD; obtain ⟨l4, e4, hD⟩ := dSl_elim hD; obtain ⟨n5, e5, hD⟩ := dInt_elim hD; exact F55_7_ok R J1 l3 l4 n5 ds' w' ρ' e3 e4 e5 hD) h
theorem F55_9_ok (R : Rt) (l3 : SV) (l4 : SV) (n5 : Int) (ds : Ds) (w : World) (ρ : Env) (e3 : ρ 3 = .slice l3.a l3.len l3.cap) (e4 : ρ 4 = .slice l4.a l4.len l4.cap) (e5 : ρ 5 = .int .i64 n5) (h : F55_9 R l3 l4 n5 ds w) :
    TrL Try.prog Try.f55.ntmps [c55_4_0] (F55_q4 R) ρ ds w :=
  TrL_one (Tr_loop' (c := innerC c55_4_0) (σ := SV × Int) (enc := (fun (s : SV × Int) (ρ : Env) => ρ 4 = .slice s.1.a s.1.len s.1.cap ∧ ρ 5 = .int .i64 s.2)) (D := (fun ρ K => dSl (ρ 4) fun l4 => dInt .i64 (ρ 5) fun n5 => K (l4, n5))) (F := (fun (J1 : (SV × Int) → World → Prop) (s : SV × Int) (w : World) => F55_8 R J1 l3 s.1 s.2 ds w)) (s0 := (l4, n5)) (by kernel_rfl) c55_4_0_l ⟨e4, e5⟩ (by kernel_rfl) (fun ρ K hD => by obtain ⟨l4, e4, hD⟩ := dSl_elim hD; obtain ⟨n5, e5, hD⟩ := dInt_elim hD; exact ⟨(l4, n5), ⟨e4, e5⟩, hD⟩)
      (fun J1 s ρ' w' he ha hF => by
      obtain ⟨e4', e5'⟩ := he
      exact F55_8_ok R J1 l3 s.1 s.2 ds w' ρ' ((ha 3 (by kernel_rfl)).trans e3) e4' e5' hF) h)
theorem F55_10_ok (R : Rt) (l3 : SV) (l4 : SV) (n5 : Int) (ds : Ds) (w : World) (ρ : Env) (e3 : ρ 3 = .slice l3.a l3.len l3.cap) (e4 : ρ 4 = .slice l4.a l4.len l4.cap) (e5 : ρ 5 = .int .i64 n5) (h : F55_10 R l3 l4 n5 ds w) :
    TrL Try.prog Try.f55.ntmps [c55_4, c55_5, c55_6] (F55_q1 R) ρ ds w :=
  TrL_head (K := (F55_k2 R)) (Tr_block' (c := innerC c55_4) (by kernel_rfl) c55_4_l (F55_9_ok R l3 l4 n5 ds w ρ e3 e4 e5 h))
    (fun ρ' ds' w' hD => by
      obtain ⟨l4, e4, hD⟩ := dSl_elim hD; exact F55_1_ok R l4 ds' w' ρ' e4 hD)
theorem F55_11_ok (R : Rt) (l0 : SV) (ds : Ds) (w : World) (ρ : Env) (e0 : ρ 0 = .slice l0.a l0.len l0.cap) (h : F55_11 R l0 ds w) :
    TrL Try.prog Try.f55.ntmps [c55_0, c55_1, c55_2, c55_3, c55_4, c55_5, c55_6] (F55_q1 R) ρ ds w :=
  TrL_piece (pre := [c55_0, c55_1, c55_2, c55_3]) (K := (F55_k13 R)) (X := F55_11 R l0 ds w) (setAll_cons e0 setAll_nil) (by kernel_rfl) (by kernel_rfl)
    (fun ρ' ds' w' hD => by
      obtain ⟨l3, e3, hD⟩ := dSl_elim hD; obtain ⟨l4, e4, hD⟩ := dSl_elim hD; obtain ⟨n5, e5, hD⟩ := dInt_elim hD; exact F55_10_ok R l3 l4 n5 ds' w' ρ' e3 e4 e5 hD) h
theorem F55_calls (l0 : SV) (w : World) (R : Rt) (h : F55_11 R l0 [] w) : Calls Try.prog 55 #[.slice l0.a l0.len l0.cap] w R :=
  calls_of_L (l := [c55_0, c55_1, c55_2, c55_3, c55_4, c55_5, c55_6]) Try.func55 (by kernel_rfl) (by rw [Try.ntmps55]; exact Nat.le_of_ble_eq_true (by kernel_rfl)) c55_l
    (F55_11_ok R l0 [] w _ rfl h)
theorem F55_callsD (l0 : SV) (w : World) (R : Rt) (u : FrameMode) (h : F55_11 R l0 [] w) : CallsD Try.prog 55 #[.slice l0.a l0.len l0.cap] u w fun e u' w' => u' = u ∧ R e w' :=
  callsD_of_L (l := [c55_0, c55_1, c55_2, c55_3, c55_4, c55_5, c55_6]) Try.func55 (by kernel_rfl) (by rw [Try.ntmps55]; exact Nat.le_of_ble_eq_true (by kernel_rfl)) (by kernel_rfl) c55_l
    (F55_11_ok R l0 [] w _ rfl h) u

/-! function 59: cabinetry/cabinetryref24.all -/
noncomputable def c59_0 : Code := itemAt (flat (bodyOf Try.f59)) 0
noncomputable def c59_1 : Code := itemAt (flat (bodyOf Try.f59)) 1
noncomputable def c59_2 : Code := itemAt (flat (bodyOf Try.f59)) 2
noncomputable def c59_3 : Code := itemAt (flat (bodyOf Try.f59)) 3
noncomputable def c59_4 : Code := itemAt (flat (bodyOf Try.f59)) 4
noncomputable def c59_5 : Code := itemAt (flat (bodyOf Try.f59)) 5
noncomputable def c59_3_0 : Code := itemAt (flat (innerC c59_3)) 0
noncomputable def c59_3_0_0 : Code := itemAt (flat (innerC c59_3_0)) 0
noncomputable def c59_3_0_1 : Code := itemAt (flat (innerC c59_3_0)) 1
noncomputable def c59_3_0_2 : Code := itemAt (flat (innerC c59_3_0)) 2
noncomputable def c59_3_0_3 : Code := itemAt (flat (innerC c59_3_0)) 3
noncomputable def c59_3_0_2_0 : Code := itemAt (flat (innerC c59_3_0_2)) 0
noncomputable def c59_3_0_2_1 : Code := itemAt (flat (innerC c59_3_0_2)) 1
noncomputable def c59_3_0_2_1_0 : Code := itemAt (flat (innerC c59_3_0_2_1)) 0
noncomputable def c59_3_0_2_1_0_0 : Code := itemAt (flat (innerC c59_3_0_2_1_0)) 0
noncomputable def c59_3_0_2_1_0_1 : Code := itemAt (flat (innerC c59_3_0_2_1_0)) 1
noncomputable def c59_3_0_2_1_0_2 : Code := itemAt (flat (innerC c59_3_0_2_1_0)) 2
noncomputable def c59_3_0_2_1_0_3 : Code := itemAt (flat (innerC c59_3_0_2_1_0)) 3
def F59_q1 (R : Rt) : EQ := endQ Try.prog Try.f59.results.toList R
def F59_1 (R : Rt) (l3 : SV) (ds : Ds) (w : World) : Prop :=
 runD Try.prog ds w fun w1 =>
 R (.returned (.slice l3.a l3.len l3.cap)) w1
def F59_k2 (R : Rt) : EP := (fun ρ ds w => dSl (ρ 3) fun l3 => F59_1 R l3 ds w)
def F59_q3 (R : Rt) : EQ := (thenQ (F59_k2 R) (F59_q1 R))
def F59_q4 (R : Rt) : EQ := (blockQ 0 (F59_q3 R))
def F59_q5 (R : Rt) (J1 : (SV × Int) → World → Prop) : EQ := (thenQ (fun ρ _ w => dSl (ρ 3) fun l3 => dInt .i64 (ρ 4) fun n4 => J1 (l3, n4) w) (F59_q4 R))
def F59_2 (R : Rt) (J1 : (SV × Int) → World → Prop) (l0 : SV) (l3 : SV) (n4 : Int) (ds : Ds) (w : World) : Prop :=
 J1 (l3, (IntKind.i64.wrap (n4 + 1))) w
def F59_k6 (R : Rt) (J1 : (SV × Int) → World → Prop) : EP := (fun ρ ds w => dSl (ρ 0) fun l0 => dSl (ρ 3) fun l3 => dInt .i64 (ρ 4) fun n4 => F59_2 R J1 l0 l3 n4 ds w)
def F59_q7 (R : Rt) (J1 : (SV × Int) → World → Prop) : EQ := (thenQ (F59_k6 R J1) (F59_q5 R J1))
def F59_q8 (R : Rt) (J1 : (SV × Int) → World → Prop) : EQ := (blockQ 1 (F59_q7 R J1))
def F59_q9 (R : Rt) (J1 : (SV × Int) → World → Prop) : EQ := (blockQ 2 (F59_q8 R J1))
def F59_q10 (R : Rt) (J1 : (SV × Int) → World → Prop) (J2 : (SV × Int) → World → Prop) : EQ := (thenQ (fun ρ _ w => dSl (ρ 3) fun l3 => dInt .i64 (ρ 5) fun n5 => J2 (l3, n5) w) (F59_q9 R J1))
def F59_3 (R : Rt) (J1 : (SV × Int) → World → Prop) (J2 : (SV × Int) → World → Prop) (l0 : SV) (l3 : SV) (n4 : Int) (n5 : Int) (ds : Ds) (w : World) : Prop :=
 ∃ a2 : Addr, l0.a = some a2 ∧ 0 ≤ n4 ∧ n4 < ((l0.len : Nat) : Int) ∧
 ∃ l17 : SV, w.cell? ((a2.add (n4.toNat * 5)).add 2) = some (.slice l17.a l17.len l17.cap) ∧
 Br (decide (n5 < ((l17.len : Nat) : Int))) (
 dwE w fun w3 =>
 ∃ a4 : Addr, l0.a = some a4 ∧ 0 ≤ n4 ∧ n4 < ((l0.len : Nat) : Int) ∧
 ∃ l27 : SV, w3.cell? ((a4.add (n4.toNat * 5)).add 2) = some (.slice l27.a l27.len l27.cap) ∧
 ∃ a5 : Addr, l27.a = some a5 ∧ 0 ≤ n5 ∧ n5 < ((l27.len : Nat) : Int) ∧
 ∃ s30 : ByteArray, w3.cell? (a5.add (n5.toNat * 1)) = some (.string s30) ∧
 ∃ a6 : Addr, l0.a = some a6 ∧ 0 ≤ n4 ∧ n4 < ((l0.len : Nat) : Int) ∧
 ∃ n35 : Int, w3.cell? ((a6.add (n4.toNat * 5)).add 1) = some (.int .i64 n35) ∧
 ∃ a7 : Addr, l0.a = some a7 ∧ 0 ≤ n4 ∧ n4 < ((l0.len : Nat) : Int) ∧
 ∃ l40 : SV, w3.cell? ((a7.add (n4.toNat * 5)).add 3) = some (.slice l40.a l40.len l40.cap) ∧
 ∃ a8 : Addr, l40.a = some a8 ∧ 0 ≤ n5 ∧ n5 < ((l40.len : Nat) : Int) ∧
 ∃ n43 : Int, w3.cell? (a8.add (n5.toNat * 1)) = some (.int .i64 n43) ∧
 ∃ a9 : Addr, l0.a = some a9 ∧ 0 ≤ n4 ∧ n4 < ((l0.len : Nat) : Int) ∧
 ∃ l48 : SV, w3.cell? ((a9.add (n4.toNat * 5)).add 4) = some (.slice l48.a l48.len l48.cap) ∧
 ∃ a10 : Addr, l48.a = some a10 ∧ 0 ≤ n5 ∧ n5 < ((l48.len : Nat) : Int) ∧
 ∃ l51 : SV, w3.cell? (a10.add (n5.toNat * 1)) = some (.slice l51.a l51.len l51.cap) ∧
 alE (.cells #[.string s30, .int .i64 n35, .int .i64 n43, .slice l51.a l51.len l51.cap] 72) w3 fun r53 w11 =>
 ∃ l54 : SV, ∃ w12 : World, (Builtin.append_ #[68, 68] 68 #[.slice l3.a l3.len l3.cap, .slice (some ⟨r53, 0, none⟩) 1 1]).run Try.prog w11 = .ok (.slice l54.a l54.len l54.cap) w12 ∧
 J2 (l54, (IntKind.i64.wrap (n5 + 1))) w12) (
 F59_2 R J1 l0 l3 n4 ds w)
def F59_4 (R : Rt) (J1 : (SV × Int) → World → Prop) (l0 : SV) (l3 : SV) (n4 : Int) (n5 : Int) (ds : Ds) (w : World) : Prop :=
 loopT (fun (J2 : (SV × Int) → World → Prop) (s : SV × Int) (w : World) => F59_3 R J1 J2 l0 s.1 n4 s.2 ds w) (l3, n5) w
@[reducible] def F59_5 (R : Rt) (J1 : (SV × Int) → World → Prop) (l0 : SV) (l3 : SV) (n4 : Int) (n5 : Int) (ds : Ds) (w : World) : Prop := F59_4 R J1 l0 l3 n4 n5 ds w
def F59_k11 (R : Rt) (J1 : (SV × Int) → World → Prop) : EP := (fun ρ ds w => dSl (ρ 0) fun l0 => dSl (ρ 3) fun l3 => dInt .i64 (ρ 4) fun n4 => dInt .i64 (ρ 5) fun n5 => F59_5 R J1 l0 l3 n4 n5 ds w)
def F59_6 (R : Rt) (J1 : (SV × Int) → World → Prop) (l0 : SV) (l3 : SV) (n4 : Int) (ds : Ds) (w : World) : Prop :=
 F59_5 R J1 l0 l3 n4 0 ds w
@[reducible] def F59_7 (R : Rt) (J1 : (SV × Int) → World → Prop) (l0 : SV) (l3 : SV) (n4 : Int) (ds : Ds) (w : World) : Prop := F59_6 R J1 l0 l3 n4 ds w
def F59_k12 (R : Rt) (J1 : (SV × Int) → World → Prop) : EP := (fun ρ ds w => dSl (ρ 0) fun l0 => dSl (ρ 3) fun l3 => dInt .i64 (ρ 4) fun n4 => F59_7 R J1 l0 l3 n4 ds w)
def F59_8 (R : Rt) (J1 : (SV × Int) → World → Prop) (l0 : SV) (l3 : SV) (n4 : Int) (ds : Ds) (w : World) : Prop :=
 Br (decide (n4 < ((l0.len : Nat) : Int))) (
 F59_7 R J1 l0 l3 n4 ds w) (
 F59_1 R l3 ds w)
def F59_9 (R : Rt) (l0 : SV) (l3 : SV) (n4 : Int) (ds : Ds) (w : World) : Prop :=
 loopT (fun (J1 : (SV × Int) → World → Prop) (s : SV × Int) (w : World) => F59_8 R J1 l0 s.1 s.2 ds w) (l3, n4) w
@[reducible] def F59_10 (R : Rt) (l0 : SV) (l3 : SV) (n4 : Int) (ds : Ds) (w : World) : Prop := F59_9 R l0 l3 n4 ds w
def F59_k13 (R : Rt) : EP := (fun ρ ds w => dSl (ρ 0) fun l0 => dSl (ρ 3) fun l3 => dInt .i64 (ρ 4) fun n4 => F59_10 R l0 l3 n4 ds w)
def F59_11 (R : Rt) (l0 : SV) (ds : Ds) (w : World) : Prop :=
 F59_10 R l0 ⟨none, 0, 0⟩ 0 ds w
theorem c59_l : flat (bodyOf Try.f59) = [c59_0, c59_1, c59_2, c59_3, c59_4, c59_5] := by kernel_rfl
theorem c59_3_l : flat (innerC c59_3) = [c59_3_0] := by kernel_rfl
theorem c59_3_0_l : flat (innerC c59_3_0) = [c59_3_0_0, c59_3_0_1, c59_3_0_2, c59_3_0_3] := by kernel_rfl
theorem c59_3_0_2_l : flat (innerC c59_3_0_2) = [c59_3_0_2_0, c59_3_0_2_1] := by kernel_rfl
theorem c59_3_0_2_1_l : flat (innerC c59_3_0_2_1) = [c59_3_0_2_1_0] := by kernel_rfl
theorem c59_3_0_2_1_0_l : flat (innerC c59_3_0_2_1_0) = [c59_3_0_2_1_0_0, c59_3_0_2_1_0_1, c59_3_0_2_1_0_2, c59_3_0_2_1_0_3] := by kernel_rfl
theorem F59_1_ok (R : Rt) (l3 : SV) (ds : Ds) (w : World) (ρ : Env) (e3 : ρ 3 = .slice l3.a l3.len l3.cap) (h : F59_1 R l3 ds w) :
    TrL Try.prog Try.f59.ntmps [c59_4, c59_5] (F59_q1 R) ρ ds w :=
  TrL_leaf (X := F59_1 R l3 ds w) (setAll_cons e3 setAll_nil) (by kernel_rfl) (by kernel_rfl) h
theorem F59_2_ok (R : Rt) (J1 : (SV × Int) → World → Prop) (l0 : SV) (l3 : SV) (n4 : Int) (ds : Ds) (w : World) (ρ : Env) (e0 : ρ 0 = .slice l0.a l0.len l0.cap) (e3 : ρ 3 = .slice l3.a l3.len l3.cap) (e4 : ρ 4 = .int .i64 n4) (h : F59_2 R J1 l0 l3 n4 ds w) :
    TrL Try.prog Try.f59.ntmps [c59_3_0_3] (F59_q5 R J1) ρ ds w :=
  TrL_leaf (X := F59_2 R J1 l0 l3 n4 ds w) (setAll_cons e0 (setAll_cons e3 (setAll_cons e4 setAll_nil))) (by kernel_rfl) (by kernel_rfl) h
theorem F59_3_ok (R : Rt) (J1 : (SV × Int) → World → Prop) (J2 : (SV × Int) → World → Prop) (l0 : SV) (l3 : SV) (n4 : Int) (n5 : Int) (ds : Ds) (w : World) (ρ : Env) (e0 : ρ 0 = .slice l0.a l0.len l0.cap) (e3 : ρ 3 = .slice l3.a l3.len l3.cap) (e4 : ρ 4 = .int .i64 n4) (e5 : ρ 5 = .int .i64 n5) (h : F59_3 R J1 J2 l0 l3 n4 n5 ds w) :
    TrL Try.prog Try.f59.ntmps [c59_3_0_2_1_0_0, c59_3_0_2_1_0_1, c59_3_0_2_1_0_2, c59_3_0_2_1_0_3] (F59_q10 R J1 J2) ρ ds w :=
  TrL_leaf (X := F59_3 R J1 J2 l0 l3 n4 n5 ds w) (setAll_cons e0 (setAll_cons e3 (setAll_cons e4 (setAll_cons e5 setAll_nil)))) (by kernel_rfl) (by kernel_rfl) h
theorem F59_4_ok (R : Rt) (J1 : (SV × Int) → World → Prop) (l0 : SV) (l3 : SV) (n4 : Int) (n5 : Int) (ds : Ds) (w : World) (ρ : Env) (e0 : ρ 0 = .slice l0.a l0.len l0.cap) (e3 : ρ 3 = .slice l3.a l3.len l3.cap) (e4 : ρ 4 = .int .i64 n4) (e5 : ρ 5 = .int .i64 n5) (h : F59_4 R J1 l0 l3 n4 n5 ds w) :
    TrL Try.prog Try.f59.ntmps [c59_3_0_2_1_0] (F59_q9 R J1) ρ ds w :=
  TrL_one (Tr_loop' (c := innerC c59_3_0_2_1_0) (σ := SV × Int) (enc := (fun (s : SV × Int) (ρ : Env) => ρ 3 = .slice s.1.a s.1.len s.1.cap ∧ ρ 5 = .int .i64 s.2)) (D := (fun ρ K => dSl (ρ 3) fun l3 => dInt .i64 (ρ 5) fun n5 => K (l3, n5))) (F := (fun (J2 : (SV × Int) → World → Prop) (s : SV × Int) (w : World) => F59_3 R J1 J2 l0 s.1 n4 s.2 ds w)) (s0 := (l3, n5)) (by kernel_rfl) c59_3_0_2_1_0_l ⟨e3, e5⟩ (by kernel_rfl) (fun ρ K hD => by obtain ⟨l3, e3, hD⟩ := dSl_elim hD; obtain ⟨n5, e5, hD⟩ := dInt_elim hD; exact ⟨(l3, n5), ⟨e3, e5⟩, hD⟩)
      (fun J2 s ρ' w' he ha hF => by
      obtain ⟨e3', e5'⟩ := he
      exact F59_3_ok R J1 J2 l0 s.1 n4 s.2 ds w' ρ' ((ha 0 (by kernel_rfl)).trans e0) e3' ((ha 4 (by kernel_rfl)).trans e4) e5' hF) h)
theorem F59_5_ok (R : Rt) (J1 : (SV × Int) → World → Prop) (l0 : SV) (l3 : SV) (n4 : Int) (n5 : Int) (ds : Ds) (w : World) (ρ : Env) (e0 : ρ 0 = .slice l0.a l0.len l0.cap) (e3 : ρ 3 = .slice l3.a l3.len l3.cap) (e4 : ρ 4 = .int .i64 n4) (e5 : ρ 5 = .int .i64 n5) (h : F59_5 R J1 l0 l3 n4 n5 ds w) :
    TrL Try.prog Try.f59.ntmps [c59_3_0_2_1] (F59_q8 R J1) ρ ds w :=
  TrL_one (Tr_block' (c := innerC c59_3_0_2_1) (by kernel_rfl) c59_3_0_2_1_l (F59_4_ok R J1 l0 l3 n4 n5 ds w ρ e0 e3 e4 e5 h))
theorem F59_6_ok (R : Rt) (J1 : (SV × Int) → World → Prop) (l0 : SV) (l3 : SV) (n4 : Int) (ds : Ds) (w : World) (ρ : Env) (e0 : ρ 0 = .slice l0.a l0.len l0.cap) (e3 : ρ 3 = .slice l3.a l3.len l3.cap) (e4 : ρ 4 = .int .i64 n4) (h : F59_6 R J1 l0 l3 n4 ds w) :
    TrL Try.prog Try.f59.ntmps [c59_3_0_2_0, c59_3_0_2_1] (F59_q8 R J1) ρ ds w :=
  TrL_piece (pre := [c59_3_0_2_0]) (K := (F59_k11 R J1)) (X := F59_6 R J1 l0 l3 n4 ds w) (setAll_cons e0 (setAll_cons e3 (setAll_cons e4 setAll_nil))) (by kernel_rfl) (by kernel_rfl)
    (fun ρ' ds' w' hD => by
      obtain ⟨l0, e0, hD⟩ := dSl_elim hD; obtain ⟨l3, e3, hD⟩ := dSl_elim hD; obtain ⟨n4, e4, hD⟩ := dInt_elim hD; obtain ⟨n5, e5, hD⟩ := dInt_elim hD; exact F59_5_ok R J1 l0 l3 n4 n5 ds' w' ρ' e0 e3 e4 e5 hD) h
theorem F59_7_ok (R : Rt) (J1 : (SV × Int) → World → Prop) (l0 : SV) (l3 : SV) (n4 : Int) (ds : Ds) (w : World) (ρ : Env) (e0 : ρ 0 = .slice l0.a l0.len l0.cap) (e3 : ρ 3 = .slice l3.a l3.len l3.cap) (e4 : ρ 4 = .int .i64 n4) (h : F59_7 R J1 l0 l3 n4 ds w) :
    TrL Try.prog Try.f59.ntmps [c59_3_0_2, c59_3_0_3] (F59_q5 R J1) ρ ds w :=
  TrL_head (K := (F59_k6 R J1)) (Tr_block' (c := innerC c59_3_0_2) (by kernel_rfl) c59_3_0_2_l (F59_6_ok R J1 l0 l3 n4 ds w ρ e0 e3 e4 h))
    (fun ρ' ds' w' hD => by
      obtain ⟨l0, e0, hD⟩ := dSl_elim hD; obtain ⟨l3, e3, hD⟩ := dSl_elim hD; obtain ⟨n4, e4, hD⟩ := dInt_elim hD; exact F59_2_ok R J1 l0 l3 n4 ds' w' ρ' e0 e3 e4 hD)
theorem F59_8_ok (R : Rt) (J1 : (SV × Int) → World → Prop) (l0 : SV) (l3 : SV) (n4 : Int) (ds : Ds) (w : World) (ρ : Env) (e0 : ρ 0 = .slice l0.a l0.len l0.cap) (e3 : ρ 3 = .slice l3.a l3.len l3.cap) (e4 : ρ 4 = .int .i64 n4) (h : F59_8 R J1 l0 l3 n4 ds w) :
    TrL Try.prog Try.f59.ntmps [c59_3_0_0, c59_3_0_1, c59_3_0_2, c59_3_0_3] (F59_q5 R J1) ρ ds w :=
  TrL_piece (pre := [c59_3_0_0, c59_3_0_1]) (K := (F59_k12 R J1)) (X := F59_8 R J1 l0 l3 n4 ds w) (setAll_cons e0 (setAll_cons e3 (setAll_cons e4 setAll_nil))) (by kernel_rfl) (by kernel_rfl)
    (fun ρ' ds' w' hD => by
      obtain ⟨l0, e0, hD⟩ := dSl_elim hD; obtain ⟨l3, e3, hD⟩ := dSl_elim hD; obtain ⟨n4, e4, hD⟩ := dInt_elim hD; exact F59_7_ok R J1 l0 l3 n4 ds' w' ρ' e0 e3 e4 hD) h
theorem F59_9_ok (R : Rt) (l0 : SV) (l3 : SV) (n4 : Int) (ds : Ds) (w : World) (ρ : Env) (e0 : ρ 0 = .slice l0.a l0.len l0.cap) (e3 : ρ 3 = .slice l3.a l3.len l3.cap) (e4 : ρ 4 = .int .i64 n4) (h : F59_9 R l0 l3 n4 ds w) :
    TrL Try.prog Try.f59.ntmps [c59_3_0] (F59_q4 R) ρ ds w :=
  TrL_one (Tr_loop' (c := innerC c59_3_0) (σ := SV × Int) (enc := (fun (s : SV × Int) (ρ : Env) => ρ 3 = .slice s.1.a s.1.len s.1.cap ∧ ρ 4 = .int .i64 s.2)) (D := (fun ρ K => dSl (ρ 3) fun l3 => dInt .i64 (ρ 4) fun n4 => K (l3, n4))) (F := (fun (J1 : (SV × Int) → World → Prop) (s : SV × Int) (w : World) => F59_8 R J1 l0 s.1 s.2 ds w)) (s0 := (l3, n4)) (by kernel_rfl) c59_3_0_l ⟨e3, e4⟩ (by kernel_rfl) (fun ρ K hD => by obtain ⟨l3, e3, hD⟩ := dSl_elim hD; obtain ⟨n4, e4, hD⟩ := dInt_elim hD; exact ⟨(l3, n4), ⟨e3, e4⟩, hD⟩)
      (fun J1 s ρ' w' he ha hF => by
      obtain ⟨e3', e4'⟩ := he
      exact F59_8_ok R J1 l0 s.1 s.2 ds w' ρ' ((ha 0 (by kernel_rfl)).trans e0) e3' e4' hF) h)
theorem F59_10_ok (R : Rt) (l0 : SV) (l3 : SV) (n4 : Int) (ds : Ds) (w : World) (ρ : Env) (e0 : ρ 0 = .slice l0.a l0.len l0.cap) (e3 : ρ 3 = .slice l3.a l3.len l3.cap) (e4 : ρ 4 = .int .i64 n4) (h : F59_10 R l0 l3 n4 ds w) :
    TrL Try.prog Try.f59.ntmps [c59_3, c59_4, c59_5] (F59_q1 R) ρ ds w :=
  TrL_head (K := (F59_k2 R)) (Tr_block' (c := innerC c59_3) (by kernel_rfl) c59_3_l (F59_9_ok R l0 l3 n4 ds w ρ e0 e3 e4 h))
    (fun ρ' ds' w' hD => by
      obtain ⟨l3, e3, hD⟩ := dSl_elim hD; exact F59_1_ok R l3 ds' w' ρ' e3 hD)
theorem F59_11_ok (R : Rt) (l0 : SV) (ds : Ds) (w : World) (ρ : Env) (e0 : ρ 0 = .slice l0.a l0.len l0.cap) (h : F59_11 R l0 ds w) :
    TrL Try.prog Try.f59.ntmps [c59_0, c59_1, c59_2, c59_3, c59_4, c59_5] (F59_q1 R) ρ ds w :=
  TrL_piece (pre := [c59_0, c59_1, c59_2]) (K := (F59_k13 R)) (X := F59_11 R l0 ds w) (setAll_cons e0 setAll_nil) (by kernel_rfl) (by kernel_rfl)
    (fun ρ' ds' w' hD => by
      obtain ⟨l0, e0, hD⟩ := dSl_elim hD; obtain ⟨l3, e3, hD⟩ := dSl_elim hD; obtain ⟨n4, e4, hD⟩ := dInt_elim hD; exact F59_10_ok R l0 l3 n4 ds' w' ρ' e0 e3 e4 hD) h
theorem F59_calls (l0 : SV) (w : World) (R : Rt) (h : F59_11 R l0 [] w) : Calls Try.prog 59 #[.slice l0.a l0.len l0.cap] w R :=
  calls_of_L (l := [c59_0, c59_1, c59_2, c59_3, c59_4, c59_5]) Try.func59 (by kernel_rfl) (by rw [Try.ntmps59]; exact Nat.le_of_ble_eq_true (by kernel_rfl)) c59_l
    (F59_11_ok R l0 [] w _ rfl h)
theorem F59_callsD (l0 : SV) (w : World) (R : Rt) (u : FrameMode) (h : F59_11 R l0 [] w) : CallsD Try.prog 59 #[.slice l0.a l0.len l0.cap] u w fun e u' w' => u' = u ∧ R e w' :=
  callsD_of_L (l := [c59_0, c59_1, c59_2, c59_3, c59_4, c59_5]) Try.func59 (by kernel_rfl) (by rw [Try.ntmps59]; exact Nat.le_of_ble_eq_true (by kernel_rfl)) (by kernel_rfl) c59_l
    (F59_11_ok R l0 [] w _ rfl h) u

/-! function 60: cabinetry/cabinetryref24.isLarge -/
noncomputable def c60_0 : Code := itemAt (flat (bodyOf Try.f60)) 0
noncomputable def c60_1 : Code := itemAt (flat (bodyOf Try.f60)) 1
noncomputable def c60_2 : Code := itemAt (flat (bodyOf Try.f60)) 2
noncomputable def c60_3 : Code := itemAt (flat (bodyOf Try.f60)) 3
noncomputable def c60_4 : Code := itemAt (flat (bodyOf Try.f60)) 4
noncomputable def c60_5 : Code := itemAt (flat (bodyOf Try.f60)) 5
noncomputable def c60_3_0 : Code := itemAt (flat (innerC c60_3)) 0
noncomputable def c60_3_0_0 : Code := itemAt (flat (innerC c60_3_0)) 0
noncomputable def c60_3_0_1 : Code := itemAt (flat (innerC c60_3_0)) 1
noncomputable def c60_3_0_2 : Code := itemAt (flat (innerC c60_3_0)) 2
noncomputable def c60_3_0_3 : Code := itemAt (flat (innerC c60_3_0)) 3
noncomputable def c60_3_0_2_0 : Code := itemAt (flat (innerC c60_3_0_2)) 0
noncomputable def c60_3_0_2_1 : Code := itemAt (flat (innerC c60_3_0_2)) 1
noncomputable def c60_3_0_2_2 : Code := itemAt (flat (innerC c60_3_0_2)) 2
noncomputable def c60_3_0_2_2_0 : Code := itemAt (flat (innerC c60_3_0_2_2)) 0
noncomputable def c60_3_0_2_2_0_0 : Code := itemAt (flat (innerC c60_3_0_2_2_0)) 0
noncomputable def c60_3_0_2_2_0_1 : Code := itemAt (flat (innerC c60_3_0_2_2_0)) 1
noncomputable def c60_3_0_2_2_0_2 : Code := itemAt (flat (innerC c60_3_0_2_2_0)) 2
noncomputable def c60_3_0_2_2_0_3 : Code := itemAt (flat (innerC c60_3_0_2_2_0)) 3
def F60_q1 (R : Rt) : EQ := endQ Try.prog Try.f60.results.toList R
def F60_1 (R : Rt) (l0 : SV) (n3 : Int) (ds : Ds) (w : World) : Prop :=
 Br (decide (((l0.len : Nat) : Int) > 32)) (
 runD Try.prog ds w fun w1 =>
 R (.returned (.bool true)) w1) (
 runD Try.prog ds w fun w2 =>
 R (.returned (.bool (decide (n3 > 100)))) w2)
def F60_k2 (R : Rt) : EP := (fun ρ ds w => dSl (ρ 0) fun l0 => dInt .i64 (ρ 3) fun n3 => F60_1 R l0 n3 ds w)
def F60_q3 (R : Rt) : EQ := (thenQ (F60_k2 R) (F60_q1 R))
def F60_q4 (R : Rt) : EQ := (blockQ 0 (F60_q3 R))
def F60_q5 (R : Rt) (J1 : (Int × Int) → World → Prop) : EQ := (thenQ (fun ρ _ w => dInt .i64 (ρ 3) fun n3 => dInt .i64 (ρ 4) fun n4 => J1 (n3, n4) w) (F60_q4 R))
def F60_2 (R : Rt) (J1 : (Int × Int) → World → Prop) (l0 : SV) (n3 : Int) (n4 : Int) (ds : Ds) (w : World) : Prop :=
 J1 (n3, (IntKind.i64.wrap (n4 + 1))) w
def F60_k6 (R : Rt) (J1 : (Int × Int) → World → Prop) : EP := (fun ρ ds w => dSl (ρ 0) fun l0 => dInt .i64 (ρ 3) fun n3 => dInt .i64 (ρ 4) fun n4 => F60_2 R J1 l0 n3 n4 ds w)
def F60_q7 (R : Rt) (J1 : (Int × Int) → World → Prop) : EQ := (thenQ (F60_k6 R J1) (F60_q5 R J1))
def F60_q8 (R : Rt) (J1 : (Int × Int) → World → Prop) : EQ := (blockQ 1 (F60_q7 R J1))
def F60_q9 (R : Rt) (J1 : (Int × Int) → World → Prop) : EQ := (blockQ 2 (F60_q8 R J1))
def F60_q10 (R : Rt) (J1 : (Int × Int) → World → Prop) (J2 : (Int) → World → Prop) : EQ := (thenQ (fun ρ _ w => dInt .i64 (ρ 5) fun n5 => J2 n5 w) (F60_q9 R J1))
def F60_3 (R : Rt) (J1 : (Int × Int) → World → Prop) (J2 : (Int) → World → Prop) (l0 : SV) (n3 : Int) (n4 : Int) (n5 : Int) (ds : Ds) (w : World) : Prop :=
 ∃ a3 : Addr, l0.a = some a3 ∧ 0 ≤ n4 ∧ n4 < ((l0.len : Nat) : Int) ∧
 ∃ l25 : SV, w.cell? ((a3.add (n4.toNat * 5)).add 4) = some (.slice l25.a l25.len l25.cap) ∧
 Br (decide (n5 < ((l25.len : Nat) : Int))) (
 ∃ a4 : Addr, l0.a = some a4 ∧ 0 ≤ n4 ∧ n4 < ((l0.len : Nat) : Int) ∧
 ∃ l34 : SV, w.cell? ((a4.add (n4.toNat * 5)).add 4) = some (.slice l34.a l34.len l34.cap) ∧
 ∃ a5 : Addr, l34.a = some a5 ∧ 0 ≤ n5 ∧ n5 < ((l34.len : Nat) : Int) ∧
 ∃ l37 : SV, w.cell? (a5.add (n5.toNat * 1)) = some (.slice l37.a l37.len l37.cap) ∧
 Br (decide (((l37.len : Nat) : Int) > 100)) (
 runD Try.prog ds w fun w6 =>
 R (.returned (.bool true)) w6) (
 J2 (IntKind.i64.wrap (n5 + 1)) w)) (
 F60_2 R J1 l0 n3 n4 ds w)
def F60_4 (R : Rt) (J1 : (Int × Int) → World → Prop) (l0 : SV) (n3 : Int) (n4 : Int) (n5 : Int) (ds : Ds) (w : World) : Prop :=
 loopT (fun (J2 : (Int) → World → Prop) (s : Int) (w : World) => F60_3 R J1 J2 l0 n3 n4 s ds w) n5 w
@[reducible] def F60_5 (R : Rt) (J1 : (Int × Int) → World → Prop) (l0 : SV) (n3 : Int) (n4 : Int) (n5 : Int) (ds : Ds) (w : World) : Prop := F60_4 R J1 l0 n3 n4 n5 ds w
def F60_k11 (R : Rt) (J1 : (Int × Int) → World → Prop) : EP := (fun ρ ds w => dSl (ρ 0) fun l0 => dInt .i64 (ρ 3) fun n3 => dInt .i64 (ρ 4) fun n4 => dInt .i64 (ρ 5) fun n5 => F60_5 R J1 l0 n3 n4 n5 ds w)
def F60_6 (R : Rt) (J1 : (Int × Int) → World → Prop) (l0 : SV) (n3 : Int) (n4 : Int) (ds : Ds) (w : World) : Prop :=
 ∃ a7 : Addr, l0.a = some a7 ∧ 0 ≤ n4 ∧ n4 < ((l0.len : Nat) : Int) ∧
 ∃ l17 : SV, w.cell? ((a7.add (n4.toNat * 5)).add 2) = some (.slice l17.a l17.len l17.cap) ∧
 F60_5 R J1 l0 (IntKind.i64.wrap (n3 + ((l17.len : Nat) : Int))) n4 0 ds w
@[reducible] def F60_7 (R : Rt) (J1 : (Int × Int) → World → Prop) (l0 : SV) (n3 : Int) (n4 : Int) (ds : Ds) (w : World) : Prop := F60_6 R J1 l0 n3 n4 ds w
def F60_k12 (R : Rt) (J1 : (Int × Int) → World → Prop) : EP := (fun ρ ds w => dSl (ρ 0) fun l0 => dInt .i64 (ρ 3) fun n3 => dInt .i64 (ρ 4) fun n4 => F60_7 R J1 l0 n3 n4 ds w)
def F60_8 (R : Rt) (J1 : (Int × Int) → World → Prop) (l0 : SV) (n3 : Int) (n4 : Int) (ds : Ds) (w : World) : Prop :=
 Br (decide (n4 < ((l0.len : Nat) : Int))) (
 F60_7 R J1 l0 n3 n4 ds w) (
 F60_1 R l0 n3 ds w)
def F60_9 (R : Rt) (l0 : SV) (n3 : Int) (n4 : Int) (ds : Ds) (w : World) : Prop :=
 loopT (fun (J1 : (Int × Int) → World → Prop) (s : Int × Int) (w : World) => F60_8 R J1 l0 s.1 s.2 ds w) (n3, n4) w
@[reducible] def F60_10 (R : Rt) (l0 : SV) (n3 : Int) (n4 : Int) (ds : Ds) (w : World) : Prop := F60_9 R l0 n3 n4 ds w
def F60_k13 (R : Rt) : EP := (fun ρ ds w => dSl (ρ 0) fun l0 => dInt .i64 (ρ 3) fun n3 => dInt .i64 (ρ 4) fun n4 => F60_10 R l0 n3 n4 ds w)
def F60_11 (R : Rt) (l0 : SV) (ds : Ds) (w : World) : Prop :=
 F60_10 R l0 0 0 ds w
theorem c60_l : flat (bodyOf Try.f60) = [c60_0, c60_1, c60_2, c60_3, c60_4, c60_5] := by kernel_rfl
theorem c60_3_l : flat (innerC c60_3) = [c60_3_0] := by kernel_rfl
theorem c60_3_0_l : flat (innerC c60_3_0) = [c60_3_0_0, c60_3_0_1, c60_3_0_2, c60_3_0_3] := by kernel_rfl
theorem c60_3_0_2_l : flat (innerC c60_3_0_2) = [c60_3_0_2_0, c60_3_0_2_1, c60_3_0_2_2] := by kernel_rfl
theorem c60_3_0_2_2_l : flat (innerC c60_3_0_2_2) = [c60_3_0_2_2_0] := by kernel_rfl
theorem c60_3_0_2_2_0_l : flat (innerC c60_3_0_2_2_0) = [c60_3_0_2_2_0_0, c60_3_0_2_2_0_1, c60_3_0_2_2_0_2, c60_3_0_2_2_0_3] := by kernel_rfl
theorem F60_1_ok (R : Rt) (l0 : SV) (n3 : Int) (ds : Ds) (w : World) (ρ : Env) (e0 : ρ 0 = .slice l0.a l0.len l0.cap) (e3 : ρ 3 = .int .i64 n3) (h : F60_1 R l0 n3 ds w) :
    TrL Try.prog Try.f60.ntmps [c60_4, c60_5] (F60_q1 R) ρ ds w :=
  TrL_leaf (X := F60_1 R l0 n3 ds w) (setAll_cons e0 (setAll_cons e3 setAll_nil)) (by kernel_rfl) (by kernel_rfl) h
theorem F60_2_ok (R : Rt) (J1 : (Int × Int) → World → Prop) (l0 : SV) (n3 : Int) (n4 : Int) (ds : Ds) (w : World) (ρ : Env) (e0 : ρ 0 = .slice l0.a l0.len l0.cap) (e3 : ρ 3 = .int .i64 n3) (e4 : ρ 4 = .int .i64 n4) (h : F60_2 R J1 l0 n3 n4 ds w) :
    TrL Try.prog Try.f60.ntmps [c60_3_0_3] (F60_q5 R J1) ρ ds w :=
  TrL_leaf (X := F60_2 R J1 l0 n3 n4 ds w) (setAll_cons e0 (setAll_cons e3 (setAll_cons e4 setAll_nil))) (by kernel_rfl) (by kernel_rfl) h
theorem F60_3_ok (R : Rt) (J1 : (Int × Int) → World → Prop) (J2 : (Int) → World → Prop) (l0 : SV) (n3 : Int) (n4 : Int) (n5 : Int) (ds : Ds) (w : World) (ρ : Env) (e0 : ρ 0 = .slice l0.a l0.len l0.cap) (e3 : ρ 3 = .int .i64 n3) (e4 : ρ 4 = .int .i64 n4) (e5 : ρ 5 = .int .i64 n5) (h : F60_3 R J1 J2 l0 n3 n4 n5 ds w) :
    TrL Try.prog Try.f60.ntmps [c60_3_0_2_2_0_0, c60_3_0_2_2_0_1, c60_3_0_2_2_0_2, c60_3_0_2_2_0_3] (F60_q10 R J1 J2) ρ ds w :=
  TrL_leaf (X := F60_3 R J1 J2 l0 n3 n4 n5 ds w) (setAll_cons e0 (setAll_cons e3 (setAll_cons e4 (setAll_cons e5 setAll_nil)))) (by kernel_rfl) (by kernel_rfl) h
theorem F60_4_ok (R : Rt) (J1 : (Int × Int) → World → Prop) (l0 : SV) (n3 : Int) (n4 : Int) (n5 : Int) (ds : Ds) (w : World) (ρ : Env) (e0 : ρ 0 = .slice l0.a l0.len l0.cap) (e3 : ρ 3 = .int .i64 n3) (e4 : ρ 4 = .int .i64 n4) (e5 : ρ 5 = .int .i64 n5) (h : F60_4 R J1 l0 n3 n4 n5 ds w) :
    TrL Try.prog Try.f60.ntmps [c60_3_0_2_2_0] (F60_q9 R J1) ρ ds w :=
  TrL_one (Tr_loop' (c := innerC c60_3_0_2_2_0) (σ := Int) (enc := (fun (s : Int) (ρ : Env) => ρ 5 = .int .i64 s)) (D := (fun ρ K => dInt .i64 (ρ 5) fun n5 => K n5)) (F := (fun (J2 : (Int) → World → Prop) (s : Int) (w : World) => F60_3 R J1 J2 l0 n3 n4 s ds w)) (s0 := n5) (by kernel_rfl) c60_3_0_2_2_0_l e5 (by kernel_rfl) (fun ρ K hD => by obtain ⟨n5, e5, hD⟩ := dInt_elim hD; exact ⟨n5, e5, hD⟩)
      (fun J2 s ρ' w' he ha hF => by
      have e5' := he
      exact F60_3_ok R J1 J2 l0 n3 n4 s ds w' ρ' ((ha 0 (by kernel_rfl)).trans e0) ((ha 3 (by kernel_rfl)).trans e3) ((ha 4 (by kernel_rfl)).trans e4) e5' hF) h)
theorem F60_5_ok (R : Rt) (J1 : (Int × Int) → World → Prop) (l0 : SV) (n3 : Int) (n4 : Int) (n5 : Int) (ds : Ds) (w : World) (ρ : Env) (e0 : ρ 0 = .slice l0.a l0.len l0.cap) (e3 : ρ 3 = .int .i64 n3) (e4 : ρ 4 = .int .i64 n4) (e5 : ρ 5 = .int .i64 n5) (h : F60_5 R J1 l0 n3 n4 n5 ds w) :
    TrL Try.prog Try.f60.ntmps [c60_3_0_2_2] (F60_q8 R J1) ρ ds w :=
  TrL_one (Tr_block' (c := innerC c60_3_0_2_2) (by kernel_rfl) c60_3_0_2_2_l (F60_4_ok R J1 l0 n3 n4 n5 ds w ρ e0 e3 e4 e5 h))
theorem F60_6_ok (R : Rt) (J1 : (Int × Int) → World → Prop) (l0 : SV) (n3 : Int) (n4 : Int) (ds : Ds) (w : World) (ρ : Env) (e0 : ρ 0 = .slice l0.a l0.len l0.cap) (e3 : ρ 3 = .int .i64 n3) (e4 : ρ 4 = .int .i64 n4) (h : F60_6 R J1 l0 n3 n4 ds w) :
    TrL Try.prog Try.f60.ntmps [c60_3_0_2_0, c60_3_0_2_1, c60_3_0_2_2] (F60_q8 R J1) ρ ds w :=
  TrL_piece (pre := [c60_3_0_2_0, c60_3_0_2_1]) (K := (F60_k11 R J1)) (X := F60_6 R J1 l0 n3 n4 ds w) (setAll_cons e0 (setAll_cons e3 (setAll_cons e4 setAll_nil))) (by kernel_rfl) (by kernel_rfl)
    (fun ρ' ds' w' hD => by
      obtain ⟨l0, e0, hD⟩ := dSl_elim hD; obtain ⟨n3, e3, hD⟩ := dInt_elim hD; obtain ⟨n4, e4, hD⟩ := dInt_elim hD; obtain ⟨n5, e5, hD⟩ := dInt_elim hD; exact F60_5_ok R J1 l0 n3 n4 n5 ds' w' ρ' e0 e3 e4 e5 hD) h
theorem F60_7_ok (R : Rt) (J1 : (Int × Int) → World → Prop) (l0 : SV) (n3 : Int) (n4 : Int) (ds : Ds) (w : World) (ρ : Env) (e0 : ρ 0 = .slice l0.a l0.len l0.cap) (e3 : ρ 3 = .int .i64 n3) (e4 : ρ 4 = .int .i64 n4) (h : F60_7 R J1 l0 n3 n4 ds w) :
    TrL Try.prog Try.f60.ntmps [c60_3_0_2, c60_3_0_3] (F60_q5 R J1) ρ ds w :=
  TrL_head (K := (F60_k6 R J1)) (Tr_block' (c := innerC c60_3_0_2) (by kernel_rfl) c60_3_0_2_l (F60_6_ok R J1 l0 n3 n4 ds w ρ e0 e3 e4 h))
    (fun ρ' ds' w' hD => by
      obtain ⟨l0, e0, hD⟩ := dSl_elim hD; obtain ⟨n3, e3, hD⟩ := dInt_elim hD; obtain ⟨n4, e4, hD⟩ := dInt_elim hD; exact F60_2_ok R J1 l0 n3 n4 ds' w' ρ' e0 e3 e4 hD)
theorem F60_8_ok (R : Rt) (J1 : (Int × Int) → World → Prop) (l0 : SV) (n3 : Int) (n4 : Int) (ds : Ds) (w : World) (ρ : Env) (e0 : ρ 0 = .slice l0.a l0.len l0.cap) (e3 : ρ 3 = .int .i64 n3) (e4 : ρ 4 = .int .i64 n4) (h : F60_8 R J1 l0 n3 n4 ds w) :
    TrL Try.prog Try.f60.ntmps [c60_3_0_0, c60_3_0_1, c60_3_0_2, c60_3_0_3] (F60_q5 R J1) ρ ds w :=
  TrL_piece (pre := [c60_3_0_0, c60_3_0_1]) (K := (F60_k12 R J1)) (X := F60_8 R J1 l0 n3 n4 ds w) (setAll_cons e0 (setAll_cons e3 (setAll_cons e4 setAll_nil))) (by kernel_rfl) (by kernel_rfl)
    (fun ρ' ds' w' hD => by
      obtain ⟨l0, e0, hD⟩ := dSl_elim hD; obtain ⟨n3, e3, hD⟩ := dInt_elim hD; obtain ⟨n4, e4, hD⟩ := dInt_elim hD; exact F60_7_ok R J1 l0 n3 n4 ds' w' ρ' e0 e3 e4 hD) h
theorem F60_9_ok (R : Rt) (l0 : SV) (n3 : Int) (n4 : Int) (ds : Ds) (w : World) (ρ : Env) (e0 : ρ 0 = .slice l0.a l0.len l0.cap) (e3 : ρ 3 = .int .i64 n3) (e4 : ρ 4 = .int .i64 n4) (h : F60_9 R l0 n3 n4 ds w) :
    TrL Try.prog Try.f60.ntmps [c60_3_0] (F60_q4 R) ρ ds w :=
  TrL_one (Tr_loop' (c := innerC c60_3_0) (σ := Int × Int) (enc := (fun (s : Int × Int) (ρ : Env) => ρ 3 = .int .i64 s.1 ∧ ρ 4 = .int .i64 s.2)) (D := (fun ρ K => dInt .i64 (ρ 3) fun n3 => dInt .i64 (ρ 4) fun n4 => K (n3, n4))) (F := (fun (J1 : (Int × Int) → World → Prop) (s : Int × Int) (w : World) => F60_8 R J1 l0 s.1 s.2 ds w)) (s0 := (n3, n4)) (by kernel_rfl) c60_3_0_l ⟨e3, e4⟩ (by kernel_rfl) (fun ρ K hD => by obtain ⟨n3, e3, hD⟩ := dInt_elim hD; obtain ⟨n4, e4, hD⟩ := dInt_elim hD; exact ⟨(n3, n4), ⟨e3, e4⟩, hD⟩)
      (fun J1 s ρ' w' he ha hF => by
      obtain ⟨e3', e4'⟩ := he
      exact F60_8_ok R J1 l0 s.1 s.2 ds w' ρ' ((ha 0 (by kernel_rfl)).trans e0) e3' e4' hF) h)
theorem F60_10_ok (R : Rt) (l0 : SV) (n3 : Int) (n4 : Int) (ds : Ds) (w : World) (ρ : Env) (e0 : ρ 0 = .slice l0.a l0.len l0.cap) (e3 : ρ 3 = .int .i64 n3) (e4 : ρ 4 = .int .i64 n4) (h : F60_10 R l0 n3 n4 ds w) :
    TrL Try.prog Try.f60.ntmps [c60_3, c60_4, c60_5] (F60_q1 R) ρ ds w :=
  TrL_head (K := (F60_k2 R)) (Tr_block' (c := innerC c60_3) (by kernel_rfl) c60_3_l (F60_9_ok R l0 n3 n4 ds w ρ e0 e3 e4 h))
    (fun ρ' ds' w' hD => by
      obtain ⟨l0, e0, hD⟩ := dSl_elim hD; obtain ⟨n3, e3, hD⟩ := dInt_elim hD; exact F60_1_ok R l0 n3 ds' w' ρ' e0 e3 hD)
theorem F60_11_ok (R : Rt) (l0 : SV) (ds : Ds) (w : World) (ρ : Env) (e0 : ρ 0 = .slice l0.a l0.len l0.cap) (h : F60_11 R l0 ds w) :
    TrL Try.prog Try.f60.ntmps [c60_0, c60_1, c60_2, c60_3, c60_4, c60_5] (F60_q1 R) ρ ds w :=
  TrL_piece (pre := [c60_0, c60_1, c60_2]) (K := (F60_k13 R)) (X := F60_11 R l0 ds w) (setAll_cons e0 setAll_nil) (by kernel_rfl) (by kernel_rfl)
    (fun ρ' ds' w' hD => by
      obtain ⟨l0, e0, hD⟩ := dSl_elim hD; obtain ⟨n3, e3, hD⟩ := dInt_elim hD; obtain ⟨n4, e4, hD⟩ := dInt_elim hD; exact F60_10_ok R l0 n3 n4 ds' w' ρ' e0 e3 e4 hD) h
theorem F60_calls (l0 : SV) (w : World) (R : Rt) (h : F60_11 R l0 [] w) : Calls Try.prog 60 #[.slice l0.a l0.len l0.cap] w R :=
  calls_of_L (l := [c60_0, c60_1, c60_2, c60_3, c60_4, c60_5]) Try.func60 (by kernel_rfl) (by rw [Try.ntmps60]; exact Nat.le_of_ble_eq_true (by kernel_rfl)) c60_l
    (F60_11_ok R l0 [] w _ rfl h)
theorem F60_callsD (l0 : SV) (w : World) (R : Rt) (u : FrameMode) (h : F60_11 R l0 [] w) : CallsD Try.prog 60 #[.slice l0.a l0.len l0.cap] u w fun e u' w' => u' = u ∧ R e w' :=
  callsD_of_L (l := [c60_0, c60_1, c60_2, c60_3, c60_4, c60_5]) Try.func60 (by kernel_rfl) (by rw [Try.ntmps60]; exact Nat.le_of_ble_eq_true (by kernel_rfl)) (by kernel_rfl) c60_l
    (F60_11_ok R l0 [] w _ rfl h) u

/-! function 61: cabinetry/cabinetryref24.isModule -/
noncomputable def c61_0 : Code := itemAt (flat (bodyOf Try.f61)) 0
noncomputable def c61_1 : Code := itemAt (flat (bodyOf Try.f61)) 1
noncomputable def c61_2 : Code := itemAt (flat (bodyOf Try.f61)) 2
noncomputable def c61_3 : Code := itemAt (flat (bodyOf Try.f61)) 3
noncomputable def c61_4 : Code := itemAt (flat (bodyOf Try.f61)) 4
noncomputable def c61_5 : Code := itemAt (flat (bodyOf Try.f61)) 5
noncomputable def c61_6 : Code := itemAt (flat (bodyOf Try.f61)) 6
noncomputable def c61_7 : Code := itemAt (flat (bodyOf Try.f61)) 7
noncomputable def c61_8 : Code := itemAt (flat (bodyOf Try.f61)) 8
noncomputable def c61_9 : Code := itemAt (flat (bodyOf Try.f61)) 9
noncomputable def c61_10 : Code := itemAt (flat (bodyOf Try.f61)) 10
noncomputable def c61_8_0 : Code := itemAt (flat (innerC c61_8)) 0
noncomputable def c61_8_0_0 : Code := itemAt (flat (innerC c61_8_0)) 0
noncomputable def c61_8_0_1 : Code := itemAt (flat (innerC c61_8_0)) 1
noncomputable def c61_8_0_2 : Code := itemAt (flat (innerC c61_8_0)) 2
noncomputable def c61_8_0_3 : Code := itemAt (flat (innerC c61_8_0)) 3
noncomputable def c61_8_0_2_0 : Code := itemAt (flat (innerC c61_8_0_2)) 0
noncomputable def c61_8_0_2_1 : Code := itemAt (flat (innerC c61_8_0_2)) 1
noncomputable def c61_8_0_2_1_0 : Code := itemAt (flat (innerC c61_8_0_2_1)) 0
noncomputable def c61_8_0_2_1_0_0 : Code := itemAt (flat (innerC c61_8_0_2_1_0)) 0
noncomputable def c61_8_0_2_1_0_1 : Code := itemAt (flat (innerC c61_8_0_2_1_0)) 1
noncomputable def c61_8_0_2_1_0_2 : Code := itemAt (flat (innerC c61_8_0_2_1_0)) 2
noncomputable def c61_8_0_2_1_0_3 : Code := itemAt (flat (innerC c61_8_0_2_1_0)) 3
noncomputable def c61_6_0 : Code := itemAt (flat (innerC c61_6)) 0
noncomputable def c61_6_0_0 : Code := itemAt (flat (innerC c61_6_0)) 0
noncomputable def c61_6_0_1 : Code := itemAt (flat (innerC c61_6_0)) 1
noncomputable def c61_6_0_2 : Code := itemAt (flat (innerC c61_6_0)) 2
noncomputable def c61_6_0_3 : Code := itemAt (flat (innerC c61_6_0)) 3
noncomputable def c61_4_0 : Code := itemAt (flat (innerC c61_4)) 0
noncomputable def c61_4_0_0 : Code := itemAt (flat (innerC c61_4_0)) 0
noncomputable def c61_4_0_1 : Code := itemAt (flat (innerC c61_4_0)) 1
noncomputable def c61_4_0_2 : Code := itemAt (flat (innerC c61_4_0)) 2
noncomputable def c61_4_0_3 : Code := itemAt (flat (innerC c61_4_0)) 3
def F61_q1 (R : Rt) : EQ := endQ Try.prog Try.f61.results.toList R
def F61_1 (R : Rt) (ds : Ds) (w : World) : Prop :=
 runD Try.prog ds w fun w1 =>
 R (.returned (.bool true)) w1
def F61_k2 (R : Rt) : EP := (fun ρ ds w => F61_1 R ds w)
def F61_q3 (R : Rt) : EQ := (thenQ (F61_k2 R) (F61_q1 R))
def F61_q4 (R : Rt) : EQ := (blockQ 4 (F61_q3 R))
def F61_q5 (R : Rt) (J1 : (Int) → World → Prop) : EQ := (thenQ (fun ρ _ w => dInt .i64 (ρ 5) fun n5 => J1 n5 w) (F61_q4 R))
def F61_2 (R : Rt) (J1 : (Int) → World → Prop) (p1 : Option Addr) (n5 : Int) (ds : Ds) (w : World) : Prop :=
 J1 (IntKind.i64.wrap (n5 + 1)) w
def F61_k6 (R : Rt) (J1 : (Int) → World → Prop) : EP := (fun ρ ds w => dPtr (ρ 1) fun p1 => dInt .i64 (ρ 5) fun n5 => F61_2 R J1 p1 n5 ds w)
def F61_q7 (R : Rt) (J1 : (Int) → World → Prop) : EQ := (thenQ (F61_k6 R J1) (F61_q5 R J1))
def F61_q8 (R : Rt) (J1 : (Int) → World → Prop) : EQ := (blockQ 5 (F61_q7 R J1))
def F61_q9 (R : Rt) (J1 : (Int) → World → Prop) : EQ := (blockQ 6 (F61_q8 R J1))
def F61_q10 (R : Rt) (J1 : (Int) → World → Prop) (J2 : (Int) → World → Prop) : EQ := (thenQ (fun ρ _ w => dInt .i64 (ρ 6) fun n6 => J2 n6 w) (F61_q9 R J1))
def F61_3 (R : Rt) (J1 : (Int) → World → Prop) (J2 : (Int) → World → Prop) (p1 : Option Addr) (n5 : Int) (n6 : Int) (ds : Ds) (w : World) : Prop :=
 ptrE p1 fun a2 =>
 ∃ l65 : SV, w.cell? (a2.add 4) = some (.slice l65.a l65.len l65.cap) ∧
 ∃ a3 : Addr, l65.a = some a3 ∧ 0 ≤ n5 ∧ n5 < ((l65.len : Nat) : Int) ∧
 ∃ l68 : SV, w.cell? (a3.add (n5.toNat * 1)) = some (.slice l68.a l68.len l68.cap) ∧
 Br (decide (n6 < ((l68.len : Nat) : Int))) (
 ptrE p1 fun a4 =>
 ∃ l74 : SV, w.cell? (a4.add 4) = some (.slice l74.a l74.len l74.cap) ∧
 ∃ a5 : Addr, l74.a = some a5 ∧ 0 ≤ n5 ∧ n5 < ((l74.len : Nat) : Int) ∧
 ∃ l77 : SV, w.cell? (a5.add (n5.toNat * 1)) = some (.slice l77.a l77.len l77.cap) ∧
 ∃ a6 : Addr, l77.a = some a6 ∧ 0 ≤ n6 ∧ n6 < ((l77.len : Nat) : Int) ∧
 ∃ s80 : ByteArray, w.cell? (a6.add (n6.toNat * 1)) = some (.string s80) ∧
 Calls Try.prog 99 #[.string s80] w fun e w7 =>
 ∃ b81 : Bool, e = .returned (.bool b81) ∧
 Br (!b81) (
 runD Try.prog ds w7 fun w8 =>
 R (.returned (.bool false)) w8) (
 J2 (IntKind.i64.wrap (n6 + 1)) w7)) (
 F61_2 R J1 p1 n5 ds w)
def F61_4 (R : Rt) (J1 : (Int) → World → Prop) (p1 : Option Addr) (n5 : Int) (n6 : Int) (ds : Ds) (w : World) : Prop :=
 loopT (fun (J2 : (Int) → World → Prop) (s : Int) (w : World) => F61_3 R J1 J2 p1 n5 s ds w) n6 w
@[reducible] def F61_5 (R : Rt) (J1 : (Int) → World → Prop) (p1 : Option Addr) (n5 : Int) (n6 : Int) (ds : Ds) (w : World) : Prop := F61_4 R J1 p1 n5 n6 ds w
def F61_k11 (R : Rt) (J1 : (Int) → World → Prop) : EP := (fun ρ ds w => dPtr (ρ 1) fun p1 => dInt .i64 (ρ 5) fun n5 => dInt .i64 (ρ 6) fun n6 => F61_5 R J1 p1 n5 n6 ds w)
def F61_6 (R : Rt) (J1 : (Int) → World → Prop) (p1 : Option Addr) (n5 : Int) (ds : Ds) (w : World) : Prop :=
 F61_5 R J1 p1 n5 0 ds w
@[reducible] def F61_7 (R : Rt) (J1 : (Int) → World → Prop) (p1 : Option Addr) (n5 : Int) (ds : Ds) (w : World) : Prop := F61_6 R J1 p1 n5 ds w
def F61_k12 (R : Rt) (J1 : (Int) → World → Prop) : EP := (fun ρ ds w => dPtr (ρ 1) fun p1 => dInt .i64 (ρ 5) fun n5 => F61_7 R J1 p1 n5 ds w)
def F61_8 (R : Rt) (J1 : (Int) → World → Prop) (p1 : Option Addr) (n5 : Int) (ds : Ds) (w : World) : Prop :=
 ptrE p1 fun a9 =>
 ∃ l58 : SV, w.cell? (a9.add 4) = some (.slice l58.a l58.len l58.cap) ∧
 Br (decide (n5 < ((l58.len : Nat) : Int))) (
 F61_7 R J1 p1 n5 ds w) (
 F61_1 R ds w)
def F61_9 (R : Rt) (p1 : Option Addr) (n5 : Int) (ds : Ds) (w : World) : Prop :=
 loopT (fun (J1 : (Int) → World → Prop) (s : Int) (w : World) => F61_8 R J1 p1 s ds w) n5 w
@[reducible] def F61_10 (R : Rt) (p1 : Option Addr) (n5 : Int) (ds : Ds) (w : World) : Prop := F61_9 R p1 n5 ds w
def F61_k13 (R : Rt) : EP := (fun ρ ds w => dPtr (ρ 1) fun p1 => dInt .i64 (ρ 5) fun n5 => F61_10 R p1 n5 ds w)
def F61_11 (R : Rt) (p1 : Option Addr) (ds : Ds) (w : World) : Prop :=
 F61_10 R p1 0 ds w
def F61_k14 (R : Rt) : EP := (fun ρ ds w => dPtr (ρ 1) fun p1 => F61_11 R p1 ds w)
def F61_q15 (R : Rt) : EQ := (thenQ (F61_k14 R) (F61_q1 R))
def F61_q16 (R : Rt) : EQ := (blockQ 2 (F61_q15 R))
def F61_q17 (R : Rt) (J1 : (Int) → World → Prop) : EQ := (thenQ (fun ρ _ w => dInt .i64 (ρ 4) fun n4 => J1 n4 w) (F61_q16 R))
def F61_12 (R : Rt) (J1 : (Int) → World → Prop) (p1 : Option Addr) (n4 : Int) (ds : Ds) (w : World) : Prop :=
 ptrE p1 fun a10 =>
 ∃ l37 : SV, w.cell? (a10.add 3) = some (.slice l37.a l37.len l37.cap) ∧
 Br (decide (n4 < ((l37.len : Nat) : Int))) (
 ptrE p1 fun a11 =>
 ∃ l43 : SV, w.cell? (a11.add 3) = some (.slice l43.a l43.len l43.cap) ∧
 ∃ a12 : Addr, l43.a = some a12 ∧ 0 ≤ n4 ∧ n4 < ((l43.len : Nat) : Int) ∧
 ∃ n46 : Int, w.cell? (a12.add (n4.toNat * 1)) = some (.int .i64 n46) ∧
 Br (decide (n46 < 1)) (
 runD Try.prog ds w fun w13 =>
 R (.returned (.bool false)) w13) (
 ptrE p1 fun a14 =>
 ∃ l50 : SV, w.cell? (a14.add 3) = some (.slice l50.a l50.len l50.cap) ∧
 ∃ a15 : Addr, l50.a = some a15 ∧ 0 ≤ n4 ∧ n4 < ((l50.len : Nat) : Int) ∧
 ∃ n53 : Int, w.cell? (a15.add (n4.toNat * 1)) = some (.int .i64 n53) ∧
 Br (decide (n53 > 10000)) (
 runD Try.prog ds w fun w16 =>
 R (.returned (.bool false)) w16) (
 J1 (IntKind.i64.wrap (n4 + 1)) w))) (
 F61_11 R p1 ds w)
def F61_13 (R : Rt) (p1 : Option Addr) (n4 : Int) (ds : Ds) (w : World) : Prop :=
 loopT (fun (J1 : (Int) → World → Prop) (s : Int) (w : World) => F61_12 R J1 p1 s ds w) n4 w
@[reducible] def F61_14 (R : Rt) (p1 : Option Addr) (n4 : Int) (ds : Ds) (w : World) : Prop := F61_13 R p1 n4 ds w
def F61_k18 (R : Rt) : EP := (fun ρ ds w => dPtr (ρ 1) fun p1 => dInt .i64 (ρ 4) fun n4 => F61_14 R p1 n4 ds w)
def F61_15 (R : Rt) (p1 : Option Addr) (ds : Ds) (w : World) : Prop :=
 F61_14 R p1 0 ds w
def F61_k19 (R : Rt) : EP := (fun ρ ds w => dPtr (ρ 1) fun p1 => F61_15 R p1 ds w)
def F61_q20 (R : Rt) : EQ := (thenQ (F61_k19 R) (F61_q1 R))
def F61_q21 (R : Rt) : EQ := (blockQ 0 (F61_q20 R))
def F61_q22 (R : Rt) (J1 : (Int) → World → Prop) : EQ := (thenQ (fun ρ _ w => dInt .i64 (ρ 3) fun n3 => J1 n3 w) (F61_q21 R))
def F61_16 (R : Rt) (J1 : (Int) → World → Prop) (p1 : Option Addr) (n3 : Int) (ds : Ds) (w : World) : Prop :=
 ptrE p1 fun a17 =>
 ∃ l23 : SV, w.cell? (a17.add 2) = some (.slice l23.a l23.len l23.cap) ∧
 Br (decide (n3 < ((l23.len : Nat) : Int))) (
 ptrE p1 fun a18 =>
 ∃ l29 : SV, w.cell? (a18.add 2) = some (.slice l29.a l29.len l29.cap) ∧
 ∃ a19 : Addr, l29.a = some a19 ∧ 0 ≤ n3 ∧ n3 < ((l29.len : Nat) : Int) ∧
 ∃ s32 : ByteArray, w.cell? (a19.add (n3.toNat * 1)) = some (.string s32) ∧
 Calls Try.prog 99 #[.string s32] w fun e w20 =>
 ∃ b33 : Bool, e = .returned (.bool b33) ∧
 Br (!b33) (
 runD Try.prog ds w20 fun w21 =>
 R (.returned (.bool false)) w21) (
 J1 (IntKind.i64.wrap (n3 + 1)) w20)) (
 F61_15 R p1 ds w)
def F61_17 (R : Rt) (p1 : Option Addr) (n3 : Int) (ds : Ds) (w : World) : Prop :=
 loopT (fun (J1 : (Int) → World → Prop) (s : Int) (w : World) => F61_16 R J1 p1 s ds w) n3 w
@[reducible] def F61_18 (R : Rt) (p1 : Option Addr) (n3 : Int) (ds : Ds) (w : World) : Prop := F61_17 R p1 n3 ds w
def F61_k23 (R : Rt) : EP := (fun ρ ds w => dPtr (ρ 1) fun p1 => dInt .i64 (ρ 3) fun n3 => F61_18 R p1 n3 ds w)
def F61_19 (R : Rt) (s0_0 : ByteArray) (n0_1 : Int) (l0_2 : SV) (l0_3 : SV) (l0_4 : SV) (ds : Ds) (w : World) : Prop :=
 alE (.cells #[.string s0_0, .int .i64 n0_1, .slice l0_2.a l0_2.len l0_2.cap, .slice l0_3.a l0_3.len l0_3.cap, .slice l0_4.a l0_4.len l0_4.cap] 33) w fun r1 w22 =>
 ∃ s8 : ByteArray, w22.cell? (⟨r1, 0, none⟩ : Addr) = some (.string s8) ∧
 Calls Try.prog 99 #[.string s8] w22 fun e w23 =>
 ∃ b9 : Bool, e = .returned (.bool b9) ∧
 Br (!b9) (
 runD Try.prog ds w23 fun w24 =>
 R (.returned (.bool false)) w24) (
 ∃ n13 : Int, w23.cell? ((⟨r1, 0, none⟩ : Addr).add 1) = some (.int .i64 n13) ∧
 Br (decide (n13 < 0)) (
 runD Try.prog ds w23 fun w25 =>
 R (.returned (.bool false)) w25) (
 ∃ n18 : Int, w23.cell? ((⟨r1, 0, none⟩ : Addr).add 1) = some (.int .i64 n18) ∧
 Br (decide (n18 > 15)) (
 runD Try.prog ds w23 fun w26 =>
 R (.returned (.bool false)) w26) (
 F61_18 R (some (⟨r1, 0, none⟩ : Addr)) 0 ds w23)))
theorem c61_l : flat (bodyOf Try.f61) = [c61_0, c61_1, c61_2, c61_3, c61_4, c61_5, c61_6, c61_7, c61_8, c61_9, c61_10] := by kernel_rfl
theorem c61_8_l : flat (innerC c61_8) = [c61_8_0] := by kernel_rfl
theorem c61_8_0_l : flat (innerC c61_8_0) = [c61_8_0_0, c61_8_0_1, c61_8_0_2, c61_8_0_3] := by kernel_rfl
theorem c61_8_0_2_l : flat (innerC c61_8_0_2) = [c61_8_0_2_0, c61_8_0_2_1] := by kernel_rfl
theorem c61_8_0_2_1_l : flat (innerC c61_8_0_2_1) = [c61_8_0_2_1_0] := by kernel_rfl
theorem c61_8_0_2_1_0_l : flat (innerC c61_8_0_2_1_0) = [c61_8_0_2_1_0_0, c61_8_0_2_1_0_1, c61_8_0_2_1_0_2, c61_8_0_2_1_0_3] := by kernel_rfl
theorem c61_6_l : flat (innerC c61_6) = [c61_6_0] := by kernel_rfl
theorem c61_6_0_l : flat (innerC c61_6_0) = [c61_6_0_0, c61_6_0_1, c61_6_0_2, c61_6_0_3] := by kernel_rfl
theorem c61_4_l : flat (innerC c61_4) = [c61_4_0] := by kernel_rfl
theorem c61_4_0_l : flat (innerC c61_4_0) = [c61_4_0_0, c61_4_0_1, c61_4_0_2, c61_4_0_3] := by kernel_rfl
theorem F61_1_ok (R : Rt) (ds : Ds) (w : World) (ρ : Env) (h : F61_1 R ds w) :
    TrL Try.prog Try.f61.ntmps [c61_9, c61_10] (F61_q1 R) ρ ds w :=
  TrL_leaf (X := F61_1 R ds w) setAll_nil (by kernel_rfl) (by kernel_rfl) h
theorem F61_2_ok (R : Rt) (J1 : (Int) → World → Prop) (p1 : Option Addr) (n5 : Int) (ds : Ds) (w : World) (ρ : Env) (e1 : ρ 1 = .pointer p1) (e5 : ρ 5 = .int .i64 n5) (h : F61_2 R J1 p1 n5 ds w) :
    TrL Try.prog Try.f61.ntmps [c61_8_0_3] (F61_q5 R J1) ρ ds w :=
  TrL_leaf (X := F61_2 R J1 p1 n5 ds w) (setAll_cons e1 (setAll_cons e5 setAll_nil)) (by kernel_rfl) (by kernel_rfl) h
theorem F61_3_ok (R : Rt) (J1 : (Int) → World → Prop) (J2 : (Int) → World → Prop) (p1 : Option Addr) (n5 : Int) (n6 : Int) (ds : Ds) (w : World) (ρ : Env) (e1 : ρ 1 = .pointer p1) (e5 : ρ 5 = .int .i64 n5) (e6 : ρ 6 = .int .i64 n6) (h : F61_3 R J1 J2 p1 n5 n6 ds w) :
    TrL Try.prog Try.f61.ntmps [c61_8_0_2_1_0_0, c61_8_0_2_1_0_1, c61_8_0_2_1_0_2, c61_8_0_2_1_0_3] (F61_q10 R J1 J2) ρ ds w :=
  TrL_leaf (X := F61_3 R J1 J2 p1 n5 n6 ds w) (setAll_cons e1 (setAll_cons e5 (setAll_cons e6 setAll_nil))) (by kernel_rfl) (by kernel_rfl) h
theorem F61_4_ok (R : Rt) (J1 : (Int) → World → Prop) (p1 : Option Addr) (n5 : Int) (n6 : Int) (ds : Ds) (w : World) (ρ : Env) (e1 : ρ 1 = .pointer p1) (e5 : ρ 5 = .int .i64 n5) (e6 : ρ 6 = .int .i64 n6) (h : F61_4 R J1 p1 n5 n6 ds w) :
    TrL Try.prog Try.f61.ntmps [c61_8_0_2_1_0] (F61_q9 R J1) ρ ds w :=
  TrL_one (Tr_loop' (c := innerC c61_8_0_2_1_0) (σ := Int) (enc := (fun (s : Int) (ρ : Env) => ρ 6 = .int .i64 s)) (D := (fun ρ K => dInt .i64 (ρ 6) fun n6 => K n6)) (F := (fun (J2 : (Int) → World → Prop) (s : Int) (w : World) => F61_3 R J1 J2 p1 n5 s ds w)) (s0 := n6) (by kernel_rfl) c61_8_0_2_1_0_l e6 (by kernel_rfl) (fun ρ K hD => by obtain ⟨n6, e6, hD⟩ := dInt_elim hD; exact ⟨n6, e6, hD⟩)
      (fun J2 s ρ' w' he ha hF => by
      have e6' := he
      exact F61_3_ok R J1 J2 p1 n5 s ds w' ρ' ((ha 1 (by kernel_rfl)).trans e1) ((ha 5 (by kernel_rfl)).trans e5) e6' hF) h)
theorem F61_5_ok (R : Rt) (J1 : (Int) → World → Prop) (p1 : Option Addr) (n5 : Int) (n6 : Int) (ds : Ds) (w : World) (ρ : Env) (e1 : ρ 1 = .pointer p1) (e5 : ρ 5 = .int .i64 n5) (e6 : ρ 6 = .int .i64 n6) (h : F61_5 R J1 p1 n5 n6 ds w) :
    TrL Try.prog Try.f61.ntmps [c61_8_0_2_1] (F61_q8 R J1) ρ ds w :=
  TrL_one (Tr_block' (c := innerC c61_8_0_2_1) (by kernel_rfl) c61_8_0_2_1_l (F61_4_ok R J1 p1 n5 n6 ds w ρ e1 e5 e6 h))
theorem F61_6_ok (R : Rt) (J1 : (Int) → World → Prop) (p1 : Option Addr) (n5 : Int) (ds : Ds) (w : World) (ρ : Env) (e1 : ρ 1 = .pointer p1) (e5 : ρ 5 = .int .i64 n5) (h : F61_6 R J1 p1 n5 ds w) :
    TrL Try.prog Try.f61.ntmps [c61_8_0_2_0, c61_8_0_2_1] (F61_q8 R J1) ρ ds w :=
  TrL_piece (pre := [c61_8_0_2_0]) (K := (F61_k11 R J1)) (X := F61_6 R J1 p1 n5 ds w) (setAll_cons e1 (setAll_cons e5 setAll_nil)) (by kernel_rfl) (by kernel_rfl)
    (fun ρ' ds' w' hD => by
      obtain ⟨p1, e1, hD⟩ := dPtr_elim hD; obtain ⟨n5, e5, hD⟩ := dInt_elim hD; obtain ⟨n6, e6, hD⟩ := dInt_elim hD; exact F61_5_ok R J1 p1 n5 n6 ds' w' ρ' e1 e5 e6 hD) h
theorem F61_7_ok (R : Rt) (J1 : (Int) → World → Prop) (p1 : Option Addr) (n5 : Int) (ds : Ds) (w : World) (ρ : Env) (e1 : ρ 1 = .pointer p1) (e5 : ρ 5 = .int .i64 n5) (h : F61_7 R J1 p1 n5 ds w) :
    TrL Try.prog Try.f61.ntmps [c61_8_0_2, c61_8_0_3] (F61_q5 R J1) ρ ds w :=
  TrL_head (K := (F61_k6 R J1)) (Tr_block' (c := innerC c61_8_0_2) (by kernel_rfl) c61_8_0_2_l (F61_6_ok R J1 p1 n5 ds w ρ e1 e5 h))
    (fun ρ' ds' w' hD => by
      obtain ⟨p1, e1, hD⟩ := dPtr_elim hD; obtain ⟨n5, e5, hD⟩ := dInt_elim hD; exact F61_2_ok R J1 p1 n5 ds' w' ρ' e1 e5 hD)
theorem F61_8_ok (R : Rt) (J1 : (Int) → World → Prop) (p1 : Option Addr) (n5 : Int) (ds : Ds) (w : World) (ρ : Env) (e1 : ρ 1 = .pointer p1) (e5 : ρ 5 = .int .i64 n5) (h : F61_8 R J1 p1 n5 ds w) :
    TrL Try.prog Try.f61.ntmps [c61_8_0_0, c61_8_0_1, c61_8_0_2, c61_8_0_3] (F61_q5 R J1) ρ ds w :=
  TrL_piece (pre := [c61_8_0_0, c61_8_0_1]) (K := (F61_k12 R J1)) (X := F61_8 R J1 p1 n5 ds w) (setAll_cons e1 (setAll_cons e5 setAll_nil)) (by kernel_rfl) (by kernel_rfl)
    (fun ρ' ds' w' hD => by
      obtain ⟨p1, e1, hD⟩ := dPtr_elim hD; obtain ⟨n5, e5, hD⟩ := dInt_elim hD; exact F61_7_ok R J1 p1 n5 ds' w' ρ' e1 e5 hD) h
theorem F61_9_ok (R : Rt) (p1 : Option Addr) (n5 : Int) (ds : Ds) (w : World) (ρ : Env) (e1 : ρ 1 = .pointer p1) (e5 : ρ 5 = .int .i64 n5) (h : F61_9 R p1 n5 ds w) :
    TrL Try.prog Try.f61.ntmps [c61_8_0] (F61_q4 R) ρ ds w :=
  TrL_one (Tr_loop' (c := innerC c61_8_0) (σ := Int) (enc := (fun (s : Int) (ρ : Env) => ρ 5 = .int .i64 s)) (D := (fun ρ K => dInt .i64 (ρ 5) fun n5 => K n5)) (F := (fun (J1 : (Int) → World → Prop) (s : Int) (w : World) => F61_8 R J1 p1 s ds w)) (s0 := n5) (by kernel_rfl) c61_8_0_l e5 (by kernel_rfl) (fun ρ K hD => by obtain ⟨n5, e5, hD⟩ := dInt_elim hD; exact ⟨n5, e5, hD⟩)
      (fun J1 s ρ' w' he ha hF => by
      have e5' := he
      exact F61_8_ok R J1 p1 s ds w' ρ' ((ha 1 (by kernel_rfl)).trans e1) e5' hF) h)
theorem F61_10_ok (R : Rt) (p1 : Option Addr) (n5 : Int) (ds : Ds) (w : World) (ρ : Env) (e1 : ρ 1 = .pointer p1) (e5 : ρ 5 = .int .i64 n5) (h : F61_10 R p1 n5 ds w) :
    TrL Try.prog Try.f61.ntmps [c61_8, c61_9, c61_10] (F61_q1 R) ρ ds w :=
  TrL_head (K := (F61_k2 R)) (Tr_block' (c := innerC c61_8) (by kernel_rfl) c61_8_l (F61_9_ok R p1 n5 ds w ρ e1 e5 h))
    (fun ρ' ds' w' hD => by
      exact F61_1_ok R ds' w' ρ'  hD)
theorem F61_11_ok (R : Rt) (p1 : Option Addr) (ds : Ds) (w : World) (ρ : Env) (e1 : ρ 1 = .pointer p1) (h : F61_11 R p1 ds w) :
    TrL Try.prog Try.f61.ntmps [c61_7, c61_8, c61_9, c61_10] (F61_q1 R) ρ ds w :=
  TrL_piece (pre := [c61_7]) (K := (F61_k13 R)) (X := F61_11 R p1 ds w) (setAll_cons e1 setAll_nil) (by kernel_rfl) (by kernel_rfl)
    (fun ρ' ds' w' hD => by
      obtain ⟨p1, e1, hD⟩ := dPtr_elim hD; obtain ⟨n5, e5, hD⟩ := dInt_elim hD; exact F61_10_ok R p1 n5 ds' w' ρ' e1 e5 hD) h
theorem F61_12_ok (R : Rt) (J1 : (Int) → World → Prop) (p1 : Option Addr) (n4 : Int) (ds : Ds) (w : World) (ρ : Env) (e1 : ρ 1 = .pointer p1) (e4 : ρ 4 = .int .i64 n4) (h : F61_12 R J1 p1 n4 ds w) :
    TrL Try.prog Try.f61.ntmps [c61_6_0_0, c61_6_0_1, c61_6_0_2, c61_6_0_3] (F61_q17 R J1) ρ ds w :=
  TrL_leaf (X := F61_12 R J1 p1 n4 ds w) (setAll_cons e1 (setAll_cons e4 setAll_nil)) (by kernel_rfl) (by kernel_rfl) h
theorem F61_13_ok (R : Rt) (p1 : Option Addr) (n4 : Int) (ds : Ds) (w : World) (ρ : Env) (e1 : ρ 1 = .pointer p1) (e4 : ρ 4 = .int .i64 n4) (h : F61_13 R p1 n4 ds w) :
    TrL Try.prog Try.f61.ntmps [c61_6_0] (F61_q16 R) ρ ds w :=
  TrL_one (Tr_loop' (c := innerC c61_6_0) (σ := Int) (enc := (fun (s : Int) (ρ : Env) => ρ 4 = .int .i64 s)) (D := (fun ρ K => dInt .i64 (ρ 4) fun n4 => K n4)) (F := (fun (J1 : (Int) → World → Prop) (s : Int) (w : World) => F61_12 R J1 p1 s ds w)) (s0 := n4) (by kernel_rfl) c61_6_0_l e4 (by kernel_rfl) (fun ρ K hD => by obtain ⟨n4, e4, hD⟩ := dInt_elim hD; exact ⟨n4, e4, hD⟩)
      (fun J1 s ρ' w' he ha hF => by
      have e4' := he
      exact F61_12_ok R J1 p1 s ds w' ρ' ((ha 1 (by kernel_rfl)).trans e1) e4' hF) h)
theorem F61_14_ok (R : Rt) (p1 : Option Addr) (n4 : Int) (ds : Ds) (w : World) (ρ : Env) (e1 : ρ 1 = .pointer p1) (e4 : ρ 4 = .int .i64 n4) (h : F61_14 R p1 n4 ds w) :
    TrL Try.prog Try.f61.ntmps [c61_6, c61_7, c61_8, c61_9, c61_10] (F61_q1 R) ρ ds w :=
  TrL_head (K := (F61_k14 R)) (Tr_block' (c := innerC c61_6) (by kernel_rfl) c61_6_l (F61_13_ok R p1 n4 ds w ρ e1 e4 h))
    (fun ρ' ds' w' hD => by
      obtain ⟨p1, e1, hD⟩ := dPtr_elim hD; exact F61_11_ok R p1 ds' w' ρ' e1 hD)
theorem F61_15_ok (R : Rt) (p1 : Option Addr) (ds : Ds) (w : World) (ρ : Env) (e1 : ρ 1 = .pointer p1) (h : F61_15 R p1 ds w) :
    TrL Try.prog Try.f61.ntmps [c61_5, c61_6, c61_7, c61_8, c61_9, c61_10] (F61_q1 R) ρ ds w :=
  TrL_piece (pre := [c61_5]) (K := (F61_k18 R)) (X := F61_15 R p1 ds w) (setAll_cons e1 setAll_nil) (by kernel_rfl) (by kernel_rfl)
    (fun ρ' ds' w' hD => by
      obtain ⟨p1, e1, hD⟩ := dPtr_elim hD; obtain ⟨n4, e4, hD⟩ := dInt_elim hD; exact F61_14_ok R p1 n4 ds' w' ρ' e1 e4 hD) h
theorem F61_16_ok (R : Rt) (J1 : (Int) → World → Prop) (p1 : Option Addr) (n3 : Int) (ds : Ds) (w : World) (ρ : Env) (e1 : ρ 1 = .pointer p1) (e3 : ρ 3 = .int .i64 n3) (h : F61_16 R J1 p1 n3 ds w) :
    TrL Try.prog Try.f61.ntmps [c61_4_0_0, c61_4_0_1, c61_4_0_2, c61_4_0_3] (F61_q22 R J1) ρ ds w :=
  TrL_leaf (X := F61_16 R J1 p1 n3 ds w) (setAll_cons e1 (setAll_cons e3 setAll_nil)) (by kernel_rfl) (by kernel_rfl) h
theorem F61_17_ok (R : Rt) (p1 : Option Addr) (n3 : Int) (ds : Ds) (w : World) (ρ : Env) (e1 : ρ 1 = .pointer p1) (e3 : ρ 3 = .int .i64 n3) (h : F61_17 R p1 n3 ds w) :
    TrL Try.prog Try.f61.ntmps [c61_4_0] (F61_q21 R) ρ ds w :=
  TrL_one (Tr_loop' (c := innerC c61_4_0) (σ := Int) (enc := (fun (s : Int) (ρ : Env) => ρ 3 = .int .i64 s)) (D := (fun ρ K => dInt .i64 (ρ 3) fun n3 => K n3)) (F := (fun (J1 : (Int) → World → Prop) (s : Int) (w : World) => F61_16 R J1 p1 s ds w)) (s0 := n3) (by kernel_rfl) c61_4_0_l e3 (by kernel_rfl) (fun ρ K hD => by obtain ⟨n3, e3, hD⟩ := dInt_elim hD; exact ⟨n3, e3, hD⟩)
      (fun J1 s ρ' w' he ha hF => by
      have e3' := he
      exact F61_16_ok R J1 p1 s ds w' ρ' ((ha 1 (by kernel_rfl)).trans e1) e3' hF) h)
theorem F61_18_ok (R : Rt) (p1 : Option Addr) (n3 : Int) (ds : Ds) (w : World) (ρ : Env) (e1 : ρ 1 = .pointer p1) (e3 : ρ 3 = .int .i64 n3) (h : F61_18 R p1 n3 ds w) :
    TrL Try.prog Try.f61.ntmps [c61_4, c61_5, c61_6, c61_7, c61_8, c61_9, c61_10] (F61_q1 R) ρ ds w :=
  TrL_head (K := (F61_k19 R)) (Tr_block' (c := innerC c61_4) (by kernel_rfl) c61_4_l (F61_17_ok R p1 n3 ds w ρ e1 e3 h))
    (fun ρ' ds' w' hD => by
      obtain ⟨p1, e1, hD⟩ := dPtr_elim hD; exact F61_15_ok R p1 ds' w' ρ' e1 hD)
theorem F61_19_ok (R : Rt) (s0_0 : ByteArray) (n0_1 : Int) (l0_2 : SV) (l0_3 : SV) (l0_4 : SV) (ds : Ds) (w : World) (ρ : Env) (e0 : ρ 0 = .agg #[.string s0_0, .int .i64 n0_1, .slice l0_2.a l0_2.len l0_2.cap, .slice l0_3.a l0_3.len l0_3.cap, .slice l0_4.a l0_4.len l0_4.cap]) (h : F61_19 R s0_0 n0_1 l0_2 l0_3 l0_4 ds w) :
    TrL Try.prog Try.f61.ntmps [c61_0, c61_1, c61_2, c61_3, c61_4, c61_5, c61_6, c61_7, c61_8, c61_9, c61_10] (F61_q1 R) ρ ds w :=
  TrL_piece (pre := [c61_0, c61_1, c61_2, c61_3]) (K := (F61_k23 R)) (X := F61_19 R s0_0 n0_1 l0_2 l0_3 l0_4 ds w) (setAll_cons e0 setAll_nil) (by kernel_rfl) (by kernel_rfl)
    (fun ρ' ds' w' hD => by
      obtain ⟨p1, e1, hD⟩ := dPtr_elim hD; obtain ⟨n3, e3, hD⟩ := dInt_elim hD; exact F61_18_ok R p1 n3 ds' w' ρ' e1 e3 hD) h
theorem F61_calls (s0_0 : ByteArray) (n0_1 : Int) (l0_2 : SV) (l0_3 : SV) (l0_4 : SV) (w : World) (R : Rt) (h : F61_19 R s0_0 n0_1 l0_2 l0_3 l0_4 [] w) : Calls Try.prog 61 #[.agg #[.string s0_0, .int .i64 n0_1, .slice l0_2.a l0_2.len l0_2.cap, .slice l0_3.a l0_3.len l0_3.cap, .slice l0_4.a l0_4.len l0_4.cap]] w R :=
  calls_of_L (l := [c61_0, c61_1, c61_2, c61_3, c61_4, c61_5, c61_6, c61_7, c61_8, c61_9, c61_10]) Try.func61 (by kernel_rfl) (by rw [Try.ntmps61]; exact Nat.le_of_ble_eq_true (by kernel_rfl)) c61_l
    (F61_19_ok R s0_0 n0_1 l0_2 l0_3 l0_4 [] w _ rfl h)
theorem F61_callsD (s0_0 : ByteArray) (n0_1 : Int) (l0_2 : SV) (l0_3 : SV) (l0_4 : SV) (w : World) (R : Rt) (u : FrameMode) (h : F61_19 R s0_0 n0_1 l0_2 l0_3 l0_4 [] w) : CallsD Try.prog 61 #[.agg #[.string s0_0, .int .i64 n0_1, .slice l0_2.a l0_2.len l0_2.cap, .slice l0_3.a l0_3.len l0_3.cap, .slice l0_4.a l0_4.len l0_4.cap]] u w fun e u' w' => u' = u ∧ R e w' :=
  callsD_of_L (l := [c61_0, c61_1, c61_2, c61_3, c61_4, c61_5, c61_6, c61_7, c61_8, c61_9, c61_10]) Try.func61 (by kernel_rfl) (by rw [Try.ntmps61]; exact Nat.le_of_ble_eq_true (by kernel_rfl)) (by kernel_rfl) c61_l
    (F61_19_ok R s0_0 n0_1 l0_2 l0_3 l0_4 [] w _ rfl h) u

/-! function 63: cabinetry/cabinetryref24.whole -/
noncomputable def c63_0 : Code := itemAt (flat (bodyOf Try.f63)) 0
noncomputable def c63_1 : Code := itemAt (flat (bodyOf Try.f63)) 1
noncomputable def c63_2 : Code := itemAt (flat (bodyOf Try.f63)) 2
noncomputable def c63_3 : Code := itemAt (flat (bodyOf Try.f63)) 3
noncomputable def c63_4 : Code := itemAt (flat (bodyOf Try.f63)) 4
noncomputable def c63_5 : Code := itemAt (flat (bodyOf Try.f63)) 5
noncomputable def c63_6 : Code := itemAt (flat (bodyOf Try.f63)) 6
noncomputable def c63_7 : Code := itemAt (flat (bodyOf Try.f63)) 7
def F63_q1 (R : Rt) : EQ := endQ Try.prog Try.f63.results.toList R
def F63_1 (R : Rt) (l0 : SV) (ds : Ds) (w : World) : Prop :=
 Calls Try.prog 24 #[.slice l0.a l0.len l0.cap] w fun e w1 =>
 ∃ n5 : Int, e = .returned (.int .i64 n5) ∧
 Br (n5 != 0) (
 runD Try.prog ds w1 fun w2 =>
 R (.returned (.int .i64 n5)) w2) (
 Calls Try.prog 55 #[.slice l0.a l0.len l0.cap] w1 fun e w3 =>
 ∃ l10 : SV, e = .returned (.slice l10.a l10.len l10.cap) ∧
 Br (decide (((l10.len : Nat) : Int) > 0)) (
 runD Try.prog ds w3 fun w4 =>
 R (.returned (.int .i64 4)) w4) (
 runD Try.prog ds w3 fun w5 =>
 R (.returned (.int .i64 0)) w5))
theorem c63_l : flat (bodyOf Try.f63) = [c63_0, c63_1, c63_2, c63_3, c63_4, c63_5, c63_6, c63_7] := by kernel_rfl
theorem F63_1_ok (R : Rt) (l0 : SV) (ds : Ds) (w : World) (ρ : Env) (e0 : ρ 0 = .slice l0.a l0.len l0.cap) (h : F63_1 R l0 ds w) :
    TrL Try.prog Try.f63.ntmps [c63_0, c63_1, c63_2, c63_3, c63_4, c63_5, c63_6, c63_7] (F63_q1 R) ρ ds w :=
  TrL_leaf (X := F63_1 R l0 ds w) (setAll_cons e0 setAll_nil) (by kernel_rfl) (by kernel_rfl) h
theorem F63_calls (l0 : SV) (w : World) (R : Rt) (h : F63_1 R l0 [] w) : Calls Try.prog 63 #[.slice l0.a l0.len l0.cap] w R :=
  calls_of_L (l := [c63_0, c63_1, c63_2, c63_3, c63_4, c63_5, c63_6, c63_7]) Try.func63 (by kernel_rfl) (by rw [Try.ntmps63]; exact Nat.le_of_ble_eq_true (by kernel_rfl)) c63_l
    (F63_1_ok R l0 [] w _ rfl h)
theorem F63_callsD (l0 : SV) (w : World) (R : Rt) (u : FrameMode) (h : F63_1 R l0 [] w) : CallsD Try.prog 63 #[.slice l0.a l0.len l0.cap] u w fun e u' w' => u' = u ∧ R e w' :=
  callsD_of_L (l := [c63_0, c63_1, c63_2, c63_3, c63_4, c63_5, c63_6, c63_7]) Try.func63 (by kernel_rfl) (by rw [Try.ntmps63]; exact Nat.le_of_ble_eq_true (by kernel_rfl)) (by kernel_rfl) c63_l
    (F63_1_ok R l0 [] w _ rfl h) u

/-! function 68: cabinetry/cabinetryref24.set -/
noncomputable def c68_0 : Code := itemAt (flat (bodyOf Try.f68)) 0
noncomputable def c68_1 : Code := itemAt (flat (bodyOf Try.f68)) 1
noncomputable def c68_2 : Code := itemAt (flat (bodyOf Try.f68)) 2
noncomputable def c68_3 : Code := itemAt (flat (bodyOf Try.f68)) 3
noncomputable def c68_4 : Code := itemAt (flat (bodyOf Try.f68)) 4
noncomputable def c68_5 : Code := itemAt (flat (bodyOf Try.f68)) 5
noncomputable def c68_6 : Code := itemAt (flat (bodyOf Try.f68)) 6
noncomputable def c68_7 : Code := itemAt (flat (bodyOf Try.f68)) 7
noncomputable def c68_5_0 : Code := itemAt (flat (innerC c68_5)) 0
noncomputable def c68_5_0_0 : Code := itemAt (flat (innerC c68_5_0)) 0
noncomputable def c68_5_0_1 : Code := itemAt (flat (innerC c68_5_0)) 1
noncomputable def c68_5_0_2 : Code := itemAt (flat (innerC c68_5_0)) 2
noncomputable def c68_5_0_3 : Code := itemAt (flat (innerC c68_5_0)) 3
def F68_q1 (R : Rt) : EQ := endQ Try.prog Try.f68.results.toList R
def F68_1 (R : Rt) (l3 : SV) (ds : Ds) (w : World) : Prop :=
 runD Try.prog ds w fun w1 =>
 R (.returned (.slice l3.a l3.len l3.cap)) w1
def F68_k2 (R : Rt) : EP := (fun ρ ds w => dSl (ρ 3) fun l3 => F68_1 R l3 ds w)
def F68_q3 (R : Rt) : EQ := (thenQ (F68_k2 R) (F68_q1 R))
def F68_q4 (R : Rt) : EQ := (blockQ 0 (F68_q3 R))
def F68_q5 (R : Rt) (J1 : (SV × Int) → World → Prop) : EQ := (thenQ (fun ρ _ w => dSl (ρ 3) fun l3 => dInt .i64 (ρ 4) fun n4 => J1 (l3, n4) w) (F68_q4 R))
def F68_2 (R : Rt) (J1 : (SV × Int) → World → Prop) (l0 : SV) (l3 : SV) (n4 : Int) (ds : Ds) (w : World) : Prop :=
 Br (decide (n4 < ((l0.len : Nat) : Int))) (
 dwE w fun w2 =>
 Br (n4 == 0) (
 ∃ a3 : Addr, l0.a = some a3 ∧ 0 ≤ n4 ∧ n4 < ((l0.len : Nat) : Int) ∧
 ∃ s33 : ByteArray, w2.cell? (a3.add (n4.toNat * 1)) = some (.string s33) ∧
 alE (.cells #[.string s33] 9) w2 fun r34 w4 =>
 ∃ l35 : SV, ∃ w5 : World, (Builtin.append_ #[23, 23] 23 #[.slice l3.a l3.len l3.cap, .slice (some ⟨r34, 0, none⟩) 1 1]).run Try.prog w4 = .ok (.slice l35.a l35.len l35.cap) w5 ∧
 J1 (l35, (IntKind.i64.wrap (n4 + 1))) w5) (
 ∃ a6 : Addr, l0.a = some a6 ∧ 0 ≤ n4 ∧ n4 < ((l0.len : Nat) : Int) ∧
 ∃ s21 : ByteArray, w2.cell? (a6.add (n4.toNat * 1)) = some (.string s21) ∧
 ∃ a7 : Addr, l0.a = some a7 ∧ 0 ≤ (IntKind.i64.wrap (n4 - 1)) ∧ (IntKind.i64.wrap (n4 - 1)) < ((l0.len : Nat) : Int) ∧
 ∃ s26 : ByteArray, w2.cell? (a7.add ((IntKind.i64.wrap (n4 - 1)).toNat * 1)) = some (.string s26) ∧
 Br (!(s21.toList == s26.toList)) (
 ∃ a8 : Addr, l0.a = some a8 ∧ 0 ≤ n4 ∧ n4 < ((l0.len : Nat) : Int) ∧
 ∃ s33 : ByteArray, w2.cell? (a8.add (n4.toNat * 1)) = some (.string s33) ∧
 alE (.cells #[.string s33] 9) w2 fun r34 w9 =>
 ∃ l35 : SV, ∃ w10 : World, (Builtin.append_ #[23, 23] 23 #[.slice l3.a l3.len l3.cap, .slice (some ⟨r34, 0, none⟩) 1 1]).run Try.prog w9 = .ok (.slice l35.a l35.len l35.cap) w10 ∧
 J1 (l35, (IntKind.i64.wrap (n4 + 1))) w10) (
 J1 (l3, (IntKind.i64.wrap (n4 + 1))) w2))) (
 F68_1 R l3 ds w)
def F68_3 (R : Rt) (l0 : SV) (l3 : SV) (n4 : Int) (ds : Ds) (w : World) : Prop :=
 loopT (fun (J1 : (SV × Int) → World → Prop) (s : SV × Int) (w : World) => F68_2 R J1 l0 s.1 s.2 ds w) (l3, n4) w
@[reducible] def F68_4 (R : Rt) (l0 : SV) (l3 : SV) (n4 : Int) (ds : Ds) (w : World) : Prop := F68_3 R l0 l3 n4 ds w
def F68_k6 (R : Rt) : EP := (fun ρ ds w => dSl (ρ 0) fun l0 => dSl (ρ 3) fun l3 => dInt .i64 (ρ 4) fun n4 => F68_4 R l0 l3 n4 ds w)
def F68_5 (R : Rt) (l0 : SV) (ds : Ds) (w : World) : Prop :=
 ∃ l6 : SV, ∃ w11 : World, (Builtin.append_ #[23, 23] 23 #[.slice none 0 0, .slice l0.a l0.len l0.cap]).run Try.prog w = .ok (.slice l6.a l6.len l6.cap) w11 ∧
 Calls Try.prog 103 #[.slice l6.a l6.len l6.cap] w11 fun e w12 =>
 e = .returned (.tuple #[]) ∧
 F68_4 R l6 ⟨none, 0, 0⟩ 0 ds w12
theorem c68_l : flat (bodyOf Try.f68) = [c68_0, c68_1, c68_2, c68_3, c68_4, c68_5, c68_6, c68_7] := by kernel_rfl
theorem c68_5_l : flat (innerC c68_5) = [c68_5_0] := by kernel_rfl
theorem c68_5_0_l : flat (innerC c68_5_0) = [c68_5_0_0, c68_5_0_1, c68_5_0_2, c68_5_0_3] := by kernel_rfl
theorem F68_1_ok (R : Rt) (l3 : SV) (ds : Ds) (w : World) (ρ : Env) (e3 : ρ 3 = .slice l3.a l3.len l3.cap) (h : F68_1 R l3 ds w) :
    TrL Try.prog Try.f68.ntmps [c68_6, c68_7] (F68_q1 R) ρ ds w :=
  TrL_leaf (X := F68_1 R l3 ds w) (setAll_cons e3 setAll_nil) (by kernel_rfl) (by kernel_rfl) h
theorem F68_2_ok (R : Rt) (J1 : (SV × Int) → World → Prop) (l0 : SV) (l3 : SV) (n4 : Int) (ds : Ds) (w : World) (ρ : Env) (e0 : ρ 0 = .slice l0.a l0.len l0.cap) (e3 : ρ 3 = .slice l3.a l3.len l3.cap) (e4 : ρ 4 = .int .i64 n4) (h : F68_2 R J1 l0 l3 n4 ds w) :
    TrL Try.prog Try.f68.ntmps [c68_5_0_0, c68_5_0_1, c68_5_0_2, c68_5_0_3] (F68_q5 R J1) ρ ds w :=
  TrL_leaf (X := F68_2 R J1 l0 l3 n4 ds w) (setAll_cons e0 (setAll_cons e3 (setAll_cons e4 setAll_nil))) (by kernel_rfl) (by kernel_rfl) h
theorem F68_3_ok (R : Rt) (l0 : SV) (l3 : SV) (n4 : Int) (ds : Ds) (w : World) (ρ : Env) (e0 : ρ 0 = .slice l0.a l0.len l0.cap) (e3 : ρ 3 = .slice l3.a l3.len l3.cap) (e4 : ρ 4 = .int .i64 n4) (h : F68_3 R l0 l3 n4 ds w) :
    TrL Try.prog Try.f68.ntmps [c68_5_0] (F68_q4 R) ρ ds w :=
  TrL_one (Tr_loop' (c := innerC c68_5_0) (σ := SV × Int) (enc := (fun (s : SV × Int) (ρ : Env) => ρ 3 = .slice s.1.a s.1.len s.1.cap ∧ ρ 4 = .int .i64 s.2)) (D := (fun ρ K => dSl (ρ 3) fun l3 => dInt .i64 (ρ 4) fun n4 => K (l3, n4))) (F := (fun (J1 : (SV × Int) → World → Prop) (s : SV × Int) (w : World) => F68_2 R J1 l0 s.1 s.2 ds w)) (s0 := (l3, n4)) (by kernel_rfl) c68_5_0_l ⟨e3, e4⟩ (by kernel_rfl) (fun ρ K hD => by obtain ⟨l3, e3, hD⟩ := dSl_elim hD; obtain ⟨n4, e4, hD⟩ := dInt_elim hD; exact ⟨(l3, n4), ⟨e3, e4⟩, hD⟩)
      (fun J1 s ρ' w' he ha hF => by
      obtain ⟨e3', e4'⟩ := he
      exact F68_2_ok R J1 l0 s.1 s.2 ds w' ρ' ((ha 0 (by kernel_rfl)).trans e0) e3' e4' hF) h)
theorem F68_4_ok (R : Rt) (l0 : SV) (l3 : SV) (n4 : Int) (ds : Ds) (w : World) (ρ : Env) (e0 : ρ 0 = .slice l0.a l0.len l0.cap) (e3 : ρ 3 = .slice l3.a l3.len l3.cap) (e4 : ρ 4 = .int .i64 n4) (h : F68_4 R l0 l3 n4 ds w) :
    TrL Try.prog Try.f68.ntmps [c68_5, c68_6, c68_7] (F68_q1 R) ρ ds w :=
  TrL_head (K := (F68_k2 R)) (Tr_block' (c := innerC c68_5) (by kernel_rfl) c68_5_l (F68_3_ok R l0 l3 n4 ds w ρ e0 e3 e4 h))
    (fun ρ' ds' w' hD => by
      obtain ⟨l3, e3, hD⟩ := dSl_elim hD; exact F68_1_ok R l3 ds' w' ρ' e3 hD)
theorem F68_5_ok (R : Rt) (l0 : SV) (ds : Ds) (w : World) (ρ : Env) (e0 : ρ 0 = .slice l0.a l0.len l0.cap) (h : F68_5 R l0 ds w) :
    TrL Try.prog Try.f68.ntmps [c68_0, c68_1, c68_2, c68_3, c68_4, c68_5, c68_6, c68_7] (F68_q1 R) ρ ds w :=
  TrL_piece (pre := [c68_0, c68_1, c68_2, c68_3, c68_4]) (K := (F68_k6 R)) (X := F68_5 R l0 ds w) (setAll_cons e0 setAll_nil) (by kernel_rfl) (by kernel_rfl)
    (fun ρ' ds' w' hD => by
      obtain ⟨l0, e0, hD⟩ := dSl_elim hD; obtain ⟨l3, e3, hD⟩ := dSl_elim hD; obtain ⟨n4, e4, hD⟩ := dInt_elim hD; exact F68_4_ok R l0 l3 n4 ds' w' ρ' e0 e3 e4 hD) h
theorem F68_calls (l0 : SV) (w : World) (R : Rt) (h : F68_5 R l0 [] w) : Calls Try.prog 68 #[.slice l0.a l0.len l0.cap] w R :=
  calls_of_L (l := [c68_0, c68_1, c68_2, c68_3, c68_4, c68_5, c68_6, c68_7]) Try.func68 (by kernel_rfl) (by rw [Try.ntmps68]; exact Nat.le_of_ble_eq_true (by kernel_rfl)) c68_l
    (F68_5_ok R l0 [] w _ rfl h)
theorem F68_callsD (l0 : SV) (w : World) (R : Rt) (u : FrameMode) (h : F68_5 R l0 [] w) : CallsD Try.prog 68 #[.slice l0.a l0.len l0.cap] u w fun e u' w' => u' = u ∧ R e w' :=
  callsD_of_L (l := [c68_0, c68_1, c68_2, c68_3, c68_4, c68_5, c68_6, c68_7]) Try.func68 (by kernel_rfl) (by rw [Try.ntmps68]; exact Nat.le_of_ble_eq_true (by kernel_rfl)) (by kernel_rfl) c68_l
    (F68_5_ok R l0 [] w _ rfl h) u

/-! function 99: cabinetry/cabinetryref24.isName -/
noncomputable def c99_0 : Code := itemAt (flat (bodyOf Try.f99)) 0
noncomputable def c99_1 : Code := itemAt (flat (bodyOf Try.f99)) 1
noncomputable def c99_2 : Code := itemAt (flat (bodyOf Try.f99)) 2
noncomputable def c99_3 : Code := itemAt (flat (bodyOf Try.f99)) 3
noncomputable def c99_4 : Code := itemAt (flat (bodyOf Try.f99)) 4
noncomputable def c99_5 : Code := itemAt (flat (bodyOf Try.f99)) 5
noncomputable def c99_6 : Code := itemAt (flat (bodyOf Try.f99)) 6
noncomputable def c99_4_0 : Code := itemAt (flat (innerC c99_4)) 0
noncomputable def c99_4_0_0 : Code := itemAt (flat (innerC c99_4_0)) 0
noncomputable def c99_4_0_1 : Code := itemAt (flat (innerC c99_4_0)) 1
noncomputable def c99_4_0_2 : Code := itemAt (flat (innerC c99_4_0)) 2
noncomputable def c99_4_0_3 : Code := itemAt (flat (innerC c99_4_0)) 3
def F99_q1 (R : Rt) : EQ := endQ Try.prog Try.f99.results.toList R
def F99_1 (R : Rt) (ds : Ds) (w : World) : Prop :=
 runD Try.prog ds w fun w1 =>
 R (.returned (.bool true)) w1
def F99_k2 (R : Rt) : EP := (fun ρ ds w => F99_1 R ds w)
def F99_q3 (R : Rt) : EQ := (thenQ (F99_k2 R) (F99_q1 R))
def F99_q4 (R : Rt) : EQ := (blockQ 0 (F99_q3 R))
def F99_q5 (R : Rt) (J1 : (Int) → World → Prop) : EQ := (thenQ (fun ρ _ w => dInt .i64 (ρ 3) fun n3 => J1 n3 w) (F99_q4 R))
def F99_2 (R : Rt) (J1 : (Int) → World → Prop) (s0 : ByteArray) (n3 : Int) (ds : Ds) (w : World) : Prop :=
 J1 (IntKind.i64.wrap (n3 + 1)) w
def F99_k6 (R : Rt) (J1 : (Int) → World → Prop) : EP := (fun ρ ds w => dStr (ρ 0) fun s0 => dInt .i64 (ρ 3) fun n3 => F99_2 R J1 s0 n3 ds w)
def F99_3 (R : Rt) (J1 : (Int) → World → Prop) (s0 : ByteArray) (n3 : Int) (ds : Ds) (w : World) : Prop :=
 ∃ b22 : UInt8, 0 ≤ n3 ∧ s0[n3.toNat]? = some b22 ∧
 Br (decide (((b22.toNat : Nat) : Int) ≥ 97)) (
 Br (decide (((b22.toNat : Nat) : Int) ≤ 122)) (
 F99_2 R J1 s0 n3 ds w) (
 Br (decide (((b22.toNat : Nat) : Int) ≥ 65)) (
 Br (!(decide (((b22.toNat : Nat) : Int) ≤ 90))) (
 Br (n3 == 0) (
 runD Try.prog ds w fun w2 =>
 R (.returned (.bool false)) w2) (
 Br (((b22.toNat : Nat) : Int) != 95) (
 Br (decide (((b22.toNat : Nat) : Int) < 48)) (
 runD Try.prog ds w fun w3 =>
 R (.returned (.bool false)) w3) (
 Br (decide (((b22.toNat : Nat) : Int) > 57)) (
 runD Try.prog ds w fun w4 =>
 R (.returned (.bool false)) w4) (
 F99_2 R J1 s0 n3 ds w))) (
 F99_2 R J1 s0 n3 ds w))) (
 F99_2 R J1 s0 n3 ds w)) (
 Br (n3 == 0) (
 runD Try.prog ds w fun w5 =>
 R (.returned (.bool false)) w5) (
 Br (((b22.toNat : Nat) : Int) != 95) (
 Br (decide (((b22.toNat : Nat) : Int) < 48)) (
 runD Try.prog ds w fun w6 =>
 R (.returned (.bool false)) w6) (
 Br (decide (((b22.toNat : Nat) : Int) > 57)) (
 runD Try.prog ds w fun w7 =>
 R (.returned (.bool false)) w7) (
 F99_2 R J1 s0 n3 ds w))) (
 F99_2 R J1 s0 n3 ds w))))) (
 Br (decide (((b22.toNat : Nat) : Int) ≥ 65)) (
 Br (!(decide (((b22.toNat : Nat) : Int) ≤ 90))) (
 Br (n3 == 0) (
 runD Try.prog ds w fun w8 =>
 R (.returned (.bool false)) w8) (
 Br (((b22.toNat : Nat) : Int) != 95) (
 Br (decide (((b22.toNat : Nat) : Int) < 48)) (
 runD Try.prog ds w fun w9 =>
 R (.returned (.bool false)) w9) (
 Br (decide (((b22.toNat : Nat) : Int) > 57)) (
 runD Try.prog ds w fun w10 =>
 R (.returned (.bool false)) w10) (
 F99_2 R J1 s0 n3 ds w))) (
 F99_2 R J1 s0 n3 ds w))) (
 F99_2 R J1 s0 n3 ds w)) (
 Br (n3 == 0) (
 runD Try.prog ds w fun w11 =>
 R (.returned (.bool false)) w11) (
 Br (((b22.toNat : Nat) : Int) != 95) (
 Br (decide (((b22.toNat : Nat) : Int) < 48)) (
 runD Try.prog ds w fun w12 =>
 R (.returned (.bool false)) w12) (
 Br (decide (((b22.toNat : Nat) : Int) > 57)) (
 runD Try.prog ds w fun w13 =>
 R (.returned (.bool false)) w13) (
 F99_2 R J1 s0 n3 ds w))) (
 F99_2 R J1 s0 n3 ds w))))
def F99_k7 (R : Rt) (J1 : (Int) → World → Prop) : EP := (fun ρ ds w => dStr (ρ 0) fun s0 => dInt .i64 (ρ 3) fun n3 => F99_3 R J1 s0 n3 ds w)
def F99_4 (R : Rt) (J1 : (Int) → World → Prop) (s0 : ByteArray) (n3 : Int) (ds : Ds) (w : World) : Prop :=
 Br (decide (n3 < ((s0.size : Nat) : Int))) (
 F99_3 R J1 s0 n3 ds w) (
 F99_1 R ds w)
def F99_5 (R : Rt) (s0 : ByteArray) (n3 : Int) (ds : Ds) (w : World) : Prop :=
 loopT (fun (J1 : (Int) → World → Prop) (s : Int) (w : World) => F99_4 R J1 s0 s ds w) n3 w
@[reducible] def F99_6 (R : Rt) (s0 : ByteArray) (n3 : Int) (ds : Ds) (w : World) : Prop := F99_5 R s0 n3 ds w
def F99_k8 (R : Rt) : EP := (fun ρ ds w => dStr (ρ 0) fun s0 => dInt .i64 (ρ 3) fun n3 => F99_6 R s0 n3 ds w)
def F99_7 (R : Rt) (s0 : ByteArray) (ds : Ds) (w : World) : Prop :=
 Br (decide (((s0.size : Nat) : Int) < 1)) (
 runD Try.prog ds w fun w14 =>
 R (.returned (.bool false)) w14) (
 Br (decide (((s0.size : Nat) : Int) > 10)) (
 runD Try.prog ds w fun w15 =>
 R (.returned (.bool false)) w15) (
 F99_6 R s0 0 ds w))
theorem c99_l : flat (bodyOf Try.f99) = [c99_0, c99_1, c99_2, c99_3, c99_4, c99_5, c99_6] := by kernel_rfl
theorem c99_4_l : flat (innerC c99_4) = [c99_4_0] := by kernel_rfl
theorem c99_4_0_l : flat (innerC c99_4_0) = [c99_4_0_0, c99_4_0_1, c99_4_0_2, c99_4_0_3] := by kernel_rfl
theorem F99_1_ok (R : Rt) (ds : Ds) (w : World) (ρ : Env) (h : F99_1 R ds w) :
    TrL Try.prog Try.f99.ntmps [c99_5, c99_6] (F99_q1 R) ρ ds w :=
  TrL_leaf (X := F99_1 R ds w) setAll_nil (by kernel_rfl) (by kernel_rfl) h
theorem F99_2_ok (R : Rt) (J1 : (Int) → World → Prop) (s0 : ByteArray) (n3 : Int) (ds : Ds) (w : World) (ρ : Env) (e0 : ρ 0 = .string s0) (e3 : ρ 3 = .int .i64 n3) (h : F99_2 R J1 s0 n3 ds w) :
    TrL Try.prog Try.f99.ntmps [c99_4_0_3] (F99_q5 R J1) ρ ds w :=
  TrL_leaf (X := F99_2 R J1 s0 n3 ds w) (setAll_cons e0 (setAll_cons e3 setAll_nil)) (by kernel_rfl) (by kernel_rfl) h
theorem F99_3_ok (R : Rt) (J1 : (Int) → World → Prop) (s0 : ByteArray) (n3 : Int) (ds : Ds) (w : World) (ρ : Env) (e0 : ρ 0 = .string s0) (e3 : ρ 3 = .int .i64 n3) (h : F99_3 R J1 s0 n3 ds w) :
    TrL Try.prog Try.f99.ntmps [c99_4_0_2, c99_4_0_3] (F99_q5 R J1) ρ ds w :=
  TrL_piece (pre := [c99_4_0_2]) (K := (F99_k6 R J1)) (X := F99_3 R J1 s0 n3 ds w) (setAll_cons e0 (setAll_cons e3 setAll_nil)) (by kernel_rfl) (by kernel_rfl)
    (fun ρ' ds' w' hD => by
      obtain ⟨s0, e0, hD⟩ := dStr_elim hD; obtain ⟨n3, e3, hD⟩ := dInt_elim hD; exact F99_2_ok R J1 s0 n3 ds' w' ρ' e0 e3 hD) h
theorem F99_4_ok (R : Rt) (J1 : (Int) → World → Prop) (s0 : ByteArray) (n3 : Int) (ds : Ds) (w : World) (ρ : Env) (e0 : ρ 0 = .string s0) (e3 : ρ 3 = .int .i64 n3) (h : F99_4 R J1 s0 n3 ds w) :
    TrL Try.prog Try.f99.ntmps [c99_4_0_0, c99_4_0_1, c99_4_0_2, c99_4_0_3] (F99_q5 R J1) ρ ds w :=
  TrL_piece (pre := [c99_4_0_0, c99_4_0_1]) (K := (F99_k7 R J1)) (X := F99_4 R J1 s0 n3 ds w) (setAll_cons e0 (setAll_cons e3 setAll_nil)) (by kernel_rfl) (by kernel_rfl)
    (fun ρ' ds' w' hD => by
      obtain ⟨s0, e0, hD⟩ := dStr_elim hD; obtain ⟨n3, e3, hD⟩ := dInt_elim hD; exact F99_3_ok R J1 s0 n3 ds' w' ρ' e0 e3 hD) h
theorem F99_5_ok (R : Rt) (s0 : ByteArray) (n3 : Int) (ds : Ds) (w : World) (ρ : Env) (e0 : ρ 0 = .string s0) (e3 : ρ 3 = .int .i64 n3) (h : F99_5 R s0 n3 ds w) :
    TrL Try.prog Try.f99.ntmps [c99_4_0] (F99_q4 R) ρ ds w :=
  TrL_one (Tr_loop' (c := innerC c99_4_0) (σ := Int) (enc := (fun (s : Int) (ρ : Env) => ρ 3 = .int .i64 s)) (D := (fun ρ K => dInt .i64 (ρ 3) fun n3 => K n3)) (F := (fun (J1 : (Int) → World → Prop) (s : Int) (w : World) => F99_4 R J1 s0 s ds w)) (s0 := n3) (by kernel_rfl) c99_4_0_l e3 (by kernel_rfl) (fun ρ K hD => by obtain ⟨n3, e3, hD⟩ := dInt_elim hD; exact ⟨n3, e3, hD⟩)
      (fun J1 s ρ' w' he ha hF => by
      have e3' := he
      exact F99_4_ok R J1 s0 s ds w' ρ' ((ha 0 (by kernel_rfl)).trans e0) e3' hF) h)
theorem F99_6_ok (R : Rt) (s0 : ByteArray) (n3 : Int) (ds : Ds) (w : World) (ρ : Env) (e0 : ρ 0 = .string s0) (e3 : ρ 3 = .int .i64 n3) (h : F99_6 R s0 n3 ds w) :
    TrL Try.prog Try.f99.ntmps [c99_4, c99_5, c99_6] (F99_q1 R) ρ ds w :=
  TrL_head (K := (F99_k2 R)) (Tr_block' (c := innerC c99_4) (by kernel_rfl) c99_4_l (F99_5_ok R s0 n3 ds w ρ e0 e3 h))
    (fun ρ' ds' w' hD => by
      exact F99_1_ok R ds' w' ρ'  hD)
theorem F99_7_ok (R : Rt) (s0 : ByteArray) (ds : Ds) (w : World) (ρ : Env) (e0 : ρ 0 = .string s0) (h : F99_7 R s0 ds w) :
    TrL Try.prog Try.f99.ntmps [c99_0, c99_1, c99_2, c99_3, c99_4, c99_5, c99_6] (F99_q1 R) ρ ds w :=
  TrL_piece (pre := [c99_0, c99_1, c99_2, c99_3]) (K := (F99_k8 R)) (X := F99_7 R s0 ds w) (setAll_cons e0 setAll_nil) (by kernel_rfl) (by kernel_rfl)
    (fun ρ' ds' w' hD => by
      obtain ⟨s0, e0, hD⟩ := dStr_elim hD; obtain ⟨n3, e3, hD⟩ := dInt_elim hD; exact F99_6_ok R s0 n3 ds' w' ρ' e0 e3 hD) h
theorem F99_calls (s0 : ByteArray) (w : World) (R : Rt) (h : F99_7 R s0 [] w) : Calls Try.prog 99 #[.string s0] w R :=
  calls_of_L (l := [c99_0, c99_1, c99_2, c99_3, c99_4, c99_5, c99_6]) Try.func99 (by kernel_rfl) (by rw [Try.ntmps99]; exact Nat.le_of_ble_eq_true (by kernel_rfl)) c99_l
    (F99_7_ok R s0 [] w _ rfl h)
theorem F99_callsD (s0 : ByteArray) (w : World) (R : Rt) (u : FrameMode) (h : F99_7 R s0 [] w) : CallsD Try.prog 99 #[.string s0] u w fun e u' w' => u' = u ∧ R e w' :=
  callsD_of_L (l := [c99_0, c99_1, c99_2, c99_3, c99_4, c99_5, c99_6]) Try.func99 (by kernel_rfl) (by rw [Try.ntmps99]; exact Nat.le_of_ble_eq_true (by kernel_rfl)) (by kernel_rfl) c99_l
    (F99_7_ok R s0 [] w _ rfl h) u

/-! function 25: cabinetry/cabinetryref01.SameTexts -/
noncomputable def c25_0 : Code := itemAt (flat (bodyOf Try.f25)) 0
noncomputable def c25_1 : Code := itemAt (flat (bodyOf Try.f25)) 1
noncomputable def c25_2 : Code := itemAt (flat (bodyOf Try.f25)) 2
noncomputable def c25_3 : Code := itemAt (flat (bodyOf Try.f25)) 3
noncomputable def c25_4 : Code := itemAt (flat (bodyOf Try.f25)) 4
noncomputable def c25_5 : Code := itemAt (flat (bodyOf Try.f25)) 5
noncomputable def c25_6 : Code := itemAt (flat (bodyOf Try.f25)) 6
noncomputable def c25_4_0 : Code := itemAt (flat (innerC c25_4)) 0
noncomputable def c25_4_0_0 : Code := itemAt (flat (innerC c25_4_0)) 0
noncomputable def c25_4_0_1 : Code := itemAt (flat (innerC c25_4_0)) 1
noncomputable def c25_4_0_2 : Code := itemAt (flat (innerC c25_4_0)) 2
noncomputable def c25_4_0_3 : Code := itemAt (flat (innerC c25_4_0)) 3
def F25_q1 (R : Rt) : EQ := endQ Try.prog Try.f25.results.toList R
def F25_1 (R : Rt) (ds : Ds) (w : World) : Prop :=
 runD Try.prog ds w fun w1 =>
 R (.returned (.bool true)) w1
def F25_k2 (R : Rt) : EP := (fun ρ ds w => F25_1 R ds w)
def F25_q3 (R : Rt) : EQ := (thenQ (F25_k2 R) (F25_q1 R))
def F25_q4 (R : Rt) : EQ := (blockQ 0 (F25_q3 R))
def F25_q5 (R : Rt) (J1 : (Int) → World → Prop) : EQ := (thenQ (fun ρ _ w => dInt .i64 (ρ 5) fun n5 => J1 n5 w) (F25_q4 R))
def F25_2 (R : Rt) (J1 : (Int) → World → Prop) (l0 : SV) (l1 : SV) (n5 : Int) (ds : Ds) (w : World) : Prop :=
 Br (decide (n5 < ((l0.len : Nat) : Int))) (
 dwE w fun w2 =>
 ∃ a3 : Addr, l0.a = some a3 ∧ 0 ≤ n5 ∧ n5 < ((l0.len : Nat) : Int) ∧
 ∃ s20 : ByteArray, w2.cell? (a3.add (n5.toNat * 1)) = some (.string s20) ∧
 ∃ a4 : Addr, l1.a = some a4 ∧ 0 ≤ n5 ∧ n5 < ((l1.len : Nat) : Int) ∧
 ∃ s24 : ByteArray, w2.cell? (a4.add (n5.toNat * 1)) = some (.string s24) ∧
 Br (!(s20.toList == s24.toList)) (
 runD Try.prog ds w2 fun w5 =>
 R (.returned (.bool false)) w5) (
 J1 (IntKind.i64.wrap (n5 + 1)) w2)) (
 F25_1 R ds w)
def F25_3 (R : Rt) (l0 : SV) (l1 : SV) (n5 : Int) (ds : Ds) (w : World) : Prop :=
 loopT (fun (J1 : (Int) → World → Prop) (s : Int) (w : World) => F25_2 R J1 l0 l1 s ds w) n5 w
@[reducible] def F25_4 (R : Rt) (l0 : SV) (l1 : SV) (n5 : Int) (ds : Ds) (w : World) : Prop := F25_3 R l0 l1 n5 ds w
def F25_k6 (R : Rt) : EP := (fun ρ ds w => dSl (ρ 0) fun l0 => dSl (ρ 1) fun l1 => dInt .i64 (ρ 5) fun n5 => F25_4 R l0 l1 n5 ds w)
def F25_5 (R : Rt) (l0 : SV) (l1 : SV) (ds : Ds) (w : World) : Prop :=
 Br (((l0.len : Nat) : Int) != ((l1.len : Nat) : Int)) (
 runD Try.prog ds w fun w6 =>
 R (.returned (.bool false)) w6) (
 F25_4 R l0 l1 0 ds w)
theorem c25_l : flat (bodyOf Try.f25) = [c25_0, c25_1, c25_2, c25_3, c25_4, c25_5, c25_6] := by kernel_rfl
theorem c25_4_l : flat (innerC c25_4) = [c25_4_0] := by kernel_rfl
theorem c25_4_0_l : flat (innerC c25_4_0) = [c25_4_0_0, c25_4_0_1, c25_4_0_2, c25_4_0_3] := by kernel_rfl
theorem F25_1_ok (R : Rt) (ds : Ds) (w : World) (ρ : Env) (h : F25_1 R ds w) :
    TrL Try.prog Try.f25.ntmps [c25_5, c25_6] (F25_q1 R) ρ ds w :=
  TrL_leaf (X := F25_1 R ds w) setAll_nil (by kernel_rfl) (by kernel_rfl) h
theorem F25_2_ok (R : Rt) (J1 : (Int) → World → Prop) (l0 : SV) (l1 : SV) (n5 : Int) (ds : Ds) (w : World) (ρ : Env) (e0 : ρ 0 = .slice l0.a l0.len l0.cap) (e1 : ρ 1 = .slice l1.a l1.len l1.cap) (e5 : ρ 5 = .int .i64 n5) (h : F25_2 R J1 l0 l1 n5 ds w) :
    TrL Try.prog Try.f25.ntmps [c25_4_0_0, c25_4_0_1, c25_4_0_2, c25_4_0_3] (F25_q5 R J1) ρ ds w :=
  TrL_leaf (X := F25_2 R J1 l0 l1 n5 ds w) (setAll_cons e0 (setAll_cons e1 (setAll_cons e5 setAll_nil))) (by kernel_rfl) (by kernel_rfl) h
theorem F25_3_ok (R : Rt) (l0 : SV) (l1 : SV) (n5 : Int) (ds : Ds) (w : World) (ρ : Env) (e0 : ρ 0 = .slice l0.a l0.len l0.cap) (e1 : ρ 1 = .slice l1.a l1.len l1.cap) (e5 : ρ 5 = .int .i64 n5) (h : F25_3 R l0 l1 n5 ds w) :
    TrL Try.prog Try.f25.ntmps [c25_4_0] (F25_q4 R) ρ ds w :=
  TrL_one (Tr_loop' (c := innerC c25_4_0) (σ := Int) (enc := (fun (s : Int) (ρ : Env) => ρ 5 = .int .i64 s)) (D := (fun ρ K => dInt .i64 (ρ 5) fun n5 => K n5)) (F := (fun (J1 : (Int) → World → Prop) (s : Int) (w : World) => F25_2 R J1 l0 l1 s ds w)) (s0 := n5) (by kernel_rfl) c25_4_0_l e5 (by kernel_rfl) (fun ρ K hD => by obtain ⟨n5, e5, hD⟩ := dInt_elim hD; exact ⟨n5, e5, hD⟩)
      (fun J1 s ρ' w' he ha hF => by
      have e5' := he
      exact F25_2_ok R J1 l0 l1 s ds w' ρ' ((ha 0 (by kernel_rfl)).trans e0) ((ha 1 (by kernel_rfl)).trans e1) e5' hF) h)
theorem F25_4_ok (R : Rt) (l0 : SV) (l1 : SV) (n5 : Int) (ds : Ds) (w : World) (ρ : Env) (e0 : ρ 0 = .slice l0.a l0.len l0.cap) (e1 : ρ 1 = .slice l1.a l1.len l1.cap) (e5 : ρ 5 = .int .i64 n5) (h : F25_4 R l0 l1 n5 ds w) :
    TrL Try.prog Try.f25.ntmps [c25_4, c25_5, c25_6] (F25_q1 R) ρ ds w :=
  TrL_head (K := (F25_k2 R)) (Tr_block' (c := innerC c25_4) (by kernel_rfl) c25_4_l (F25_3_ok R l0 l1 n5 ds w ρ e0 e1 e5 h))
    (fun ρ' ds' w' hD => by
      exact F25_1_ok R ds' w' ρ'  hD)
theorem F25_5_ok (R : Rt) (l0 : SV) (l1 : SV) (ds : Ds) (w : World) (ρ : Env) (e0 : ρ 0 = .slice l0.a l0.len l0.cap) (e1 : ρ 1 = .slice l1.a l1.len l1.cap) (h : F25_5 R l0 l1 ds w) :
    TrL Try.prog Try.f25.ntmps [c25_0, c25_1, c25_2, c25_3, c25_4, c25_5, c25_6] (F25_q1 R) ρ ds w :=
  TrL_piece (pre := [c25_0, c25_1, c25_2, c25_3]) (K := (F25_k6 R)) (X := F25_5 R l0 l1 ds w) (setAll_cons e0 (setAll_cons e1 setAll_nil)) (by kernel_rfl) (by kernel_rfl)
    (fun ρ' ds' w' hD => by
      obtain ⟨l0, e0, hD⟩ := dSl_elim hD; obtain ⟨l1, e1, hD⟩ := dSl_elim hD; obtain ⟨n5, e5, hD⟩ := dInt_elim hD; exact F25_4_ok R l0 l1 n5 ds' w' ρ' e0 e1 e5 hD) h
theorem F25_calls (l0 : SV) (l1 : SV) (w : World) (R : Rt) (h : F25_5 R l0 l1 [] w) : Calls Try.prog 25 #[.slice l0.a l0.len l0.cap, .slice l1.a l1.len l1.cap] w R :=
  calls_of_L (l := [c25_0, c25_1, c25_2, c25_3, c25_4, c25_5, c25_6]) Try.func25 (by kernel_rfl) (by rw [Try.ntmps25]; exact Nat.le_of_ble_eq_true (by kernel_rfl)) c25_l
    (F25_5_ok R l0 l1 [] w _ rfl rfl h)
theorem F25_callsD (l0 : SV) (l1 : SV) (w : World) (R : Rt) (u : FrameMode) (h : F25_5 R l0 l1 [] w) : CallsD Try.prog 25 #[.slice l0.a l0.len l0.cap, .slice l1.a l1.len l1.cap] u w fun e u' w' => u' = u ∧ R e w' :=
  callsD_of_L (l := [c25_0, c25_1, c25_2, c25_3, c25_4, c25_5, c25_6]) Try.func25 (by kernel_rfl) (by rw [Try.ntmps25]; exact Nat.le_of_ble_eq_true (by kernel_rfl)) (by kernel_rfl) c25_l
    (F25_5_ok R l0 l1 [] w _ rfl rfl h) u

/-! function 28: cabinetry/cabinetryref01.SameInts -/
noncomputable def c28_0 : Code := itemAt (flat (bodyOf Try.f28)) 0
noncomputable def c28_1 : Code := itemAt (flat (bodyOf Try.f28)) 1
noncomputable def c28_2 : Code := itemAt (flat (bodyOf Try.f28)) 2
noncomputable def c28_3 : Code := itemAt (flat (bodyOf Try.f28)) 3
noncomputable def c28_4 : Code := itemAt (flat (bodyOf Try.f28)) 4
noncomputable def c28_5 : Code := itemAt (flat (bodyOf Try.f28)) 5
noncomputable def c28_6 : Code := itemAt (flat (bodyOf Try.f28)) 6
noncomputable def c28_4_0 : Code := itemAt (flat (innerC c28_4)) 0
noncomputable def c28_4_0_0 : Code := itemAt (flat (innerC c28_4_0)) 0
noncomputable def c28_4_0_1 : Code := itemAt (flat (innerC c28_4_0)) 1
noncomputable def c28_4_0_2 : Code := itemAt (flat (innerC c28_4_0)) 2
noncomputable def c28_4_0_3 : Code := itemAt (flat (innerC c28_4_0)) 3
def F28_q1 (R : Rt) : EQ := endQ Try.prog Try.f28.results.toList R
def F28_1 (R : Rt) (ds : Ds) (w : World) : Prop :=
 runD Try.prog ds w fun w1 =>
 R (.returned (.bool true)) w1
def F28_k2 (R : Rt) : EP := (fun ρ ds w => F28_1 R ds w)
def F28_q3 (R : Rt) : EQ := (thenQ (F28_k2 R) (F28_q1 R))
def F28_q4 (R : Rt) : EQ := (blockQ 0 (F28_q3 R))
def F28_q5 (R : Rt) (J1 : (Int) → World → Prop) : EQ := (thenQ (fun ρ _ w => dInt .i64 (ρ 5) fun n5 => J1 n5 w) (F28_q4 R))
def F28_2 (R : Rt) (J1 : (Int) → World → Prop) (l0 : SV) (l1 : SV) (n5 : Int) (ds : Ds) (w : World) : Prop :=
 Br (decide (n5 < ((l0.len : Nat) : Int))) (
 dwE w fun w2 =>
 ∃ a3 : Addr, l0.a = some a3 ∧ 0 ≤ n5 ∧ n5 < ((l0.len : Nat) : Int) ∧
 ∃ n20 : Int, w2.cell? (a3.add (n5.toNat * 1)) = some (.int .i64 n20) ∧
 ∃ a4 : Addr, l1.a = some a4 ∧ 0 ≤ n5 ∧ n5 < ((l1.len : Nat) : Int) ∧
 ∃ n24 : Int, w2.cell? (a4.add (n5.toNat * 1)) = some (.int .i64 n24) ∧
 Br (n20 != n24) (
 runD Try.prog ds w2 fun w5 =>
 R (.returned (.bool false)) w5) (
 J1 (IntKind.i64.wrap (n5 + 1)) w2)) (
 F28_1 R ds w)
def F28_3 (R : Rt) (l0 : SV) (l1 : SV) (n5 : Int) (ds : Ds) (w : World) : Prop :=
 loopT (fun (J1 : (Int) → World → Prop) (s : Int) (w : World) => F28_2 R J1 l0 l1 s ds w) n5 w
@[reducible] def F28_4 (R : Rt) (l0 : SV) (l1 : SV) (n5 : Int) (ds : Ds) (w : World) : Prop := F28_3 R l0 l1 n5 ds w
def F28_k6 (R : Rt) : EP := (fun ρ ds w => dSl (ρ 0) fun l0 => dSl (ρ 1) fun l1 => dInt .i64 (ρ 5) fun n5 => F28_4 R l0 l1 n5 ds w)
def F28_5 (R : Rt) (l0 : SV) (l1 : SV) (ds : Ds) (w : World) : Prop :=
 Br (((l0.len : Nat) : Int) != ((l1.len : Nat) : Int)) (
 runD Try.prog ds w fun w6 =>
 R (.returned (.bool false)) w6) (
 F28_4 R l0 l1 0 ds w)
theorem c28_l : flat (bodyOf Try.f28) = [c28_0, c28_1, c28_2, c28_3, c28_4, c28_5, c28_6] := by kernel_rfl
theorem c28_4_l : flat (innerC c28_4) = [c28_4_0] := by kernel_rfl
theorem c28_4_0_l : flat (innerC c28_4_0) = [c28_4_0_0, c28_4_0_1, c28_4_0_2, c28_4_0_3] := by kernel_rfl
theorem F28_1_ok (R : Rt) (ds : Ds) (w : World) (ρ : Env) (h : F28_1 R ds w) :
    TrL Try.prog Try.f28.ntmps [c28_5, c28_6] (F28_q1 R) ρ ds w :=
  TrL_leaf (X := F28_1 R ds w) setAll_nil (by kernel_rfl) (by kernel_rfl) h
theorem F28_2_ok (R : Rt) (J1 : (Int) → World → Prop) (l0 : SV) (l1 : SV) (n5 : Int) (ds : Ds) (w : World) (ρ : Env) (e0 : ρ 0 = .slice l0.a l0.len l0.cap) (e1 : ρ 1 = .slice l1.a l1.len l1.cap) (e5 : ρ 5 = .int .i64 n5) (h : F28_2 R J1 l0 l1 n5 ds w) :
    TrL Try.prog Try.f28.ntmps [c28_4_0_0, c28_4_0_1, c28_4_0_2, c28_4_0_3] (F28_q5 R J1) ρ ds w :=
  TrL_leaf (X := F28_2 R J1 l0 l1 n5 ds w) (setAll_cons e0 (setAll_cons e1 (setAll_cons e5 setAll_nil))) (by kernel_rfl) (by kernel_rfl) h
theorem F28_3_ok (R : Rt) (l0 : SV) (l1 : SV) (n5 : Int) (ds : Ds) (w : World) (ρ : Env) (e0 : ρ 0 = .slice l0.a l0.len l0.cap) (e1 : ρ 1 = .slice l1.a l1.len l1.cap) (e5 : ρ 5 = .int .i64 n5) (h : F28_3 R l0 l1 n5 ds w) :
    TrL Try.prog Try.f28.ntmps [c28_4_0] (F28_q4 R) ρ ds w :=
  TrL_one (Tr_loop' (c := innerC c28_4_0) (σ := Int) (enc := (fun (s : Int) (ρ : Env) => ρ 5 = .int .i64 s)) (D := (fun ρ K => dInt .i64 (ρ 5) fun n5 => K n5)) (F := (fun (J1 : (Int) → World → Prop) (s : Int) (w : World) => F28_2 R J1 l0 l1 s ds w)) (s0 := n5) (by kernel_rfl) c28_4_0_l e5 (by kernel_rfl) (fun ρ K hD => by obtain ⟨n5, e5, hD⟩ := dInt_elim hD; exact ⟨n5, e5, hD⟩)
      (fun J1 s ρ' w' he ha hF => by
      have e5' := he
      exact F28_2_ok R J1 l0 l1 s ds w' ρ' ((ha 0 (by kernel_rfl)).trans e0) ((ha 1 (by kernel_rfl)).trans e1) e5' hF) h)
theorem F28_4_ok (R : Rt) (l0 : SV) (l1 : SV) (n5 : Int) (ds : Ds) (w : World) (ρ : Env) (e0 : ρ 0 = .slice l0.a l0.len l0.cap) (e1 : ρ 1 = .slice l1.a l1.len l1.cap) (e5 : ρ 5 = .int .i64 n5) (h : F28_4 R l0 l1 n5 ds w) :
    TrL Try.prog Try.f28.ntmps [c28_4, c28_5, c28_6] (F28_q1 R) ρ ds w :=
  TrL_head (K := (F28_k2 R)) (Tr_block' (c := innerC c28_4) (by kernel_rfl) c28_4_l (F28_3_ok R l0 l1 n5 ds w ρ e0 e1 e5 h))
    (fun ρ' ds' w' hD => by
      exact F28_1_ok R ds' w' ρ'  hD)
theorem F28_5_ok (R : Rt) (l0 : SV) (l1 : SV) (ds : Ds) (w : World) (ρ : Env) (e0 : ρ 0 = .slice l0.a l0.len l0.cap) (e1 : ρ 1 = .slice l1.a l1.len l1.cap) (h : F28_5 R l0 l1 ds w) :
    TrL Try.prog Try.f28.ntmps [c28_0, c28_1, c28_2, c28_3, c28_4, c28_5, c28_6] (F28_q1 R) ρ ds w :=
  TrL_piece (pre := [c28_0, c28_1, c28_2, c28_3]) (K := (F28_k6 R)) (X := F28_5 R l0 l1 ds w) (setAll_cons e0 (setAll_cons e1 setAll_nil)) (by kernel_rfl) (by kernel_rfl)
    (fun ρ' ds' w' hD => by
      obtain ⟨l0, e0, hD⟩ := dSl_elim hD; obtain ⟨l1, e1, hD⟩ := dSl_elim hD; obtain ⟨n5, e5, hD⟩ := dInt_elim hD; exact F28_4_ok R l0 l1 n5 ds' w' ρ' e0 e1 e5 hD) h
theorem F28_calls (l0 : SV) (l1 : SV) (w : World) (R : Rt) (h : F28_5 R l0 l1 [] w) : Calls Try.prog 28 #[.slice l0.a l0.len l0.cap, .slice l1.a l1.len l1.cap] w R :=
  calls_of_L (l := [c28_0, c28_1, c28_2, c28_3, c28_4, c28_5, c28_6]) Try.func28 (by kernel_rfl) (by rw [Try.ntmps28]; exact Nat.le_of_ble_eq_true (by kernel_rfl)) c28_l
    (F28_5_ok R l0 l1 [] w _ rfl rfl h)
theorem F28_callsD (l0 : SV) (l1 : SV) (w : World) (R : Rt) (u : FrameMode) (h : F28_5 R l0 l1 [] w) : CallsD Try.prog 28 #[.slice l0.a l0.len l0.cap, .slice l1.a l1.len l1.cap] u w fun e u' w' => u' = u ∧ R e w' :=
  callsD_of_L (l := [c28_0, c28_1, c28_2, c28_3, c28_4, c28_5, c28_6]) Try.func28 (by kernel_rfl) (by rw [Try.ntmps28]; exact Nat.le_of_ble_eq_true (by kernel_rfl)) (by kernel_rfl) c28_l
    (F28_5_ok R l0 l1 [] w _ rfl rfl h) u

end Go.Proofs.Ytcnenlmhbpijlaa
