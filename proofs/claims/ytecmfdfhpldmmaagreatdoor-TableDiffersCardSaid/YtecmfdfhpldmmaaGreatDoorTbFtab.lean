import Derived.Test.YtecmfdfhpldmmaaGreatDoorProg
import Derived.Test.YtecmfdfhpldmmaaGreatDoorShEight
/- Shallow texts of functions, printed by program, each checked by the kernel against the loaded code. No condition. -/
set_option maxRecDepth 100000
set_option linter.unusedVariables false
namespace Go.Proofs.YtecmfdfhpldmmaaGreatDoor
open Go.Sh
/-! function 34: cabinetry/table.Validate -/
noncomputable def c34_0 : Code := itemAt (flat (bodyOf Tryz.f34)) 0
noncomputable def c34_1 : Code := itemAt (flat (bodyOf Tryz.f34)) 1
noncomputable def c34_2 : Code := itemAt (flat (bodyOf Tryz.f34)) 2
noncomputable def c34_3 : Code := itemAt (flat (bodyOf Tryz.f34)) 3
noncomputable def c34_4 : Code := itemAt (flat (bodyOf Tryz.f34)) 4
noncomputable def c34_5 : Code := itemAt (flat (bodyOf Tryz.f34)) 5
noncomputable def c34_6 : Code := itemAt (flat (bodyOf Tryz.f34)) 6
noncomputable def c34_7 : Code := itemAt (flat (bodyOf Tryz.f34)) 7
noncomputable def c34_8 : Code := itemAt (flat (bodyOf Tryz.f34)) 8
noncomputable def c34_9 : Code := itemAt (flat (bodyOf Tryz.f34)) 9
noncomputable def c34_10 : Code := itemAt (flat (bodyOf Tryz.f34)) 10
noncomputable def c34_11 : Code := itemAt (flat (bodyOf Tryz.f34)) 11
noncomputable def c34_9_0 : Code := itemAt (flat (innerC c34_9)) 0
noncomputable def c34_9_0_0 : Code := itemAt (flat (innerC c34_9_0)) 0
noncomputable def c34_9_0_1 : Code := itemAt (flat (innerC c34_9_0)) 1
noncomputable def c34_9_0_2 : Code := itemAt (flat (innerC c34_9_0)) 2
noncomputable def c34_9_0_3 : Code := itemAt (flat (innerC c34_9_0)) 3
noncomputable def c34_9_0_2_0 : Code := itemAt (flat (innerC c34_9_0_2)) 0
noncomputable def c34_9_0_2_1 : Code := itemAt (flat (innerC c34_9_0_2)) 1
noncomputable def c34_9_0_2_2 : Code := itemAt (flat (innerC c34_9_0_2)) 2
noncomputable def c34_9_0_2_3 : Code := itemAt (flat (innerC c34_9_0_2)) 3
noncomputable def c34_9_0_2_4 : Code := itemAt (flat (innerC c34_9_0_2)) 4
noncomputable def c34_9_0_2_4_0 : Code := itemAt (flat (innerC c34_9_0_2_4)) 0
noncomputable def c34_9_0_2_4_0_0 : Code := itemAt (flat (innerC c34_9_0_2_4_0)) 0
noncomputable def c34_9_0_2_4_0_1 : Code := itemAt (flat (innerC c34_9_0_2_4_0)) 1
noncomputable def c34_9_0_2_4_0_2 : Code := itemAt (flat (innerC c34_9_0_2_4_0)) 2
noncomputable def c34_9_0_2_4_0_3 : Code := itemAt (flat (innerC c34_9_0_2_4_0)) 3
def F34_q1 (R : Rt) : EQ := endQ Tryz.prog Tryz.f34.results.toList R
def F34_1 (R : Rt) (ds : Ds) (w : World) : Prop :=
 runD Tryz.prog ds w fun w1 =>
 R (.returned (.int .i64 0)) w1
def F34_k2 (R : Rt) : EP := (fun ρ ds w => F34_1 R ds w)
def F34_q3 (R : Rt) : EQ := (thenQ (F34_k2 R) (F34_q1 R))
def F34_q4 (R : Rt) : EQ := (blockQ 0 (F34_q3 R))
def F34_q5 (R : Rt) (J1 : (Int) → World → Prop) : EQ := (thenQ (fun ρ _ w => dInt .i64 (ρ 25) fun n25 => J1 n25 w) (F34_q4 R))
def F34_2 (R : Rt) (J1 : (Int) → World → Prop) (p1 : Option Addr) (l23 : SV) (n24 : Int) (n25 : Int) (ds : Ds) (w : World) : Prop :=
 J1 (IntKind.i64.wrap (n25 + 1)) w
def F34_k6 (R : Rt) (J1 : (Int) → World → Prop) : EP := (fun ρ ds w => dPtr (ρ 1) fun p1 => dSl (ρ 23) fun l23 => dInt .i64 (ρ 24) fun n24 => dInt .i64 (ρ 25) fun n25 => F34_2 R J1 p1 l23 n24 n25 ds w)
def F34_q7 (R : Rt) (J1 : (Int) → World → Prop) : EQ := (thenQ (F34_k6 R J1) (F34_q5 R J1))
def F34_q8 (R : Rt) (J1 : (Int) → World → Prop) : EQ := (blockQ 1 (F34_q7 R J1))
def F34_q9 (R : Rt) (J1 : (Int) → World → Prop) : EQ := (blockQ 2 (F34_q8 R J1))
def F34_q10 (R : Rt) (J1 : (Int) → World → Prop) (J2 : (Int) → World → Prop) : EQ := (thenQ (fun ρ _ w => dInt .i64 (ρ 39) fun n39 => J2 n39 w) (F34_q9 R J1))
def F34_3 (R : Rt) (J1 : (Int) → World → Prop) (J2 : (Int) → World → Prop) (p1 : Option Addr) (p5 : Option Addr) (l23 : SV) (n24 : Int) (n25 : Int) (l37 : SV) (n38 : Int) (n39 : Int) (ds : Ds) (w : World) : Prop :=
 Br (decide (n39 < n38)) (
 ∃ a2 : Addr, l37.a = some a2 ∧ 0 ≤ n39 ∧ n39 < ((l37.len : Nat) : Int) ∧
 ∃ s43_0 : ByteArray, w.cell? ((a2.add (n39.toNat * 4)).add 0) = some (.string s43_0) ∧
 ∃ n43_1 : Int, w.cell? ((a2.add (n39.toNat * 4)).add 1) = some (.int .i64 n43_1) ∧
 ∃ n43_2 : Int, w.cell? ((a2.add (n39.toNat * 4)).add 2) = some (.int .i64 n43_2) ∧
 ∃ b43_3 : Bool, w.cell? ((a2.add (n39.toNat * 4)).add 3) = some (.bool b43_3) ∧
 alE (.cells #[.string (⟨#[]⟩ : ByteArray), .int .i64 0, .int .i64 0, .bool false] 23) w fun r7 w3 =>
 stA Tryz.prog 23 (⟨r7, 0, none⟩ : Addr) #[.string s43_0, .int .i64 n43_1, .int .i64 n43_2, .bool b43_3] w3 fun w4 =>
 dwE w4 fun w5 =>
 ∃ s44_0 : ByteArray, w5.cell? ((⟨r7, 0, none⟩ : Addr).add 0) = some (.string s44_0) ∧
 ∃ n44_1 : Int, w5.cell? ((⟨r7, 0, none⟩ : Addr).add 1) = some (.int .i64 n44_1) ∧
 ∃ n44_2 : Int, w5.cell? ((⟨r7, 0, none⟩ : Addr).add 2) = some (.int .i64 n44_2) ∧
 ∃ b44_3 : Bool, w5.cell? ((⟨r7, 0, none⟩ : Addr).add 3) = some (.bool b44_3) ∧
 ptrE p1 fun a6 =>
 ∃ n46 : Int, w5.cell? a6 = some (.int .i64 n46) ∧
 ptrE p5 fun a7 =>
 ∃ l48 : SV, w5.cell? (a7.add 1) = some (.slice l48.a l48.len l48.cap) ∧
 ∃ a8 : Addr, l48.a = some a8 ∧ 0 ≤ n39 ∧ n39 < ((l48.len : Nat) : Int) ∧
 ∃ n51_0 : Int, w5.cell? ((a8.add (n39.toNat * 3)).add 0) = some (.int .i64 n51_0) ∧
 ∃ n51_1 : Int, w5.cell? ((a8.add (n39.toNat * 3)).add 1) = some (.int .i64 n51_1) ∧
 ∃ s51_2 : ByteArray, w5.cell? ((a8.add (n39.toNat * 3)).add 2) = some (.string s51_2) ∧
 Calls Tryz.prog 73 #[.agg #[.string s44_0, .int .i64 n44_1, .int .i64 n44_2, .bool b44_3], .int .i64 n46, .agg #[.int .i64 n51_0, .int .i64 n51_1, .string s51_2]] w5 fun e w9 =>
 ∃ b52 : Bool, e = .returned (.bool b52) ∧
 Br (!b52) (
 runD Tryz.prog ds w9 fun w10 =>
 R (.returned (.int .i64 1)) w10) (
 J2 (IntKind.i64.wrap (n39 + 1)) w9)) (
 F34_2 R J1 p1 l23 n24 n25 ds w)
def F34_4 (R : Rt) (J1 : (Int) → World → Prop) (p1 : Option Addr) (p5 : Option Addr) (l23 : SV) (n24 : Int) (n25 : Int) (l37 : SV) (n38 : Int) (n39 : Int) (ds : Ds) (w : World) : Prop :=
 loopT (fun (J2 : (Int) → World → Prop) (s : Int) (w : World) => F34_3 R J1 J2 p1 p5 l23 n24 n25 l37 n38 s ds w) n39 w
@[reducible] def F34_5 (R : Rt) (J1 : (Int) → World → Prop) (p1 : Option Addr) (p5 : Option Addr) (l23 : SV) (n24 : Int) (n25 : Int) (l37 : SV) (n38 : Int) (n39 : Int) (ds : Ds) (w : World) : Prop := F34_4 R J1 p1 p5 l23 n24 n25 l37 n38 n39 ds w
def F34_k11 (R : Rt) (J1 : (Int) → World → Prop) : EP := (fun ρ ds w => dPtr (ρ 1) fun p1 => dPtr (ρ 5) fun p5 => dSl (ρ 23) fun l23 => dInt .i64 (ρ 24) fun n24 => dInt .i64 (ρ 25) fun n25 => dSl (ρ 37) fun l37 => dInt .i64 (ρ 38) fun n38 => dInt .i64 (ρ 39) fun n39 => F34_5 R J1 p1 p5 l23 n24 n25 l37 n38 n39 ds w)
def F34_6 (R : Rt) (J1 : (Int) → World → Prop) (p1 : Option Addr) (l23 : SV) (n24 : Int) (n25 : Int) (ds : Ds) (w : World) : Prop :=
 ∃ a11 : Addr, l23.a = some a11 ∧ 0 ≤ n25 ∧ n25 < ((l23.len : Nat) : Int) ∧
 ∃ b28_0 : Bool, w.cell? ((a11.add (n25.toNat * 2)).add 0) = some (.bool b28_0) ∧
 ∃ l28_1 : SV, w.cell? ((a11.add (n25.toNat * 2)).add 1) = some (.slice l28_1.a l28_1.len l28_1.cap) ∧
 alE (.cells #[.bool false, .slice none 0 0] 46) w fun r5 w12 =>
 stA Tryz.prog 46 (⟨r5, 0, none⟩ : Addr) #[.bool b28_0, .slice l28_1.a l28_1.len l28_1.cap] w12 fun w13 =>
 ∃ l30 : SV, w13.cell? ((⟨r5, 0, none⟩ : Addr).add 1) = some (.slice l30.a l30.len l30.cap) ∧
 ptrE p1 fun a14 =>
 ∃ l33 : SV, w13.cell? (a14.add 1) = some (.slice l33.a l33.len l33.cap) ∧
 Br (((l30.len : Nat) : Int) != ((l33.len : Nat) : Int)) (
 runD Tryz.prog ds w13 fun w15 =>
 R (.returned (.int .i64 10)) w15) (
 ptrE p1 fun a16 =>
 ∃ l37 : SV, w13.cell? (a16.add 1) = some (.slice l37.a l37.len l37.cap) ∧
 F34_5 R J1 p1 (some (⟨r5, 0, none⟩ : Addr)) l23 n24 n25 l37 ((l37.len : Nat) : Int) 0 ds w13)
@[reducible] def F34_7 (R : Rt) (J1 : (Int) → World → Prop) (p1 : Option Addr) (l23 : SV) (n24 : Int) (n25 : Int) (ds : Ds) (w : World) : Prop := F34_6 R J1 p1 l23 n24 n25 ds w
def F34_k12 (R : Rt) (J1 : (Int) → World → Prop) : EP := (fun ρ ds w => dPtr (ρ 1) fun p1 => dSl (ρ 23) fun l23 => dInt .i64 (ρ 24) fun n24 => dInt .i64 (ρ 25) fun n25 => F34_7 R J1 p1 l23 n24 n25 ds w)
def F34_8 (R : Rt) (J1 : (Int) → World → Prop) (p1 : Option Addr) (l23 : SV) (n24 : Int) (n25 : Int) (ds : Ds) (w : World) : Prop :=
 Br (decide (n25 < n24)) (
 F34_7 R J1 p1 l23 n24 n25 ds w) (
 F34_1 R ds w)
def F34_9 (R : Rt) (p1 : Option Addr) (l23 : SV) (n24 : Int) (n25 : Int) (ds : Ds) (w : World) : Prop :=
 loopT (fun (J1 : (Int) → World → Prop) (s : Int) (w : World) => F34_8 R J1 p1 l23 n24 s ds w) n25 w
@[reducible] def F34_10 (R : Rt) (p1 : Option Addr) (l23 : SV) (n24 : Int) (n25 : Int) (ds : Ds) (w : World) : Prop := F34_9 R p1 l23 n24 n25 ds w
def F34_k13 (R : Rt) : EP := (fun ρ ds w => dPtr (ρ 1) fun p1 => dSl (ρ 23) fun l23 => dInt .i64 (ρ 24) fun n24 => dInt .i64 (ρ 25) fun n25 => F34_10 R p1 l23 n24 n25 ds w)
def F34_11 (R : Rt) (n0_0 : Int) (l0_1 : SV) (l0_2 : SV) (ds : Ds) (w : World) : Prop :=
 alE (.cells #[.int .i64 n0_0, .slice l0_1.a l0_1.len l0_1.cap, .slice l0_2.a l0_2.len l0_2.cap] 35) w fun r1 w17 =>
 ∃ n9 : Int, w17.cell? (⟨r1, 0, none⟩ : Addr) = some (.int .i64 n9) ∧
 Calls Tryz.prog 48 #[.int .i64 n9] w17 fun e w18 =>
 ∃ b10 : Bool, e = .returned (.bool b10) ∧
 Br (!b10) (
 runD Tryz.prog ds w18 fun w19 =>
 R (.returned (.int .i64 1)) w19) (
 ∃ l13 : SV, w18.cell? ((⟨r1, 0, none⟩ : Addr).add 1) = some (.slice l13.a l13.len l13.cap) ∧
 Calls Tryz.prog 36 #[.slice l13.a l13.len l13.cap] w18 fun e w20 =>
 ∃ n14 : Int, e = .returned (.int .i64 n14) ∧
 Br (n14 != 0) (
 runD Tryz.prog ds w20 fun w21 =>
 R (.returned (.int .i64 n14)) w21) (
 ∃ l19 : SV, w20.cell? ((⟨r1, 0, none⟩ : Addr).add 2) = some (.slice l19.a l19.len l19.cap) ∧
 Br (decide (((l19.len : Nat) : Int) > 300)) (
 runD Tryz.prog ds w20 fun w22 =>
 R (.returned (.int .i64 3)) w22) (
 ∃ l23 : SV, w20.cell? ((⟨r1, 0, none⟩ : Addr).add 2) = some (.slice l23.a l23.len l23.cap) ∧
 F34_10 R (some (⟨r1, 0, none⟩ : Addr)) l23 ((l23.len : Nat) : Int) 0 ds w20)))
theorem c34_l : flat (bodyOf Tryz.f34) = [c34_0, c34_1, c34_2, c34_3, c34_4, c34_5, c34_6, c34_7, c34_8, c34_9, c34_10, c34_11] := by kernel_rfl
theorem c34_9_l : flat (innerC c34_9) = [c34_9_0] := by kernel_rfl
theorem c34_9_0_l : flat (innerC c34_9_0) = [c34_9_0_0, c34_9_0_1, c34_9_0_2, c34_9_0_3] := by kernel_rfl
theorem c34_9_0_2_l : flat (innerC c34_9_0_2) = [c34_9_0_2_0, c34_9_0_2_1, c34_9_0_2_2, c34_9_0_2_3, c34_9_0_2_4] := by kernel_rfl
theorem c34_9_0_2_4_l : flat (innerC c34_9_0_2_4) = [c34_9_0_2_4_0] := by kernel_rfl
theorem c34_9_0_2_4_0_l : flat (innerC c34_9_0_2_4_0) = [c34_9_0_2_4_0_0, c34_9_0_2_4_0_1, c34_9_0_2_4_0_2, c34_9_0_2_4_0_3] := by kernel_rfl
theorem F34_1_ok (R : Rt) (ds : Ds) (w : World) (ρ : Env) (h : F34_1 R ds w) :
    TrL Tryz.prog Tryz.f34.ntmps [c34_10, c34_11] (F34_q1 R) ρ ds w :=
  TrL_leaf (X := F34_1 R ds w) setAll_nil (by kernel_rfl) (by kernel_rfl) h
theorem F34_2_ok (R : Rt) (J1 : (Int) → World → Prop) (p1 : Option Addr) (l23 : SV) (n24 : Int) (n25 : Int) (ds : Ds) (w : World) (ρ : Env) (e1 : ρ 1 = .pointer p1) (e23 : ρ 23 = .slice l23.a l23.len l23.cap) (e24 : ρ 24 = .int .i64 n24) (e25 : ρ 25 = .int .i64 n25) (h : F34_2 R J1 p1 l23 n24 n25 ds w) :
    TrL Tryz.prog Tryz.f34.ntmps [c34_9_0_3] (F34_q5 R J1) ρ ds w :=
  TrL_leaf (X := F34_2 R J1 p1 l23 n24 n25 ds w) (setAll_cons e1 (setAll_cons e23 (setAll_cons e24 (setAll_cons e25 setAll_nil)))) (by kernel_rfl) (by kernel_rfl) h
theorem F34_3_ok (R : Rt) (J1 : (Int) → World → Prop) (J2 : (Int) → World → Prop) (p1 : Option Addr) (p5 : Option Addr) (l23 : SV) (n24 : Int) (n25 : Int) (l37 : SV) (n38 : Int) (n39 : Int) (ds : Ds) (w : World) (ρ : Env) (e1 : ρ 1 = .pointer p1) (e5 : ρ 5 = .pointer p5) (e23 : ρ 23 = .slice l23.a l23.len l23.cap) (e24 : ρ 24 = .int .i64 n24) (e25 : ρ 25 = .int .i64 n25) (e37 : ρ 37 = .slice l37.a l37.len l37.cap) (e38 : ρ 38 = .int .i64 n38) (e39 : ρ 39 = .int .i64 n39) (h : F34_3 R J1 J2 p1 p5 l23 n24 n25 l37 n38 n39 ds w) :
    TrL Tryz.prog Tryz.f34.ntmps [c34_9_0_2_4_0_0, c34_9_0_2_4_0_1, c34_9_0_2_4_0_2, c34_9_0_2_4_0_3] (F34_q10 R J1 J2) ρ ds w :=
  TrL_leaf (X := F34_3 R J1 J2 p1 p5 l23 n24 n25 l37 n38 n39 ds w) (setAll_cons e1 (setAll_cons e5 (setAll_cons e23 (setAll_cons e24 (setAll_cons e25 (setAll_cons e37 (setAll_cons e38 (setAll_cons e39 setAll_nil)))))))) (by kernel_rfl) (by kernel_rfl) h
theorem F34_4_ok (R : Rt) (J1 : (Int) → World → Prop) (p1 : Option Addr) (p5 : Option Addr) (l23 : SV) (n24 : Int) (n25 : Int) (l37 : SV) (n38 : Int) (n39 : Int) (ds : Ds) (w : World) (ρ : Env) (e1 : ρ 1 = .pointer p1) (e5 : ρ 5 = .pointer p5) (e23 : ρ 23 = .slice l23.a l23.len l23.cap) (e24 : ρ 24 = .int .i64 n24) (e25 : ρ 25 = .int .i64 n25) (e37 : ρ 37 = .slice l37.a l37.len l37.cap) (e38 : ρ 38 = .int .i64 n38) (e39 : ρ 39 = .int .i64 n39) (h : F34_4 R J1 p1 p5 l23 n24 n25 l37 n38 n39 ds w) :
    TrL Tryz.prog Tryz.f34.ntmps [c34_9_0_2_4_0] (F34_q9 R J1) ρ ds w :=
  TrL_one (Tr_loop' (c := innerC c34_9_0_2_4_0) (σ := Int) (enc := (fun (s : Int) (ρ : Env) => ρ 39 = .int .i64 s)) (D := (fun ρ K => dInt .i64 (ρ 39) fun n39 => K n39)) (F := (fun (J2 : (Int) → World → Prop) (s : Int) (w : World) => F34_3 R J1 J2 p1 p5 l23 n24 n25 l37 n38 s ds w)) (s0 := n39) (by kernel_rfl) c34_9_0_2_4_0_l e39 (by kernel_rfl) (fun ρ K hD => by obtain ⟨n39, e39, hD⟩ := dInt_elim hD; exact ⟨n39, e39, hD⟩)
      (fun J2 s ρ' w' he ha hF => by
      have e39' := he
      exact F34_3_ok R J1 J2 p1 p5 l23 n24 n25 l37 n38 s ds w' ρ' ((ha 1 (by kernel_rfl)).trans e1) ((ha 5 (by kernel_rfl)).trans e5) ((ha 23 (by kernel_rfl)).trans e23) ((ha 24 (by kernel_rfl)).trans e24) ((ha 25 (by kernel_rfl)).trans e25) ((ha 37 (by kernel_rfl)).trans e37) ((ha 38 (by kernel_rfl)).trans e38) e39' hF) h)
theorem F34_5_ok (R : Rt) (J1 : (Int) → World → Prop) (p1 : Option Addr) (p5 : Option Addr) (l23 : SV) (n24 : Int) (n25 : Int) (l37 : SV) (n38 : Int) (n39 : Int) (ds : Ds) (w : World) (ρ : Env) (e1 : ρ 1 = .pointer p1) (e5 : ρ 5 = .pointer p5) (e23 : ρ 23 = .slice l23.a l23.len l23.cap) (e24 : ρ 24 = .int .i64 n24) (e25 : ρ 25 = .int .i64 n25) (e37 : ρ 37 = .slice l37.a l37.len l37.cap) (e38 : ρ 38 = .int .i64 n38) (e39 : ρ 39 = .int .i64 n39) (h : F34_5 R J1 p1 p5 l23 n24 n25 l37 n38 n39 ds w) :
    TrL Tryz.prog Tryz.f34.ntmps [c34_9_0_2_4] (F34_q8 R J1) ρ ds w :=
  TrL_one (Tr_block' (c := innerC c34_9_0_2_4) (by kernel_rfl) c34_9_0_2_4_l (F34_4_ok R J1 p1 p5 l23 n24 n25 l37 n38 n39 ds w ρ e1 e5 e23 e24 e25 e37 e38 e39 h))
theorem F34_6_ok (R : Rt) (J1 : (Int) → World → Prop) (p1 : Option Addr) (l23 : SV) (n24 : Int) (n25 : Int) (ds : Ds) (w : World) (ρ : Env) (e1 : ρ 1 = .pointer p1) (e23 : ρ 23 = .slice l23.a l23.len l23.cap) (e24 : ρ 24 = .int .i64 n24) (e25 : ρ 25 = .int .i64 n25) (h : F34_6 R J1 p1 l23 n24 n25 ds w) :
    TrL Tryz.prog Tryz.f34.ntmps [c34_9_0_2_0, c34_9_0_2_1, c34_9_0_2_2, c34_9_0_2_3, c34_9_0_2_4] (F34_q8 R J1) ρ ds w :=
  TrL_piece (pre := [c34_9_0_2_0, c34_9_0_2_1, c34_9_0_2_2, c34_9_0_2_3]) (K := (F34_k11 R J1)) (X := F34_6 R J1 p1 l23 n24 n25 ds w) (setAll_cons e1 (setAll_cons e23 (setAll_cons e24 (setAll_cons e25 setAll_nil)))) (by kernel_rfl) (by kernel_rfl)
    (fun ρ' ds' w' hD => by
      obtain ⟨p1, e1, hD⟩ := dPtr_elim hD; obtain ⟨p5, e5, hD⟩ := dPtr_elim hD; obtain ⟨l23, e23, hD⟩ := dSl_elim hD; obtain ⟨n24, e24, hD⟩ := dInt_elim hD; obtain ⟨n25, e25, hD⟩ := dInt_elim hD; obtain ⟨l37, e37, hD⟩ := dSl_elim hD; obtain ⟨n38, e38, hD⟩ := dInt_elim hD; obtain ⟨n39, e39, hD⟩ := dInt_elim hD; exact F34_5_ok R J1 p1 p5 l23 n24 n25 l37 n38 n39 ds' w' ρ' e1 e5 e23 e24 e25 e37 e38 e39 hD) h
theorem F34_7_ok (R : Rt) (J1 : (Int) → World → Prop) (p1 : Option Addr) (l23 : SV) (n24 : Int) (n25 : Int) (ds : Ds) (w : World) (ρ : Env) (e1 : ρ 1 = .pointer p1) (e23 : ρ 23 = .slice l23.a l23.len l23.cap) (e24 : ρ 24 = .int .i64 n24) (e25 : ρ 25 = .int .i64 n25) (h : F34_7 R J1 p1 l23 n24 n25 ds w) :
    TrL Tryz.prog Tryz.f34.ntmps [c34_9_0_2, c34_9_0_3] (F34_q5 R J1) ρ ds w :=
  TrL_head (K := (F34_k6 R J1)) (Tr_block' (c := innerC c34_9_0_2) (by kernel_rfl) c34_9_0_2_l (F34_6_ok R J1 p1 l23 n24 n25 ds w ρ e1 e23 e24 e25 h))
    (fun ρ' ds' w' hD => by
      obtain ⟨p1, e1, hD⟩ := dPtr_elim hD; obtain ⟨l23, e23, hD⟩ := dSl_elim hD; obtain ⟨n24, e24, hD⟩ := dInt_elim hD; obtain ⟨n25, e25, hD⟩ := dInt_elim hD; exact F34_2_ok R J1 p1 l23 n24 n25 ds' w' ρ' e1 e23 e24 e25 hD)
theorem F34_8_ok (R : Rt) (J1 : (Int) → World → Prop) (p1 : Option Addr) (l23 : SV) (n24 : Int) (n25 : Int) (ds : Ds) (w : World) (ρ : Env) (e1 : ρ 1 = .pointer p1) (e23 : ρ 23 = .slice l23.a l23.len l23.cap) (e24 : ρ 24 = .int .i64 n24) (e25 : ρ 25 = .int .i64 n25) (h : F34_8 R J1 p1 l23 n24 n25 ds w) :
    TrL Tryz.prog Tryz.f34.ntmps [c34_9_0_0, c34_9_0_1, c34_9_0_2, c34_9_0_3] (F34_q5 R J1) ρ ds w :=
  TrL_piece (pre := [c34_9_0_0, c34_9_0_1]) (K := (F34_k12 R J1)) (X := F34_8 R J1 p1 l23 n24 n25 ds w) (setAll_cons e1 (setAll_cons e23 (setAll_cons e24 (setAll_cons e25 setAll_nil)))) (by kernel_rfl) (by kernel_rfl)
    (fun ρ' ds' w' hD => by
      obtain ⟨p1, e1, hD⟩ := dPtr_elim hD; obtain ⟨l23, e23, hD⟩ := dSl_elim hD; obtain ⟨n24, e24, hD⟩ := dInt_elim hD; obtain ⟨n25, e25, hD⟩ := dInt_elim hD; exact F34_7_ok R J1 p1 l23 n24 n25 ds' w' ρ' e1 e23 e24 e25 hD) h
theorem F34_9_ok (R : Rt) (p1 : Option Addr) (l23 : SV) (n24 : Int) (n25 : Int) (ds : Ds) (w : World) (ρ : Env) (e1 : ρ 1 = .pointer p1) (e23 : ρ 23 = .slice l23.a l23.len l23.cap) (e24 : ρ 24 = .int .i64 n24) (e25 : ρ 25 = .int .i64 n25) (h : F34_9 R p1 l23 n24 n25 ds w) :
    TrL Tryz.prog Tryz.f34.ntmps [c34_9_0] (F34_q4 R) ρ ds w :=
  TrL_one (Tr_loop' (c := innerC c34_9_0) (σ := Int) (enc := (fun (s : Int) (ρ : Env) => ρ 25 = .int .i64 s)) (D := (fun ρ K => dInt .i64 (ρ 25) fun n25 => K n25)) (F := (fun (J1 : (Int) → World → Prop) (s : Int) (w : World) => F34_8 R J1 p1 l23 n24 s ds w)) (s0 := n25) (by kernel_rfl) c34_9_0_l e25 (by kernel_rfl) (fun ρ K hD => by obtain ⟨n25, e25, hD⟩ := dInt_elim hD; exact ⟨n25, e25, hD⟩)
      (fun J1 s ρ' w' he ha hF => by
      have e25' := he
      exact F34_8_ok R J1 p1 l23 n24 s ds w' ρ' ((ha 1 (by kernel_rfl)).trans e1) ((ha 23 (by kernel_rfl)).trans e23) ((ha 24 (by kernel_rfl)).trans e24) e25' hF) h)
theorem F34_10_ok (R : Rt) (p1 : Option Addr) (l23 : SV) (n24 : Int) (n25 : Int) (ds : Ds) (w : World) (ρ : Env) (e1 : ρ 1 = .pointer p1) (e23 : ρ 23 = .slice l23.a l23.len l23.cap) (e24 : ρ 24 = .int .i64 n24) (e25 : ρ 25 = .int .i64 n25) (h : F34_10 R p1 l23 n24 n25 ds w) :
    TrL Tryz.prog Tryz.f34.ntmps [c34_9, c34_10, c34_11] (F34_q1 R) ρ ds w :=
  TrL_head (K := (F34_k2 R)) (Tr_block' (c := innerC c34_9) (by kernel_rfl) c34_9_l (F34_9_ok R p1 l23 n24 n25 ds w ρ e1 e23 e24 e25 h))
    (fun ρ' ds' w' hD => by
      exact F34_1_ok R ds' w' ρ'  hD)
theorem F34_11_ok (R : Rt) (n0_0 : Int) (l0_1 : SV) (l0_2 : SV) (ds : Ds) (w : World) (ρ : Env) (e0 : ρ 0 = .agg #[.int .i64 n0_0, .slice l0_1.a l0_1.len l0_1.cap, .slice l0_2.a l0_2.len l0_2.cap]) (h : F34_11 R n0_0 l0_1 l0_2 ds w) :
    TrL Tryz.prog Tryz.f34.ntmps [c34_0, c34_1, c34_2, c34_3, c34_4, c34_5, c34_6, c34_7, c34_8, c34_9, c34_10, c34_11] (F34_q1 R) ρ ds w :=
  TrL_piece (pre := [c34_0, c34_1, c34_2, c34_3, c34_4, c34_5, c34_6, c34_7, c34_8]) (K := (F34_k13 R)) (X := F34_11 R n0_0 l0_1 l0_2 ds w) (setAll_cons e0 setAll_nil) (by kernel_rfl) (by kernel_rfl)
    (fun ρ' ds' w' hD => by
      obtain ⟨p1, e1, hD⟩ := dPtr_elim hD; obtain ⟨l23, e23, hD⟩ := dSl_elim hD; obtain ⟨n24, e24, hD⟩ := dInt_elim hD; obtain ⟨n25, e25, hD⟩ := dInt_elim hD; exact F34_10_ok R p1 l23 n24 n25 ds' w' ρ' e1 e23 e24 e25 hD) h
theorem F34_calls (n0_0 : Int) (l0_1 : SV) (l0_2 : SV) (w : World) (R : Rt) (h : F34_11 R n0_0 l0_1 l0_2 [] w) : Calls Tryz.prog 34 #[.agg #[.int .i64 n0_0, .slice l0_1.a l0_1.len l0_1.cap, .slice l0_2.a l0_2.len l0_2.cap]] w R :=
  calls_of_L (l := [c34_0, c34_1, c34_2, c34_3, c34_4, c34_5, c34_6, c34_7, c34_8, c34_9, c34_10, c34_11]) Tryz.func34 (by kernel_rfl) (by rw [Tryz.ntmps34]; exact Nat.le_of_ble_eq_true (by kernel_rfl)) c34_l
    (F34_11_ok R n0_0 l0_1 l0_2 [] w _ rfl h)
theorem F34_callsD (n0_0 : Int) (l0_1 : SV) (l0_2 : SV) (w : World) (R : Rt) (u : FrameMode) (h : F34_11 R n0_0 l0_1 l0_2 [] w) : CallsD Tryz.prog 34 #[.agg #[.int .i64 n0_0, .slice l0_1.a l0_1.len l0_1.cap, .slice l0_2.a l0_2.len l0_2.cap]] u w fun e u' w' => u' = u ∧ R e w' :=
  callsD_of_L (l := [c34_0, c34_1, c34_2, c34_3, c34_4, c34_5, c34_6, c34_7, c34_8, c34_9, c34_10, c34_11]) Tryz.func34 (by kernel_rfl) (by rw [Tryz.ntmps34]; exact Nat.le_of_ble_eq_true (by kernel_rfl)) (by kernel_rfl) c34_l
    (F34_11_ok R n0_0 l0_1 l0_2 [] w _ rfl h) u

/-! function 73: cabinetry/table.holds -/
noncomputable def c73_0 : Code := itemAt (flat (bodyOf Tryz.f73)) 0
noncomputable def c73_1 : Code := itemAt (flat (bodyOf Tryz.f73)) 1
noncomputable def c73_2 : Code := itemAt (flat (bodyOf Tryz.f73)) 2
noncomputable def c73_3 : Code := itemAt (flat (bodyOf Tryz.f73)) 3
noncomputable def c73_4 : Code := itemAt (flat (bodyOf Tryz.f73)) 4
noncomputable def c73_5 : Code := itemAt (flat (bodyOf Tryz.f73)) 5
noncomputable def c73_6 : Code := itemAt (flat (bodyOf Tryz.f73)) 6
noncomputable def c73_7 : Code := itemAt (flat (bodyOf Tryz.f73)) 7
def F73_q1 (R : Rt) : EQ := endQ Tryz.prog Tryz.f73.results.toList R
def F73_1 (R : Rt) (s0_0 : ByteArray) (n0_1 : Int) (n0_2 : Int) (b0_3 : Bool) (n1 : Int) (n2_0 : Int) (n2_1 : Int) (s2_2 : ByteArray) (ds : Ds) (w : World) : Prop :=
 alE (.cells #[.string s0_0, .int .i64 n0_1, .int .i64 n0_2, .bool b0_3] 23) w fun r3 w1 =>
 alE (.cells #[.int .i64 n2_0, .int .i64 n2_1, .string s2_2] 25) w1 fun r5 w2 =>
 ∃ n10 : Int, w2.cell? (⟨r5, 0, none⟩ : Addr) = some (.int .i64 n10) ∧
 Br (n10 == 0) (
 ∃ b13 : Bool, w2.cell? ((⟨r3, 0, none⟩ : Addr).add 3) = some (.bool b13) ∧
 Br b13 (
 ∃ n15_0 : Int, w2.cell? ((⟨r5, 0, none⟩ : Addr).add 0) = some (.int .i64 n15_0) ∧
 ∃ n15_1 : Int, w2.cell? ((⟨r5, 0, none⟩ : Addr).add 1) = some (.int .i64 n15_1) ∧
 ∃ s15_2 : ByteArray, w2.cell? ((⟨r5, 0, none⟩ : Addr).add 2) = some (.string s15_2) ∧
 ∃ b17 : Bool, ∃ w3 : World, (eqS .eql 25 (.tmp 15) (.tmp 16) (.agg #[.int .i64 n15_0, .int .i64 n15_1, .string s15_2]) (.agg #[.int .i64 0, .int .i64 0, .string (⟨#[]⟩ : ByteArray)])).run Tryz.prog w2 = .ok (.bool b17) w3 ∧
 runD Tryz.prog ds w3 fun w4 =>
 R (.returned (.bool b17)) w4) (
 runD Tryz.prog ds w2 fun w5 =>
 R (.returned (.bool false)) w5)) (
 ∃ n19_0 : Int, w2.cell? ((⟨r5, 0, none⟩ : Addr).add 0) = some (.int .i64 n19_0) ∧
 ∃ n19_1 : Int, w2.cell? ((⟨r5, 0, none⟩ : Addr).add 1) = some (.int .i64 n19_1) ∧
 ∃ s19_2 : ByteArray, w2.cell? ((⟨r5, 0, none⟩ : Addr).add 2) = some (.string s19_2) ∧
 Calls Tryz.prog 49 #[.agg #[.int .i64 n19_0, .int .i64 n19_1, .string s19_2]] w2 fun e w6 =>
 ∃ n20 : Int, e = .returned (.int .i64 n20) ∧
 Br (n20 != 0) (
 runD Tryz.prog ds w6 fun w7 =>
 R (.returned (.bool false)) w7) (
 ∃ s23_0 : ByteArray, w6.cell? ((⟨r3, 0, none⟩ : Addr).add 0) = some (.string s23_0) ∧
 ∃ n23_1 : Int, w6.cell? ((⟨r3, 0, none⟩ : Addr).add 1) = some (.int .i64 n23_1) ∧
 ∃ n23_2 : Int, w6.cell? ((⟨r3, 0, none⟩ : Addr).add 2) = some (.int .i64 n23_2) ∧
 ∃ b23_3 : Bool, w6.cell? ((⟨r3, 0, none⟩ : Addr).add 3) = some (.bool b23_3) ∧
 ∃ n25_0 : Int, w6.cell? ((⟨r5, 0, none⟩ : Addr).add 0) = some (.int .i64 n25_0) ∧
 ∃ n25_1 : Int, w6.cell? ((⟨r5, 0, none⟩ : Addr).add 1) = some (.int .i64 n25_1) ∧
 ∃ s25_2 : ByteArray, w6.cell? ((⟨r5, 0, none⟩ : Addr).add 2) = some (.string s25_2) ∧
 Calls Tryz.prog 13 #[.agg #[.string s23_0, .int .i64 n23_1, .int .i64 n23_2, .bool b23_3], .int .i64 n1, .agg #[.int .i64 n25_0, .int .i64 n25_1, .string s25_2]] w6 fun e w8 =>
 ∃ n26_0_0 : Int, ∃ n26_0_1 : Int, ∃ s26_0_2 : ByteArray, ∃ n26_1 : Int, e = .returned (.tuple #[.agg #[.int .i64 n26_0_0, .int .i64 n26_0_1, .string s26_0_2], .int .i64 n26_1]) ∧
 alE (.cells #[.int .i64 0, .int .i64 0, .string (⟨#[]⟩ : ByteArray)] 25) w8 fun r7 w9 =>
 stA Tryz.prog 25 (⟨r7, 0, none⟩ : Addr) #[.int .i64 n26_0_0, .int .i64 n26_0_1, .string s26_0_2] w9 fun w10 =>
 Br (n26_1 == 0) (
 ∃ n32_0 : Int, w10.cell? ((⟨r7, 0, none⟩ : Addr).add 0) = some (.int .i64 n32_0) ∧
 ∃ n32_1 : Int, w10.cell? ((⟨r7, 0, none⟩ : Addr).add 1) = some (.int .i64 n32_1) ∧
 ∃ s32_2 : ByteArray, w10.cell? ((⟨r7, 0, none⟩ : Addr).add 2) = some (.string s32_2) ∧
 ∃ n33_0 : Int, w10.cell? ((⟨r5, 0, none⟩ : Addr).add 0) = some (.int .i64 n33_0) ∧
 ∃ n33_1 : Int, w10.cell? ((⟨r5, 0, none⟩ : Addr).add 1) = some (.int .i64 n33_1) ∧
 ∃ s33_2 : ByteArray, w10.cell? ((⟨r5, 0, none⟩ : Addr).add 2) = some (.string s33_2) ∧
 ∃ b34 : Bool, ∃ w11 : World, (eqS .eql 25 (.tmp 32) (.tmp 33) (.agg #[.int .i64 n32_0, .int .i64 n32_1, .string s32_2]) (.agg #[.int .i64 n33_0, .int .i64 n33_1, .string s33_2])).run Tryz.prog w10 = .ok (.bool b34) w11 ∧
 runD Tryz.prog ds w11 fun w12 =>
 R (.returned (.bool b34)) w12) (
 runD Tryz.prog ds w10 fun w13 =>
 R (.returned (.bool false)) w13)))
theorem c73_l : flat (bodyOf Tryz.f73) = [c73_0, c73_1, c73_2, c73_3, c73_4, c73_5, c73_6, c73_7] := by kernel_rfl
theorem F73_1_ok (R : Rt) (s0_0 : ByteArray) (n0_1 : Int) (n0_2 : Int) (b0_3 : Bool) (n1 : Int) (n2_0 : Int) (n2_1 : Int) (s2_2 : ByteArray) (ds : Ds) (w : World) (ρ : Env) (e0 : ρ 0 = .agg #[.string s0_0, .int .i64 n0_1, .int .i64 n0_2, .bool b0_3]) (e1 : ρ 1 = .int .i64 n1) (e2 : ρ 2 = .agg #[.int .i64 n2_0, .int .i64 n2_1, .string s2_2]) (h : F73_1 R s0_0 n0_1 n0_2 b0_3 n1 n2_0 n2_1 s2_2 ds w) :
    TrL Tryz.prog Tryz.f73.ntmps [c73_0, c73_1, c73_2, c73_3, c73_4, c73_5, c73_6, c73_7] (F73_q1 R) ρ ds w :=
  TrL_leaf (X := F73_1 R s0_0 n0_1 n0_2 b0_3 n1 n2_0 n2_1 s2_2 ds w) (setAll_cons e0 (setAll_cons e1 (setAll_cons e2 setAll_nil))) (by kernel_rfl) (by kernel_rfl) h
theorem F73_calls (s0_0 : ByteArray) (n0_1 : Int) (n0_2 : Int) (b0_3 : Bool) (n1 : Int) (n2_0 : Int) (n2_1 : Int) (s2_2 : ByteArray) (w : World) (R : Rt) (h : F73_1 R s0_0 n0_1 n0_2 b0_3 n1 n2_0 n2_1 s2_2 [] w) : Calls Tryz.prog 73 #[.agg #[.string s0_0, .int .i64 n0_1, .int .i64 n0_2, .bool b0_3], .int .i64 n1, .agg #[.int .i64 n2_0, .int .i64 n2_1, .string s2_2]] w R :=
  calls_of_L (l := [c73_0, c73_1, c73_2, c73_3, c73_4, c73_5, c73_6, c73_7]) Tryz.func73 (by kernel_rfl) (by rw [Tryz.ntmps73]; exact Nat.le_of_ble_eq_true (by kernel_rfl)) c73_l
    (F73_1_ok R s0_0 n0_1 n0_2 b0_3 n1 n2_0 n2_1 s2_2 [] w _ rfl rfl rfl h)
theorem F73_callsD (s0_0 : ByteArray) (n0_1 : Int) (n0_2 : Int) (b0_3 : Bool) (n1 : Int) (n2_0 : Int) (n2_1 : Int) (s2_2 : ByteArray) (w : World) (R : Rt) (u : FrameMode) (h : F73_1 R s0_0 n0_1 n0_2 b0_3 n1 n2_0 n2_1 s2_2 [] w) : CallsD Tryz.prog 73 #[.agg #[.string s0_0, .int .i64 n0_1, .int .i64 n0_2, .bool b0_3], .int .i64 n1, .agg #[.int .i64 n2_0, .int .i64 n2_1, .string s2_2]] u w fun e u' w' => u' = u ∧ R e w' :=
  callsD_of_L (l := [c73_0, c73_1, c73_2, c73_3, c73_4, c73_5, c73_6, c73_7]) Tryz.func73 (by kernel_rfl) (by rw [Tryz.ntmps73]; exact Nat.le_of_ble_eq_true (by kernel_rfl)) (by kernel_rfl) c73_l
    (F73_1_ok R s0_0 n0_1 n0_2 b0_3 n1 n2_0 n2_1 s2_2 [] w _ rfl rfl rfl h) u

/-! function 35: cabinetry/cabinetryref03.Validate -/
noncomputable def c35_0 : Code := itemAt (flat (bodyOf Tryz.f35)) 0
noncomputable def c35_1 : Code := itemAt (flat (bodyOf Tryz.f35)) 1
noncomputable def c35_2 : Code := itemAt (flat (bodyOf Tryz.f35)) 2
noncomputable def c35_3 : Code := itemAt (flat (bodyOf Tryz.f35)) 3
noncomputable def c35_4 : Code := itemAt (flat (bodyOf Tryz.f35)) 4
noncomputable def c35_5 : Code := itemAt (flat (bodyOf Tryz.f35)) 5
noncomputable def c35_6 : Code := itemAt (flat (bodyOf Tryz.f35)) 6
noncomputable def c35_7 : Code := itemAt (flat (bodyOf Tryz.f35)) 7
noncomputable def c35_8 : Code := itemAt (flat (bodyOf Tryz.f35)) 8
noncomputable def c35_9 : Code := itemAt (flat (bodyOf Tryz.f35)) 9
noncomputable def c35_10 : Code := itemAt (flat (bodyOf Tryz.f35)) 10
noncomputable def c35_11 : Code := itemAt (flat (bodyOf Tryz.f35)) 11
noncomputable def c35_9_0 : Code := itemAt (flat (innerC c35_9)) 0
noncomputable def c35_9_0_0 : Code := itemAt (flat (innerC c35_9_0)) 0
noncomputable def c35_9_0_1 : Code := itemAt (flat (innerC c35_9_0)) 1
noncomputable def c35_9_0_2 : Code := itemAt (flat (innerC c35_9_0)) 2
noncomputable def c35_9_0_3 : Code := itemAt (flat (innerC c35_9_0)) 3
def F35_q1 (R : Rt) : EQ := endQ Tryz.prog Tryz.f35.results.toList R
def F35_1 (R : Rt) (ds : Ds) (w : World) : Prop :=
 runD Tryz.prog ds w fun w1 =>
 R (.returned (.int .i64 0)) w1
def F35_k2 (R : Rt) : EP := (fun ρ ds w => F35_1 R ds w)
def F35_q3 (R : Rt) : EQ := (thenQ (F35_k2 R) (F35_q1 R))
def F35_q4 (R : Rt) : EQ := (blockQ 0 (F35_q3 R))
def F35_q5 (R : Rt) (J1 : (Int) → World → Prop) : EQ := (thenQ (fun ρ _ w => dInt .i64 (ρ 4) fun n4 => J1 n4 w) (F35_q4 R))
def F35_2 (R : Rt) (J1 : (Int) → World → Prop) (p1 : Option Addr) (n4 : Int) (ds : Ds) (w : World) : Prop :=
 ptrE p1 fun a2 =>
 ∃ l22 : SV, w.cell? (a2.add 2) = some (.slice l22.a l22.len l22.cap) ∧
 Br (decide (n4 < ((l22.len : Nat) : Int))) (
 dwE w fun w3 =>
 ptrE p1 fun a4 =>
 ∃ l28 : SV, w3.cell? (a4.add 1) = some (.slice l28.a l28.len l28.cap) ∧
 ptrE p1 fun a5 =>
 ∃ n30 : Int, w3.cell? a5 = some (.int .i64 n30) ∧
 ptrE p1 fun a6 =>
 ∃ l32 : SV, w3.cell? (a6.add 2) = some (.slice l32.a l32.len l32.cap) ∧
 ∃ a7 : Addr, l32.a = some a7 ∧ 0 ≤ n4 ∧ n4 < ((l32.len : Nat) : Int) ∧
 ∃ b35_0 : Bool, w3.cell? ((a7.add (n4.toNat * 2)).add 0) = some (.bool b35_0) ∧
 ∃ l35_1 : SV, w3.cell? ((a7.add (n4.toNat * 2)).add 1) = some (.slice l35_1.a l35_1.len l35_1.cap) ∧
 Calls Tryz.prog 74 #[.slice l28.a l28.len l28.cap, .int .i64 n30, .agg #[.bool b35_0, .slice l35_1.a l35_1.len l35_1.cap]] w3 fun e w8 =>
 ∃ n36 : Int, e = .returned (.int .i64 n36) ∧
 Br (n36 != 0) (
 runD Tryz.prog ds w8 fun w9 =>
 R (.returned (.int .i64 n36)) w9) (
 J1 (IntKind.i64.wrap (n4 + 1)) w8)) (
 F35_1 R ds w)
def F35_3 (R : Rt) (p1 : Option Addr) (n4 : Int) (ds : Ds) (w : World) : Prop :=
 loopT (fun (J1 : (Int) → World → Prop) (s : Int) (w : World) => F35_2 R J1 p1 s ds w) n4 w
@[reducible] def F35_4 (R : Rt) (p1 : Option Addr) (n4 : Int) (ds : Ds) (w : World) : Prop := F35_3 R p1 n4 ds w
def F35_k6 (R : Rt) : EP := (fun ρ ds w => dPtr (ρ 1) fun p1 => dInt .i64 (ρ 4) fun n4 => F35_4 R p1 n4 ds w)
def F35_5 (R : Rt) (n0_0 : Int) (l0_1 : SV) (l0_2 : SV) (ds : Ds) (w : World) : Prop :=
 alE (.cells #[.int .i64 n0_0, .slice l0_1.a l0_1.len l0_1.cap, .slice l0_2.a l0_2.len l0_2.cap] 35) w fun r1 w10 =>
 ∃ n7 : Int, w10.cell? (⟨r1, 0, none⟩ : Addr) = some (.int .i64 n7) ∧
 Calls Tryz.prog 56 #[.int .i64 n7] w10 fun e w11 =>
 ∃ b8 : Bool, e = .returned (.bool b8) ∧
 Br (!b8) (
 runD Tryz.prog ds w11 fun w12 =>
 R (.returned (.int .i64 1)) w12) (
 ∃ l11 : SV, w11.cell? ((⟨r1, 0, none⟩ : Addr).add 1) = some (.slice l11.a l11.len l11.cap) ∧
 Calls Tryz.prog 37 #[.slice l11.a l11.len l11.cap] w11 fun e w13 =>
 ∃ n12 : Int, e = .returned (.int .i64 n12) ∧
 Br (n12 != 0) (
 runD Tryz.prog ds w13 fun w14 =>
 R (.returned (.int .i64 n12)) w14) (
 ∃ l17 : SV, w13.cell? ((⟨r1, 0, none⟩ : Addr).add 2) = some (.slice l17.a l17.len l17.cap) ∧
 Br (decide (((l17.len : Nat) : Int) > 300)) (
 runD Tryz.prog ds w13 fun w15 =>
 R (.returned (.int .i64 3)) w15) (
 F35_4 R (some (⟨r1, 0, none⟩ : Addr)) 0 ds w13)))
theorem c35_l : flat (bodyOf Tryz.f35) = [c35_0, c35_1, c35_2, c35_3, c35_4, c35_5, c35_6, c35_7, c35_8, c35_9, c35_10, c35_11] := by kernel_rfl
theorem c35_9_l : flat (innerC c35_9) = [c35_9_0] := by kernel_rfl
theorem c35_9_0_l : flat (innerC c35_9_0) = [c35_9_0_0, c35_9_0_1, c35_9_0_2, c35_9_0_3] := by kernel_rfl
theorem F35_1_ok (R : Rt) (ds : Ds) (w : World) (ρ : Env) (h : F35_1 R ds w) :
    TrL Tryz.prog Tryz.f35.ntmps [c35_10, c35_11] (F35_q1 R) ρ ds w :=
  TrL_leaf (X := F35_1 R ds w) setAll_nil (by kernel_rfl) (by kernel_rfl) h
theorem F35_2_ok (R : Rt) (J1 : (Int) → World → Prop) (p1 : Option Addr) (n4 : Int) (ds : Ds) (w : World) (ρ : Env) (e1 : ρ 1 = .pointer p1) (e4 : ρ 4 = .int .i64 n4) (h : F35_2 R J1 p1 n4 ds w) :
    TrL Tryz.prog Tryz.f35.ntmps [c35_9_0_0, c35_9_0_1, c35_9_0_2, c35_9_0_3] (F35_q5 R J1) ρ ds w :=
  TrL_leaf (X := F35_2 R J1 p1 n4 ds w) (setAll_cons e1 (setAll_cons e4 setAll_nil)) (by kernel_rfl) (by kernel_rfl) h
theorem F35_3_ok (R : Rt) (p1 : Option Addr) (n4 : Int) (ds : Ds) (w : World) (ρ : Env) (e1 : ρ 1 = .pointer p1) (e4 : ρ 4 = .int .i64 n4) (h : F35_3 R p1 n4 ds w) :
    TrL Tryz.prog Tryz.f35.ntmps [c35_9_0] (F35_q4 R) ρ ds w :=
  TrL_one (Tr_loop' (c := innerC c35_9_0) (σ := Int) (enc := (fun (s : Int) (ρ : Env) => ρ 4 = .int .i64 s)) (D := (fun ρ K => dInt .i64 (ρ 4) fun n4 => K n4)) (F := (fun (J1 : (Int) → World → Prop) (s : Int) (w : World) => F35_2 R J1 p1 s ds w)) (s0 := n4) (by kernel_rfl) c35_9_0_l e4 (by kernel_rfl) (fun ρ K hD => by obtain ⟨n4, e4, hD⟩ := dInt_elim hD; exact ⟨n4, e4, hD⟩)
      (fun J1 s ρ' w' he ha hF => by
      have e4' := he
      exact F35_2_ok R J1 p1 s ds w' ρ' ((ha 1 (by kernel_rfl)).trans e1) e4' hF) h)
theorem F35_4_ok (R : Rt) (p1 : Option Addr) (n4 : Int) (ds : Ds) (w : World) (ρ : Env) (e1 : ρ 1 = .pointer p1) (e4 : ρ 4 = .int .i64 n4) (h : F35_4 R p1 n4 ds w) :
    TrL Tryz.prog Tryz.f35.ntmps [c35_9, c35_10, c35_11] (F35_q1 R) ρ ds w :=
  TrL_head (K := (F35_k2 R)) (Tr_block' (c := innerC c35_9) (by kernel_rfl) c35_9_l (F35_3_ok R p1 n4 ds w ρ e1 e4 h))
    (fun ρ' ds' w' hD => by
      exact F35_1_ok R ds' w' ρ'  hD)
theorem F35_5_ok (R : Rt) (n0_0 : Int) (l0_1 : SV) (l0_2 : SV) (ds : Ds) (w : World) (ρ : Env) (e0 : ρ 0 = .agg #[.int .i64 n0_0, .slice l0_1.a l0_1.len l0_1.cap, .slice l0_2.a l0_2.len l0_2.cap]) (h : F35_5 R n0_0 l0_1 l0_2 ds w) :
    TrL Tryz.prog Tryz.f35.ntmps [c35_0, c35_1, c35_2, c35_3, c35_4, c35_5, c35_6, c35_7, c35_8, c35_9, c35_10, c35_11] (F35_q1 R) ρ ds w :=
  TrL_piece (pre := [c35_0, c35_1, c35_2, c35_3, c35_4, c35_5, c35_6, c35_7, c35_8]) (K := (F35_k6 R)) (X := F35_5 R n0_0 l0_1 l0_2 ds w) (setAll_cons e0 setAll_nil) (by kernel_rfl) (by kernel_rfl)
    (fun ρ' ds' w' hD => by
      obtain ⟨p1, e1, hD⟩ := dPtr_elim hD; obtain ⟨n4, e4, hD⟩ := dInt_elim hD; exact F35_4_ok R p1 n4 ds' w' ρ' e1 e4 hD) h
theorem F35_calls (n0_0 : Int) (l0_1 : SV) (l0_2 : SV) (w : World) (R : Rt) (h : F35_5 R n0_0 l0_1 l0_2 [] w) : Calls Tryz.prog 35 #[.agg #[.int .i64 n0_0, .slice l0_1.a l0_1.len l0_1.cap, .slice l0_2.a l0_2.len l0_2.cap]] w R :=
  calls_of_L (l := [c35_0, c35_1, c35_2, c35_3, c35_4, c35_5, c35_6, c35_7, c35_8, c35_9, c35_10, c35_11]) Tryz.func35 (by kernel_rfl) (by rw [Tryz.ntmps35]; exact Nat.le_of_ble_eq_true (by kernel_rfl)) c35_l
    (F35_5_ok R n0_0 l0_1 l0_2 [] w _ rfl h)
theorem F35_callsD (n0_0 : Int) (l0_1 : SV) (l0_2 : SV) (w : World) (R : Rt) (u : FrameMode) (h : F35_5 R n0_0 l0_1 l0_2 [] w) : CallsD Tryz.prog 35 #[.agg #[.int .i64 n0_0, .slice l0_1.a l0_1.len l0_1.cap, .slice l0_2.a l0_2.len l0_2.cap]] u w fun e u' w' => u' = u ∧ R e w' :=
  callsD_of_L (l := [c35_0, c35_1, c35_2, c35_3, c35_4, c35_5, c35_6, c35_7, c35_8, c35_9, c35_10, c35_11]) Tryz.func35 (by kernel_rfl) (by rw [Tryz.ntmps35]; exact Nat.le_of_ble_eq_true (by kernel_rfl)) (by kernel_rfl) c35_l
    (F35_5_ok R n0_0 l0_1 l0_2 [] w _ rfl h) u

/-! function 74: cabinetry/cabinetryref03.ValidateRecord -/
noncomputable def c74_0 : Code := itemAt (flat (bodyOf Tryz.f74)) 0
noncomputable def c74_1 : Code := itemAt (flat (bodyOf Tryz.f74)) 1
noncomputable def c74_2 : Code := itemAt (flat (bodyOf Tryz.f74)) 2
noncomputable def c74_3 : Code := itemAt (flat (bodyOf Tryz.f74)) 3
noncomputable def c74_4 : Code := itemAt (flat (bodyOf Tryz.f74)) 4
noncomputable def c74_5 : Code := itemAt (flat (bodyOf Tryz.f74)) 5
noncomputable def c74_6 : Code := itemAt (flat (bodyOf Tryz.f74)) 6
noncomputable def c74_4_0 : Code := itemAt (flat (innerC c74_4)) 0
noncomputable def c74_4_0_0 : Code := itemAt (flat (innerC c74_4_0)) 0
noncomputable def c74_4_0_1 : Code := itemAt (flat (innerC c74_4_0)) 1
noncomputable def c74_4_0_2 : Code := itemAt (flat (innerC c74_4_0)) 2
noncomputable def c74_4_0_3 : Code := itemAt (flat (innerC c74_4_0)) 3
def F74_q1 (R : Rt) : EQ := endQ Tryz.prog Tryz.f74.results.toList R
def F74_1 (R : Rt) (ds : Ds) (w : World) : Prop :=
 runD Tryz.prog ds w fun w1 =>
 R (.returned (.int .i64 0)) w1
def F74_k2 (R : Rt) : EP := (fun ρ ds w => F74_1 R ds w)
def F74_q3 (R : Rt) : EQ := (thenQ (F74_k2 R) (F74_q1 R))
def F74_q4 (R : Rt) : EQ := (blockQ 0 (F74_q3 R))
def F74_q5 (R : Rt) (J1 : (Int) → World → Prop) : EQ := (thenQ (fun ρ _ w => dInt .i64 (ρ 7) fun n7 => J1 n7 w) (F74_q4 R))
def F74_2 (R : Rt) (J1 : (Int) → World → Prop) (l0 : SV) (n1 : Int) (p5 : Option Addr) (n7 : Int) (ds : Ds) (w : World) : Prop :=
 Br (decide (n7 < ((l0.len : Nat) : Int))) (
 dwE w fun w2 =>
 ∃ a3 : Addr, l0.a = some a3 ∧ 0 ≤ n7 ∧ n7 < ((l0.len : Nat) : Int) ∧
 ∃ s23_0 : ByteArray, w2.cell? ((a3.add (n7.toNat * 4)).add 0) = some (.string s23_0) ∧
 ∃ n23_1 : Int, w2.cell? ((a3.add (n7.toNat * 4)).add 1) = some (.int .i64 n23_1) ∧
 ∃ n23_2 : Int, w2.cell? ((a3.add (n7.toNat * 4)).add 2) = some (.int .i64 n23_2) ∧
 ∃ b23_3 : Bool, w2.cell? ((a3.add (n7.toNat * 4)).add 3) = some (.bool b23_3) ∧
 ptrE p5 fun a4 =>
 ∃ l26 : SV, w2.cell? (a4.add 1) = some (.slice l26.a l26.len l26.cap) ∧
 ∃ a5 : Addr, l26.a = some a5 ∧ 0 ≤ n7 ∧ n7 < ((l26.len : Nat) : Int) ∧
 ∃ n29_0 : Int, w2.cell? ((a5.add (n7.toNat * 3)).add 0) = some (.int .i64 n29_0) ∧
 ∃ n29_1 : Int, w2.cell? ((a5.add (n7.toNat * 3)).add 1) = some (.int .i64 n29_1) ∧
 ∃ s29_2 : ByteArray, w2.cell? ((a5.add (n7.toNat * 3)).add 2) = some (.string s29_2) ∧
 Calls Tryz.prog 105 #[.agg #[.string s23_0, .int .i64 n23_1, .int .i64 n23_2, .bool b23_3], .int .i64 n1, .agg #[.int .i64 n29_0, .int .i64 n29_1, .string s29_2]] w2 fun e w6 =>
 ∃ b30 : Bool, e = .returned (.bool b30) ∧
 Br (!b30) (
 runD Tryz.prog ds w6 fun w7 =>
 R (.returned (.int .i64 1)) w7) (
 J1 (IntKind.i64.wrap (n7 + 1)) w6)) (
 F74_1 R ds w)
def F74_3 (R : Rt) (l0 : SV) (n1 : Int) (p5 : Option Addr) (n7 : Int) (ds : Ds) (w : World) : Prop :=
 loopT (fun (J1 : (Int) → World → Prop) (s : Int) (w : World) => F74_2 R J1 l0 n1 p5 s ds w) n7 w
@[reducible] def F74_4 (R : Rt) (l0 : SV) (n1 : Int) (p5 : Option Addr) (n7 : Int) (ds : Ds) (w : World) : Prop := F74_3 R l0 n1 p5 n7 ds w
def F74_k6 (R : Rt) : EP := (fun ρ ds w => dSl (ρ 0) fun l0 => dInt .i64 (ρ 1) fun n1 => dPtr (ρ 5) fun p5 => dInt .i64 (ρ 7) fun n7 => F74_4 R l0 n1 p5 n7 ds w)
def F74_5 (R : Rt) (l0 : SV) (n1 : Int) (b2_0 : Bool) (l2_1 : SV) (ds : Ds) (w : World) : Prop :=
 alE (.cells #[.bool b2_0, .slice l2_1.a l2_1.len l2_1.cap] 46) w fun r5 w8 =>
 ∃ l9 : SV, w8.cell? ((⟨r5, 0, none⟩ : Addr).add 1) = some (.slice l9.a l9.len l9.cap) ∧
 Br (((l9.len : Nat) : Int) != ((l0.len : Nat) : Int)) (
 runD Tryz.prog ds w8 fun w9 =>
 R (.returned (.int .i64 10)) w9) (
 F74_4 R l0 n1 (some (⟨r5, 0, none⟩ : Addr)) 0 ds w8)
theorem c74_l : flat (bodyOf Tryz.f74) = [c74_0, c74_1, c74_2, c74_3, c74_4, c74_5, c74_6] := by kernel_rfl
theorem c74_4_l : flat (innerC c74_4) = [c74_4_0] := by kernel_rfl
theorem c74_4_0_l : flat (innerC c74_4_0) = [c74_4_0_0, c74_4_0_1, c74_4_0_2, c74_4_0_3] := by kernel_rfl
theorem F74_1_ok (R : Rt) (ds : Ds) (w : World) (ρ : Env) (h : F74_1 R ds w) :
    TrL Tryz.prog Tryz.f74.ntmps [c74_5, c74_6] (F74_q1 R) ρ ds w :=
  TrL_leaf (X := F74_1 R ds w) setAll_nil (by kernel_rfl) (by kernel_rfl) h
theorem F74_2_ok (R : Rt) (J1 : (Int) → World → Prop) (l0 : SV) (n1 : Int) (p5 : Option Addr) (n7 : Int) (ds : Ds) (w : World) (ρ : Env) (e0 : ρ 0 = .slice l0.a l0.len l0.cap) (e1 : ρ 1 = .int .i64 n1) (e5 : ρ 5 = .pointer p5) (e7 : ρ 7 = .int .i64 n7) (h : F74_2 R J1 l0 n1 p5 n7 ds w) :
    TrL Tryz.prog Tryz.f74.ntmps [c74_4_0_0, c74_4_0_1, c74_4_0_2, c74_4_0_3] (F74_q5 R J1) ρ ds w :=
  TrL_leaf (X := F74_2 R J1 l0 n1 p5 n7 ds w) (setAll_cons e0 (setAll_cons e1 (setAll_cons e5 (setAll_cons e7 setAll_nil)))) (by kernel_rfl) (by kernel_rfl) h
theorem F74_3_ok (R : Rt) (l0 : SV) (n1 : Int) (p5 : Option Addr) (n7 : Int) (ds : Ds) (w : World) (ρ : Env) (e0 : ρ 0 = .slice l0.a l0.len l0.cap) (e1 : ρ 1 = .int .i64 n1) (e5 : ρ 5 = .pointer p5) (e7 : ρ 7 = .int .i64 n7) (h : F74_3 R l0 n1 p5 n7 ds w) :
    TrL Tryz.prog Tryz.f74.ntmps [c74_4_0] (F74_q4 R) ρ ds w :=
  TrL_one (Tr_loop' (c := innerC c74_4_0) (σ := Int) (enc := (fun (s : Int) (ρ : Env) => ρ 7 = .int .i64 s)) (D := (fun ρ K => dInt .i64 (ρ 7) fun n7 => K n7)) (F := (fun (J1 : (Int) → World → Prop) (s : Int) (w : World) => F74_2 R J1 l0 n1 p5 s ds w)) (s0 := n7) (by kernel_rfl) c74_4_0_l e7 (by kernel_rfl) (fun ρ K hD => by obtain ⟨n7, e7, hD⟩ := dInt_elim hD; exact ⟨n7, e7, hD⟩)
      (fun J1 s ρ' w' he ha hF => by
      have e7' := he
      exact F74_2_ok R J1 l0 n1 p5 s ds w' ρ' ((ha 0 (by kernel_rfl)).trans e0) ((ha 1 (by kernel_rfl)).trans e1) ((ha 5 (by kernel_rfl)).trans e5) e7' hF) h)
theorem F74_4_ok (R : Rt) (l0 : SV) (n1 : Int) (p5 : Option Addr) (n7 : Int) (ds : Ds) (w : World) (ρ : Env) (e0 : ρ 0 = .slice l0.a l0.len l0.cap) (e1 : ρ 1 = .int .i64 n1) (e5 : ρ 5 = .pointer p5) (e7 : ρ 7 = .int .i64 n7) (h : F74_4 R l0 n1 p5 n7 ds w) :
    TrL Tryz.prog Tryz.f74.ntmps [c74_4, c74_5, c74_6] (F74_q1 R) ρ ds w :=
  TrL_head (K := (F74_k2 R)) (Tr_block' (c := innerC c74_4) (by kernel_rfl) c74_4_l (F74_3_ok R l0 n1 p5 n7 ds w ρ e0 e1 e5 e7 h))
    (fun ρ' ds' w' hD => by
      exact F74_1_ok R ds' w' ρ'  hD)
theorem F74_5_ok (R : Rt) (l0 : SV) (n1 : Int) (b2_0 : Bool) (l2_1 : SV) (ds : Ds) (w : World) (ρ : Env) (e0 : ρ 0 = .slice l0.a l0.len l0.cap) (e1 : ρ 1 = .int .i64 n1) (e2 : ρ 2 = .agg #[.bool b2_0, .slice l2_1.a l2_1.len l2_1.cap]) (h : F74_5 R l0 n1 b2_0 l2_1 ds w) :
    TrL Tryz.prog Tryz.f74.ntmps [c74_0, c74_1, c74_2, c74_3, c74_4, c74_5, c74_6] (F74_q1 R) ρ ds w :=
  TrL_piece (pre := [c74_0, c74_1, c74_2, c74_3]) (K := (F74_k6 R)) (X := F74_5 R l0 n1 b2_0 l2_1 ds w) (setAll_cons e0 (setAll_cons e1 (setAll_cons e2 setAll_nil))) (by kernel_rfl) (by kernel_rfl)
    (fun ρ' ds' w' hD => by
      obtain ⟨l0, e0, hD⟩ := dSl_elim hD; obtain ⟨n1, e1, hD⟩ := dInt_elim hD; obtain ⟨p5, e5, hD⟩ := dPtr_elim hD; obtain ⟨n7, e7, hD⟩ := dInt_elim hD; exact F74_4_ok R l0 n1 p5 n7 ds' w' ρ' e0 e1 e5 e7 hD) h
theorem F74_calls (l0 : SV) (n1 : Int) (b2_0 : Bool) (l2_1 : SV) (w : World) (R : Rt) (h : F74_5 R l0 n1 b2_0 l2_1 [] w) : Calls Tryz.prog 74 #[.slice l0.a l0.len l0.cap, .int .i64 n1, .agg #[.bool b2_0, .slice l2_1.a l2_1.len l2_1.cap]] w R :=
  calls_of_L (l := [c74_0, c74_1, c74_2, c74_3, c74_4, c74_5, c74_6]) Tryz.func74 (by kernel_rfl) (by rw [Tryz.ntmps74]; exact Nat.le_of_ble_eq_true (by kernel_rfl)) c74_l
    (F74_5_ok R l0 n1 b2_0 l2_1 [] w _ rfl rfl rfl h)
theorem F74_callsD (l0 : SV) (n1 : Int) (b2_0 : Bool) (l2_1 : SV) (w : World) (R : Rt) (u : FrameMode) (h : F74_5 R l0 n1 b2_0 l2_1 [] w) : CallsD Tryz.prog 74 #[.slice l0.a l0.len l0.cap, .int .i64 n1, .agg #[.bool b2_0, .slice l2_1.a l2_1.len l2_1.cap]] u w fun e u' w' => u' = u ∧ R e w' :=
  callsD_of_L (l := [c74_0, c74_1, c74_2, c74_3, c74_4, c74_5, c74_6]) Tryz.func74 (by kernel_rfl) (by rw [Tryz.ntmps74]; exact Nat.le_of_ble_eq_true (by kernel_rfl)) (by kernel_rfl) c74_l
    (F74_5_ok R l0 n1 b2_0 l2_1 [] w _ rfl rfl rfl h) u

end Go.Proofs.YtecmfdfhpldmmaaGreatDoor
