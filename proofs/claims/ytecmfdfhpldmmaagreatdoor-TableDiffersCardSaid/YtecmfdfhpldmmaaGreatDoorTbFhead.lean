import Derived.Test.YtecmfdfhpldmmaaGreatDoorProg
import Derived.Test.YtecmfdfhpldmmaaGreatDoorShEight
/- Shallow texts of functions, printed by program, each checked by the kernel against the loaded code. No condition. -/
set_option maxRecDepth 100000
set_option linter.unusedVariables false
namespace Go.Proofs.YtecmfdfhpldmmaaGreatDoor
open Go.Sh
/-! function 19: cabinetry/table.Header -/
noncomputable def c19_0 : Code := itemAt (flat (bodyOf Tryz.f19)) 0
noncomputable def c19_1 : Code := itemAt (flat (bodyOf Tryz.f19)) 1
noncomputable def c19_2 : Code := itemAt (flat (bodyOf Tryz.f19)) 2
noncomputable def c19_3 : Code := itemAt (flat (bodyOf Tryz.f19)) 3
noncomputable def c19_4 : Code := itemAt (flat (bodyOf Tryz.f19)) 4
noncomputable def c19_5 : Code := itemAt (flat (bodyOf Tryz.f19)) 5
def F19_q1 (R : Rt) : EQ := endQ Tryz.prog Tryz.f19.results.toList R
def F19_1 (R : Rt) (n0_0 : Int) (l0_1 : SV) (l0_2 : SV) (ds : Ds) (w : World) : Prop :=
 alE (.cells #[.int .i64 n0_0, .slice l0_1.a l0_1.len l0_1.cap, .slice l0_2.a l0_2.len l0_2.cap] 35) w fun r1 w1 =>
 ∃ n5_0 : Int, w1.cell? ((⟨r1, 0, none⟩ : Addr).add 0) = some (.int .i64 n5_0) ∧
 ∃ l5_1 : SV, w1.cell? ((⟨r1, 0, none⟩ : Addr).add 1) = some (.slice l5_1.a l5_1.len l5_1.cap) ∧
 ∃ l5_2 : SV, w1.cell? ((⟨r1, 0, none⟩ : Addr).add 2) = some (.slice l5_2.a l5_2.len l5_2.cap) ∧
 Calls Tryz.prog 34 #[.agg #[.int .i64 n5_0, .slice l5_1.a l5_1.len l5_1.cap, .slice l5_2.a l5_2.len l5_2.cap]] w1 fun e w2 =>
 ∃ n6 : Int, e = .returned (.int .i64 n6) ∧
 Br (n6 != 0) (
 runD Tryz.prog ds w2 fun w3 =>
 R (.returned (.tuple #[.slice none 0 0, .int .i64 n6])) w3) (
 ∃ n10_0 : Int, w2.cell? ((⟨r1, 0, none⟩ : Addr).add 0) = some (.int .i64 n10_0) ∧
 ∃ l10_1 : SV, w2.cell? ((⟨r1, 0, none⟩ : Addr).add 1) = some (.slice l10_1.a l10_1.len l10_1.cap) ∧
 ∃ l10_2 : SV, w2.cell? ((⟨r1, 0, none⟩ : Addr).add 2) = some (.slice l10_2.a l10_2.len l10_2.cap) ∧
 Calls Tryz.prog 62 #[.agg #[.int .i64 n10_0, .slice l10_1.a l10_1.len l10_1.cap, .slice l10_2.a l10_2.len l10_2.cap]] w2 fun e w4 =>
 ∃ l11 : SV, e = .returned (.slice l11.a l11.len l11.cap) ∧
 runD Tryz.prog ds w4 fun w5 =>
 R (.returned (.tuple #[.slice l11.a l11.len l11.cap, .int .i64 0])) w5)
theorem c19_l : flat (bodyOf Tryz.f19) = [c19_0, c19_1, c19_2, c19_3, c19_4, c19_5] := by kernel_rfl
theorem F19_1_ok (R : Rt) (n0_0 : Int) (l0_1 : SV) (l0_2 : SV) (ds : Ds) (w : World) (ρ : Env) (e0 : ρ 0 = .agg #[.int .i64 n0_0, .slice l0_1.a l0_1.len l0_1.cap, .slice l0_2.a l0_2.len l0_2.cap]) (h : F19_1 R n0_0 l0_1 l0_2 ds w) :
    TrL Tryz.prog Tryz.f19.ntmps [c19_0, c19_1, c19_2, c19_3, c19_4, c19_5] (F19_q1 R) ρ ds w :=
  TrL_leaf (X := F19_1 R n0_0 l0_1 l0_2 ds w) (setAll_cons e0 setAll_nil) (by kernel_rfl) (by kernel_rfl) h
theorem F19_calls (n0_0 : Int) (l0_1 : SV) (l0_2 : SV) (w : World) (R : Rt) (h : F19_1 R n0_0 l0_1 l0_2 [] w) : Calls Tryz.prog 19 #[.agg #[.int .i64 n0_0, .slice l0_1.a l0_1.len l0_1.cap, .slice l0_2.a l0_2.len l0_2.cap]] w R :=
  calls_of_L (l := [c19_0, c19_1, c19_2, c19_3, c19_4, c19_5]) Tryz.func19 (by kernel_rfl) (by rw [Tryz.ntmps19]; exact Nat.le_of_ble_eq_true (by kernel_rfl)) c19_l
    (F19_1_ok R n0_0 l0_1 l0_2 [] w _ rfl h)
theorem F19_callsD (n0_0 : Int) (l0_1 : SV) (l0_2 : SV) (w : World) (R : Rt) (u : FrameMode) (h : F19_1 R n0_0 l0_1 l0_2 [] w) : CallsD Tryz.prog 19 #[.agg #[.int .i64 n0_0, .slice l0_1.a l0_1.len l0_1.cap, .slice l0_2.a l0_2.len l0_2.cap]] u w fun e u' w' => u' = u ∧ R e w' :=
  callsD_of_L (l := [c19_0, c19_1, c19_2, c19_3, c19_4, c19_5]) Tryz.func19 (by kernel_rfl) (by rw [Tryz.ntmps19]; exact Nat.le_of_ble_eq_true (by kernel_rfl)) (by kernel_rfl) c19_l
    (F19_1_ok R n0_0 l0_1 l0_2 [] w _ rfl h) u

/-! function 62: cabinetry/table.header -/
noncomputable def c62_0 : Code := itemAt (flat (bodyOf Tryz.f62)) 0
noncomputable def c62_1 : Code := itemAt (flat (bodyOf Tryz.f62)) 1
noncomputable def c62_2 : Code := itemAt (flat (bodyOf Tryz.f62)) 2
noncomputable def c62_3 : Code := itemAt (flat (bodyOf Tryz.f62)) 3
noncomputable def c62_4 : Code := itemAt (flat (bodyOf Tryz.f62)) 4
noncomputable def c62_5 : Code := itemAt (flat (bodyOf Tryz.f62)) 5
noncomputable def c62_6 : Code := itemAt (flat (bodyOf Tryz.f62)) 6
noncomputable def c62_7 : Code := itemAt (flat (bodyOf Tryz.f62)) 7
noncomputable def c62_8 : Code := itemAt (flat (bodyOf Tryz.f62)) 8
noncomputable def c62_6_0 : Code := itemAt (flat (innerC c62_6)) 0
noncomputable def c62_6_0_0 : Code := itemAt (flat (innerC c62_6_0)) 0
noncomputable def c62_6_0_1 : Code := itemAt (flat (innerC c62_6_0)) 1
noncomputable def c62_6_0_2 : Code := itemAt (flat (innerC c62_6_0)) 2
noncomputable def c62_6_0_3 : Code := itemAt (flat (innerC c62_6_0)) 3
def F62_q1 (R : Rt) : EQ := endQ Tryz.prog Tryz.f62.results.toList R
def F62_1 (R : Rt) (l3 : SV) (ds : Ds) (w : World) : Prop :=
 alE (.cells #[.int .u8 13] 5) w fun r65 w1 =>
 ∃ l66 : SV, ∃ w2 : World, (Builtin.append_ #[37, 37] 37 #[.slice l3.a l3.len l3.cap, .slice (some ⟨r65, 0, none⟩) 1 1]).run Tryz.prog w1 = .ok (.slice l66.a l66.len l66.cap) w2 ∧
 runD Tryz.prog ds w2 fun w3 =>
 R (.returned (.slice l66.a l66.len l66.cap)) w3
def F62_k2 (R : Rt) : EP := (fun ρ ds w => dSl (ρ 3) fun l3 => F62_1 R l3 ds w)
def F62_q3 (R : Rt) : EQ := (thenQ (F62_k2 R) (F62_q1 R))
def F62_q4 (R : Rt) : EQ := (blockQ 0 (F62_q3 R))
def F62_q5 (R : Rt) (J1 : (SV × Int) → World → Prop) : EQ := (thenQ (fun ρ _ w => dSl (ρ 3) fun l3 => dInt .i64 (ρ 39) fun n39 => J1 (l3, n39) w) (F62_q4 R))
def F62_2 (R : Rt) (J1 : (SV × Int) → World → Prop) (l3 : SV) (l37 : SV) (n38 : Int) (n39 : Int) (ds : Ds) (w : World) : Prop :=
 Br (decide (n39 < n38)) (
 ∃ a4 : Addr, l37.a = some a4 ∧ 0 ≤ n39 ∧ n39 < ((l37.len : Nat) : Int) ∧
 ∃ s42_0 : ByteArray, w.cell? ((a4.add (n39.toNat * 4)).add 0) = some (.string s42_0) ∧
 ∃ n42_1 : Int, w.cell? ((a4.add (n39.toNat * 4)).add 1) = some (.int .i64 n42_1) ∧
 ∃ n42_2 : Int, w.cell? ((a4.add (n39.toNat * 4)).add 2) = some (.int .i64 n42_2) ∧
 ∃ b42_3 : Bool, w.cell? ((a4.add (n39.toNat * 4)).add 3) = some (.bool b42_3) ∧
 alE (.cells #[.string (⟨#[]⟩ : ByteArray), .int .i64 0, .int .i64 0, .bool false] 23) w fun r5 w5 =>
 stA Tryz.prog 23 (⟨r5, 0, none⟩ : Addr) #[.string s42_0, .int .i64 n42_1, .int .i64 n42_2, .bool b42_3] w5 fun w6 =>
 alE (.cells #[.int .u8 0, .int .u8 0, .int .u8 0, .int .u8 0, .int .u8 0, .int .u8 0, .int .u8 0, .int .u8 0, .int .u8 0, .int .u8 0, .int .u8 0, .int .u8 0, .int .u8 0, .int .u8 0, .int .u8 0, .int .u8 0] 123) w6 fun r6 w7 =>
 dwE w7 fun w8 =>
 ∃ S1 : World → Prop, S1 w8 ∧
 ∃ s45 : ByteArray, (∀ w', S1 w' → w'.cell? (⟨r5, 0, none⟩ : Addr) = some (.string s45)) ∧
 ∃ l43 : SV, ∃ w9 : World, (Instr.sliceAt 123 (.pointer (some (⟨r6, 0, none⟩ : Addr))) none (some (.int .i64 10)) (some (.int .i64 10))).run Tryz.prog w8 = .ok (.slice l43.a l43.len l43.cap) w9 ∧
 S1 w9 ∧
 ∃ n46 : Int, ∃ w10 : World, (Builtin.copy_ #[37, 9] 3 #[.slice l43.a l43.len l43.cap, .string s45]).run Tryz.prog w9 = .ok (.int .i64 n46) w10 ∧
 dwE w10 fun w11 =>
 ∃ S2 : World → Prop, S2 w11 ∧
 ∃ n49 : Int, (∀ w', S2 w' → w'.cell? ((⟨r5, 0, none⟩ : Addr).add 1) = some (.int .i64 n49)) ∧
 ∃ n53 : Int, (∀ w', S2 w' → w'.cell? ((⟨r5, 0, none⟩ : Addr).add 2) = some (.int .i64 n53)) ∧
 Calls Tryz.prog 89 #[] w11 fun e w12 =>
 ∃ m47 : Option Nat, e = .returned (.map m47) ∧
 ∃ S3 : World → Prop, S3 w12 ∧ (∀ u, S3 u → S2 u) ∧
 ∃ n50_0 : Int, ∃ n50_1 : Int, ∃ n50_2 : Int, ∃ v50_3 : Value, ∃ v50_4 : Value, (∀ w', S3 w' → (Instr.lookup 104 (.map m47) (.int .i64 n49) false).run Tryz.prog w' = .ok (.agg #[.int .u8 n50_0, .int .i64 n50_1, .int .i64 n50_2, v50_3, v50_4]) w') ∧
 0 ≤ (10 : Int) ∧ (10 : Int) < ((16 : Nat) : Int) ∧
 st1 ((⟨r6, 0, none⟩ : Addr).add ((10 : Int).toNat * 1)) (.int .u8 n50_0) w12 fun w13 =>
 ∃ S4 : World → Prop, S4 w13 ∧ (∀ u, S4 u → S3 u) ∧
 0 ≤ (11 : Int) ∧ (11 : Int) < ((16 : Nat) : Int) ∧
 st1 ((⟨r6, 0, none⟩ : Addr).add ((11 : Int).toNat * 1)) (.int .u8 (IntKind.u8.wrap n53)) w13 fun w14 =>
 ∃ b58 : Bool, w14.cell? ((⟨r5, 0, none⟩ : Addr).add 3) = some (.bool b58) ∧
 Br b58 (
 0 ≤ (12 : Int) ∧ (12 : Int) < ((16 : Nat) : Int) ∧
 st1 ((⟨r6, 0, none⟩ : Addr).add ((12 : Int).toNat * 1)) (.int .u8 1) w14 fun w15 =>
 16 ≤ 16 ∧ 0 ≤ 16 ∧
 ∃ l62 : SV, ∃ w16 : World, (Builtin.append_ #[37, 37] 37 #[.slice l3.a l3.len l3.cap, .slice (some (if 16 = 0 then (⟨r6, 0, none⟩ : Addr) else (⟨r6, 0, none⟩ : Addr).add (0 * 1))) (16 - 0) (16 - 0)]).run Tryz.prog w15 = .ok (.slice l62.a l62.len l62.cap) w16 ∧
 J1 (l62, (IntKind.i64.wrap (n39 + 1))) w16) (
 16 ≤ 16 ∧ 0 ≤ 16 ∧
 ∃ l62 : SV, ∃ w17 : World, (Builtin.append_ #[37, 37] 37 #[.slice l3.a l3.len l3.cap, .slice (some (if 16 = 0 then (⟨r6, 0, none⟩ : Addr) else (⟨r6, 0, none⟩ : Addr).add (0 * 1))) (16 - 0) (16 - 0)]).run Tryz.prog w14 = .ok (.slice l62.a l62.len l62.cap) w17 ∧
 J1 (l62, (IntKind.i64.wrap (n39 + 1))) w17)) (
 F62_1 R l3 ds w)
def F62_3 (R : Rt) (l3 : SV) (l37 : SV) (n38 : Int) (n39 : Int) (ds : Ds) (w : World) : Prop :=
 loopT (fun (J1 : (SV × Int) → World → Prop) (s : SV × Int) (w : World) => F62_2 R J1 s.1 l37 n38 s.2 ds w) (l3, n39) w
@[reducible] def F62_4 (R : Rt) (l3 : SV) (l37 : SV) (n38 : Int) (n39 : Int) (ds : Ds) (w : World) : Prop := F62_3 R l3 l37 n38 n39 ds w
def F62_k6 (R : Rt) : EP := (fun ρ ds w => dSl (ρ 3) fun l3 => dSl (ρ 37) fun l37 => dInt .i64 (ρ 38) fun n38 => dInt .i64 (ρ 39) fun n39 => F62_4 R l3 l37 n38 n39 ds w)
def F62_5 (R : Rt) (n0_0 : Int) (l0_1 : SV) (l0_2 : SV) (ds : Ds) (w : World) : Prop :=
 alE (.cells #[.int .i64 n0_0, .slice l0_1.a l0_1.len l0_1.cap, .slice l0_2.a l0_2.len l0_2.cap] 35) w fun r1 w18 =>
 dwE w18 fun w19 =>
 ∃ S5 : World → Prop, S5 w19 ∧
 ∃ n8 : Int, (∀ w', S5 w' → w'.cell? (⟨r1, 0, none⟩ : Addr) = some (.int .i64 n8)) ∧
 ∃ l12 : SV, (∀ w', S5 w' → w'.cell? ((⟨r1, 0, none⟩ : Addr).add 2) = some (.slice l12.a l12.len l12.cap)) ∧
 (
 alE (.cells #[.int .u8 67, .int .u8 (IntKind.u8.wrap n8)] 5) w19 fun r10 w20 =>
 S5 w20 ∧
 Calls Tryz.prog 109 #[.int .i64 ((l12.len : Nat) : Int), .int .i64 4] w20 fun e w21 =>
 ∃ l14 : SV, e = .returned (.slice l14.a l14.len l14.cap) ∧
 S5 w21 ∧
 ∃ l15 : SV, ∃ w22 : World, (Builtin.append_ #[37, 37] 37 #[.slice (some ⟨r10, 0, none⟩) 2 2, .slice l14.a l14.len l14.cap]).run Tryz.prog w21 = .ok (.slice l15.a l15.len l15.cap) w22 ∧
 ∃ l18 : SV, w22.cell? ((⟨r1, 0, none⟩ : Addr).add 1) = some (.slice l18.a l18.len l18.cap) ∧
 Calls Tryz.prog 110 #[.int .i64 ((l18.len : Nat) : Int)] w22 fun e w23 =>
 ∃ n20 : Int, e = .returned (.int .i64 n20) ∧
 Calls Tryz.prog 109 #[.int .i64 n20, .int .i64 2] w23 fun e w24 =>
 ∃ l21 : SV, e = .returned (.slice l21.a l21.len l21.cap) ∧
 ∃ l22 : SV, ∃ w25 : World, (Builtin.append_ #[37, 37] 37 #[.slice l15.a l15.len l15.cap, .slice l21.a l21.len l21.cap]).run Tryz.prog w24 = .ok (.slice l22.a l22.len l22.cap) w25 ∧
 ∃ l25 : SV, w25.cell? ((⟨r1, 0, none⟩ : Addr).add 1) = some (.slice l25.a l25.len l25.cap) ∧
 Calls Tryz.prog 69 #[.slice l25.a l25.len l25.cap] w25 fun e w26 =>
 ∃ n26 : Int, e = .returned (.int .i64 n26) ∧
 Calls Tryz.prog 109 #[.int .i64 n26, .int .i64 2] w26 fun e w27 =>
 ∃ l27 : SV, e = .returned (.slice l27.a l27.len l27.cap) ∧
 ∃ l28 : SV, ∃ w28 : World, (Builtin.append_ #[37, 37] 37 #[.slice l22.a l22.len l22.cap, .slice l27.a l27.len l27.cap]).run Tryz.prog w27 = .ok (.slice l28.a l28.len l28.cap) w28 ∧
 ∃ l31 : SV, w28.cell? ((⟨r1, 0, none⟩ : Addr).add 1) = some (.slice l31.a l31.len l31.cap) ∧
 alE (.cells #[.int .u8 (IntKind.u8.wrap ((l31.len : Nat) : Int)), .int .u8 0] 5) w28 fun r34 w29 =>
 ∃ l35 : SV, ∃ w30 : World, (Builtin.append_ #[37, 37] 37 #[.slice l28.a l28.len l28.cap, .slice (some ⟨r34, 0, none⟩) 2 2]).run Tryz.prog w29 = .ok (.slice l35.a l35.len l35.cap) w30 ∧
 ∃ l37 : SV, w30.cell? ((⟨r1, 0, none⟩ : Addr).add 1) = some (.slice l37.a l37.len l37.cap) ∧
 F62_4 R l35 l37 ((l37.len : Nat) : Int) 0 ds w30) ∧ (
 Calls Tryz.prog 109 #[.int .i64 ((l12.len : Nat) : Int), .int .i64 4] w19 fun e w31 =>
 ∃ l14 : SV, e = .returned (.slice l14.a l14.len l14.cap) ∧
 S5 w31 ∧
 alE (.cells #[.int .u8 67, .int .u8 (IntKind.u8.wrap n8)] 5) w31 fun r10 w32 =>
 S5 w32 ∧
 ∃ l15 : SV, ∃ w33 : World, (Builtin.append_ #[37, 37] 37 #[.slice (some ⟨r10, 0, none⟩) 2 2, .slice l14.a l14.len l14.cap]).run Tryz.prog w32 = .ok (.slice l15.a l15.len l15.cap) w33 ∧
 ∃ l18 : SV, w33.cell? ((⟨r1, 0, none⟩ : Addr).add 1) = some (.slice l18.a l18.len l18.cap) ∧
 Calls Tryz.prog 110 #[.int .i64 ((l18.len : Nat) : Int)] w33 fun e w34 =>
 ∃ n20 : Int, e = .returned (.int .i64 n20) ∧
 Calls Tryz.prog 109 #[.int .i64 n20, .int .i64 2] w34 fun e w35 =>
 ∃ l21 : SV, e = .returned (.slice l21.a l21.len l21.cap) ∧
 ∃ l22 : SV, ∃ w36 : World, (Builtin.append_ #[37, 37] 37 #[.slice l15.a l15.len l15.cap, .slice l21.a l21.len l21.cap]).run Tryz.prog w35 = .ok (.slice l22.a l22.len l22.cap) w36 ∧
 ∃ l25 : SV, w36.cell? ((⟨r1, 0, none⟩ : Addr).add 1) = some (.slice l25.a l25.len l25.cap) ∧
 Calls Tryz.prog 69 #[.slice l25.a l25.len l25.cap] w36 fun e w37 =>
 ∃ n26 : Int, e = .returned (.int .i64 n26) ∧
 Calls Tryz.prog 109 #[.int .i64 n26, .int .i64 2] w37 fun e w38 =>
 ∃ l27 : SV, e = .returned (.slice l27.a l27.len l27.cap) ∧
 ∃ l28 : SV, ∃ w39 : World, (Builtin.append_ #[37, 37] 37 #[.slice l22.a l22.len l22.cap, .slice l27.a l27.len l27.cap]).run Tryz.prog w38 = .ok (.slice l28.a l28.len l28.cap) w39 ∧
 ∃ l31 : SV, w39.cell? ((⟨r1, 0, none⟩ : Addr).add 1) = some (.slice l31.a l31.len l31.cap) ∧
 alE (.cells #[.int .u8 (IntKind.u8.wrap ((l31.len : Nat) : Int)), .int .u8 0] 5) w39 fun r34 w40 =>
 ∃ l35 : SV, ∃ w41 : World, (Builtin.append_ #[37, 37] 37 #[.slice l28.a l28.len l28.cap, .slice (some ⟨r34, 0, none⟩) 2 2]).run Tryz.prog w40 = .ok (.slice l35.a l35.len l35.cap) w41 ∧
 ∃ l37 : SV, w41.cell? ((⟨r1, 0, none⟩ : Addr).add 1) = some (.slice l37.a l37.len l37.cap) ∧
 F62_4 R l35 l37 ((l37.len : Nat) : Int) 0 ds w41)
theorem c62_l : flat (bodyOf Tryz.f62) = [c62_0, c62_1, c62_2, c62_3, c62_4, c62_5, c62_6, c62_7, c62_8] := by kernel_rfl
theorem c62_6_l : flat (innerC c62_6) = [c62_6_0] := by kernel_rfl
theorem c62_6_0_l : flat (innerC c62_6_0) = [c62_6_0_0, c62_6_0_1, c62_6_0_2, c62_6_0_3] := by kernel_rfl
theorem F62_1_ok (R : Rt) (l3 : SV) (ds : Ds) (w : World) (ρ : Env) (e3 : ρ 3 = .slice l3.a l3.len l3.cap) (h : F62_1 R l3 ds w) :
    TrL Tryz.prog Tryz.f62.ntmps [c62_7, c62_8] (F62_q1 R) ρ ds w :=
  TrL_leaf (X := F62_1 R l3 ds w) (setAll_cons e3 setAll_nil) (by kernel_rfl) (by kernel_rfl) h
theorem F62_2_ok (R : Rt) (J1 : (SV × Int) → World → Prop) (l3 : SV) (l37 : SV) (n38 : Int) (n39 : Int) (ds : Ds) (w : World) (ρ : Env) (e3 : ρ 3 = .slice l3.a l3.len l3.cap) (e37 : ρ 37 = .slice l37.a l37.len l37.cap) (e38 : ρ 38 = .int .i64 n38) (e39 : ρ 39 = .int .i64 n39) (h : F62_2 R J1 l3 l37 n38 n39 ds w) :
    TrL Tryz.prog Tryz.f62.ntmps [c62_6_0_0, c62_6_0_1, c62_6_0_2, c62_6_0_3] (F62_q5 R J1) ρ ds w :=
  TrL_leaf (X := F62_2 R J1 l3 l37 n38 n39 ds w) (setAll_cons e3 (setAll_cons e37 (setAll_cons e38 (setAll_cons e39 setAll_nil)))) (by kernel_rfl) (by kernel_rfl) h
theorem F62_3_ok (R : Rt) (l3 : SV) (l37 : SV) (n38 : Int) (n39 : Int) (ds : Ds) (w : World) (ρ : Env) (e3 : ρ 3 = .slice l3.a l3.len l3.cap) (e37 : ρ 37 = .slice l37.a l37.len l37.cap) (e38 : ρ 38 = .int .i64 n38) (e39 : ρ 39 = .int .i64 n39) (h : F62_3 R l3 l37 n38 n39 ds w) :
    TrL Tryz.prog Tryz.f62.ntmps [c62_6_0] (F62_q4 R) ρ ds w :=
  TrL_one (Tr_loop' (c := innerC c62_6_0) (σ := SV × Int) (enc := (fun (s : SV × Int) (ρ : Env) => ρ 3 = .slice s.1.a s.1.len s.1.cap ∧ ρ 39 = .int .i64 s.2)) (D := (fun ρ K => dSl (ρ 3) fun l3 => dInt .i64 (ρ 39) fun n39 => K (l3, n39))) (F := (fun (J1 : (SV × Int) → World → Prop) (s : SV × Int) (w : World) => F62_2 R J1 s.1 l37 n38 s.2 ds w)) (s0 := (l3, n39)) (by kernel_rfl) c62_6_0_l ⟨e3, e39⟩ (by kernel_rfl) (fun ρ K hD => by obtain ⟨l3, e3, hD⟩ := dSl_elim hD; obtain ⟨n39, e39, hD⟩ := dInt_elim hD; exact ⟨(l3, n39), ⟨e3, e39⟩, hD⟩)
      (fun J1 s ρ' w' he ha hF => by
      obtain ⟨e3', e39'⟩ := he
      exact F62_2_ok R J1 s.1 l37 n38 s.2 ds w' ρ' e3' ((ha 37 (by kernel_rfl)).trans e37) ((ha 38 (by kernel_rfl)).trans e38) e39' hF) h)
theorem F62_4_ok (R : Rt) (l3 : SV) (l37 : SV) (n38 : Int) (n39 : Int) (ds : Ds) (w : World) (ρ : Env) (e3 : ρ 3 = .slice l3.a l3.len l3.cap) (e37 : ρ 37 = .slice l37.a l37.len l37.cap) (e38 : ρ 38 = .int .i64 n38) (e39 : ρ 39 = .int .i64 n39) (h : F62_4 R l3 l37 n38 n39 ds w) :
    TrL Tryz.prog Tryz.f62.ntmps [c62_6, c62_7, c62_8] (F62_q1 R) ρ ds w :=
  TrL_head (K := (F62_k2 R)) (Tr_block' (c := innerC c62_6) (by kernel_rfl) c62_6_l (F62_3_ok R l3 l37 n38 n39 ds w ρ e3 e37 e38 e39 h))
    (fun ρ' ds' w' hD => by
      obtain ⟨l3, e3, hD⟩ := dSl_elim hD; exact F62_1_ok R l3 ds' w' ρ' e3 hD)
theorem F62_5_ok (R : Rt) (n0_0 : Int) (l0_1 : SV) (l0_2 : SV) (ds : Ds) (w : World) (ρ : Env) (e0 : ρ 0 = .agg #[.int .i64 n0_0, .slice l0_1.a l0_1.len l0_1.cap, .slice l0_2.a l0_2.len l0_2.cap]) (h : F62_5 R n0_0 l0_1 l0_2 ds w) :
    TrL Tryz.prog Tryz.f62.ntmps [c62_0, c62_1, c62_2, c62_3, c62_4, c62_5, c62_6, c62_7, c62_8] (F62_q1 R) ρ ds w :=
  TrL_piece (pre := [c62_0, c62_1, c62_2, c62_3, c62_4, c62_5]) (K := (F62_k6 R)) (X := F62_5 R n0_0 l0_1 l0_2 ds w) (setAll_cons e0 setAll_nil) (by kernel_rfl) (by kernel_rfl)
    (fun ρ' ds' w' hD => by
      obtain ⟨l3, e3, hD⟩ := dSl_elim hD; obtain ⟨l37, e37, hD⟩ := dSl_elim hD; obtain ⟨n38, e38, hD⟩ := dInt_elim hD; obtain ⟨n39, e39, hD⟩ := dInt_elim hD; exact F62_4_ok R l3 l37 n38 n39 ds' w' ρ' e3 e37 e38 e39 hD) h
theorem F62_calls (n0_0 : Int) (l0_1 : SV) (l0_2 : SV) (w : World) (R : Rt) (h : F62_5 R n0_0 l0_1 l0_2 [] w) : Calls Tryz.prog 62 #[.agg #[.int .i64 n0_0, .slice l0_1.a l0_1.len l0_1.cap, .slice l0_2.a l0_2.len l0_2.cap]] w R :=
  calls_of_L (l := [c62_0, c62_1, c62_2, c62_3, c62_4, c62_5, c62_6, c62_7, c62_8]) Tryz.func62 (by kernel_rfl) (by rw [Tryz.ntmps62]; exact Nat.le_of_ble_eq_true (by kernel_rfl)) c62_l
    (F62_5_ok R n0_0 l0_1 l0_2 [] w _ rfl h)
theorem F62_callsD (n0_0 : Int) (l0_1 : SV) (l0_2 : SV) (w : World) (R : Rt) (u : FrameMode) (h : F62_5 R n0_0 l0_1 l0_2 [] w) : CallsD Tryz.prog 62 #[.agg #[.int .i64 n0_0, .slice l0_1.a l0_1.len l0_1.cap, .slice l0_2.a l0_2.len l0_2.cap]] u w fun e u' w' => u' = u ∧ R e w' :=
  callsD_of_L (l := [c62_0, c62_1, c62_2, c62_3, c62_4, c62_5, c62_6, c62_7, c62_8]) Tryz.func62 (by kernel_rfl) (by rw [Tryz.ntmps62]; exact Nat.le_of_ble_eq_true (by kernel_rfl)) (by kernel_rfl) c62_l
    (F62_5_ok R n0_0 l0_1 l0_2 [] w _ rfl h) u

/-! function 109: cabinetry/table.low -/
noncomputable def c109_0 : Code := itemAt (flat (bodyOf Tryz.f109)) 0
noncomputable def c109_1 : Code := itemAt (flat (bodyOf Tryz.f109)) 1
noncomputable def c109_2 : Code := itemAt (flat (bodyOf Tryz.f109)) 2
noncomputable def c109_3 : Code := itemAt (flat (bodyOf Tryz.f109)) 3
noncomputable def c109_4 : Code := itemAt (flat (bodyOf Tryz.f109)) 4
noncomputable def c109_5 : Code := itemAt (flat (bodyOf Tryz.f109)) 5
noncomputable def c109_3_0 : Code := itemAt (flat (innerC c109_3)) 0
noncomputable def c109_3_0_0 : Code := itemAt (flat (innerC c109_3_0)) 0
noncomputable def c109_3_0_1 : Code := itemAt (flat (innerC c109_3_0)) 1
noncomputable def c109_3_0_2 : Code := itemAt (flat (innerC c109_3_0)) 2
noncomputable def c109_3_0_3 : Code := itemAt (flat (innerC c109_3_0)) 3
def F109_q1 (R : Rt) : EQ := endQ Tryz.prog Tryz.f109.results.toList R
def F109_1 (R : Rt) (l5 : SV) (ds : Ds) (w : World) : Prop :=
 runD Tryz.prog ds w fun w1 =>
 R (.returned (.slice l5.a l5.len l5.cap)) w1
def F109_k2 (R : Rt) : EP := (fun ρ ds w => dSl (ρ 5) fun l5 => F109_1 R l5 ds w)
def F109_q3 (R : Rt) : EQ := (thenQ (F109_k2 R) (F109_q1 R))
def F109_q4 (R : Rt) : EQ := (blockQ 0 (F109_q3 R))
def F109_q5 (R : Rt) (J1 : (Int × SV × Int) → World → Prop) : EQ := (thenQ (fun ρ _ w => dInt .i64 (ρ 0) fun n0 => dSl (ρ 5) fun l5 => dInt .i64 (ρ 7) fun n7 => J1 (n0, l5, n7) w) (F109_q4 R))
def F109_2 (R : Rt) (J1 : (Int × SV × Int) → World → Prop) (n0 : Int) (l5 : SV) (n6 : Int) (n7 : Int) (ds : Ds) (w : World) : Prop :=
 Br (decide (n7 < n6)) (
 alE (.cells #[.int .u8 (IntKind.u8.wrap n0)] 5) w fun r12 w2 =>
 ∃ l13 : SV, ∃ w3 : World, (Builtin.append_ #[37, 37] 37 #[.slice l5.a l5.len l5.cap, .slice (some ⟨r12, 0, none⟩) 1 1]).run Tryz.prog w2 = .ok (.slice l13.a l13.len l13.cap) w3 ∧
 0 ≤ (8 : Int) ∧
 J1 ((n0.fdiv (2 ^ 8)), l13, (IntKind.i64.wrap (n7 + 1))) w3) (
 F109_1 R l5 ds w)
def F109_3 (R : Rt) (n0 : Int) (l5 : SV) (n6 : Int) (n7 : Int) (ds : Ds) (w : World) : Prop :=
 loopT (fun (J1 : (Int × SV × Int) → World → Prop) (s : Int × SV × Int) (w : World) => F109_2 R J1 s.1 s.2.1 n6 s.2.2 ds w) (n0, l5, n7) w
@[reducible] def F109_4 (R : Rt) (n0 : Int) (l5 : SV) (n6 : Int) (n7 : Int) (ds : Ds) (w : World) : Prop := F109_3 R n0 l5 n6 n7 ds w
def F109_k6 (R : Rt) : EP := (fun ρ ds w => dInt .i64 (ρ 0) fun n0 => dSl (ρ 5) fun l5 => dInt .i64 (ρ 6) fun n6 => dInt .i64 (ρ 7) fun n7 => F109_4 R n0 l5 n6 n7 ds w)
def F109_5 (R : Rt) (n0 : Int) (n1 : Int) (ds : Ds) (w : World) : Prop :=
 F109_4 R n0 ⟨none, 0, 0⟩ n1 0 ds w
theorem c109_l : flat (bodyOf Tryz.f109) = [c109_0, c109_1, c109_2, c109_3, c109_4, c109_5] := by kernel_rfl
theorem c109_3_l : flat (innerC c109_3) = [c109_3_0] := by kernel_rfl
theorem c109_3_0_l : flat (innerC c109_3_0) = [c109_3_0_0, c109_3_0_1, c109_3_0_2, c109_3_0_3] := by kernel_rfl
theorem F109_1_ok (R : Rt) (l5 : SV) (ds : Ds) (w : World) (ρ : Env) (e5 : ρ 5 = .slice l5.a l5.len l5.cap) (h : F109_1 R l5 ds w) :
    TrL Tryz.prog Tryz.f109.ntmps [c109_4, c109_5] (F109_q1 R) ρ ds w :=
  TrL_leaf (X := F109_1 R l5 ds w) (setAll_cons e5 setAll_nil) (by kernel_rfl) (by kernel_rfl) h
theorem F109_2_ok (R : Rt) (J1 : (Int × SV × Int) → World → Prop) (n0 : Int) (l5 : SV) (n6 : Int) (n7 : Int) (ds : Ds) (w : World) (ρ : Env) (e0 : ρ 0 = .int .i64 n0) (e5 : ρ 5 = .slice l5.a l5.len l5.cap) (e6 : ρ 6 = .int .i64 n6) (e7 : ρ 7 = .int .i64 n7) (h : F109_2 R J1 n0 l5 n6 n7 ds w) :
    TrL Tryz.prog Tryz.f109.ntmps [c109_3_0_0, c109_3_0_1, c109_3_0_2, c109_3_0_3] (F109_q5 R J1) ρ ds w :=
  TrL_leaf (X := F109_2 R J1 n0 l5 n6 n7 ds w) (setAll_cons e0 (setAll_cons e5 (setAll_cons e6 (setAll_cons e7 setAll_nil)))) (by kernel_rfl) (by kernel_rfl) h
theorem F109_3_ok (R : Rt) (n0 : Int) (l5 : SV) (n6 : Int) (n7 : Int) (ds : Ds) (w : World) (ρ : Env) (e0 : ρ 0 = .int .i64 n0) (e5 : ρ 5 = .slice l5.a l5.len l5.cap) (e6 : ρ 6 = .int .i64 n6) (e7 : ρ 7 = .int .i64 n7) (h : F109_3 R n0 l5 n6 n7 ds w) :
    TrL Tryz.prog Tryz.f109.ntmps [c109_3_0] (F109_q4 R) ρ ds w :=
  TrL_one (Tr_loop' (c := innerC c109_3_0) (σ := Int × SV × Int) (enc := (fun (s : Int × SV × Int) (ρ : Env) => ρ 0 = .int .i64 s.1 ∧ ρ 5 = .slice s.2.1.a s.2.1.len s.2.1.cap ∧ ρ 7 = .int .i64 s.2.2)) (D := (fun ρ K => dInt .i64 (ρ 0) fun n0 => dSl (ρ 5) fun l5 => dInt .i64 (ρ 7) fun n7 => K (n0, l5, n7))) (F := (fun (J1 : (Int × SV × Int) → World → Prop) (s : Int × SV × Int) (w : World) => F109_2 R J1 s.1 s.2.1 n6 s.2.2 ds w)) (s0 := (n0, l5, n7)) (by kernel_rfl) c109_3_0_l ⟨e0, e5, e7⟩ (by kernel_rfl) (fun ρ K hD => by obtain ⟨n0, e0, hD⟩ := dInt_elim hD; obtain ⟨l5, e5, hD⟩ := dSl_elim hD; obtain ⟨n7, e7, hD⟩ := dInt_elim hD; exact ⟨(n0, l5, n7), ⟨e0, e5, e7⟩, hD⟩)
      (fun J1 s ρ' w' he ha hF => by
      obtain ⟨e0', e5', e7'⟩ := he
      exact F109_2_ok R J1 s.1 s.2.1 n6 s.2.2 ds w' ρ' e0' e5' ((ha 6 (by kernel_rfl)).trans e6) e7' hF) h)
theorem F109_4_ok (R : Rt) (n0 : Int) (l5 : SV) (n6 : Int) (n7 : Int) (ds : Ds) (w : World) (ρ : Env) (e0 : ρ 0 = .int .i64 n0) (e5 : ρ 5 = .slice l5.a l5.len l5.cap) (e6 : ρ 6 = .int .i64 n6) (e7 : ρ 7 = .int .i64 n7) (h : F109_4 R n0 l5 n6 n7 ds w) :
    TrL Tryz.prog Tryz.f109.ntmps [c109_3, c109_4, c109_5] (F109_q1 R) ρ ds w :=
  TrL_head (K := (F109_k2 R)) (Tr_block' (c := innerC c109_3) (by kernel_rfl) c109_3_l (F109_3_ok R n0 l5 n6 n7 ds w ρ e0 e5 e6 e7 h))
    (fun ρ' ds' w' hD => by
      obtain ⟨l5, e5, hD⟩ := dSl_elim hD; exact F109_1_ok R l5 ds' w' ρ' e5 hD)
theorem F109_5_ok (R : Rt) (n0 : Int) (n1 : Int) (ds : Ds) (w : World) (ρ : Env) (e0 : ρ 0 = .int .i64 n0) (e1 : ρ 1 = .int .i64 n1) (h : F109_5 R n0 n1 ds w) :
    TrL Tryz.prog Tryz.f109.ntmps [c109_0, c109_1, c109_2, c109_3, c109_4, c109_5] (F109_q1 R) ρ ds w :=
  TrL_piece (pre := [c109_0, c109_1, c109_2]) (K := (F109_k6 R)) (X := F109_5 R n0 n1 ds w) (setAll_cons e0 (setAll_cons e1 setAll_nil)) (by kernel_rfl) (by kernel_rfl)
    (fun ρ' ds' w' hD => by
      obtain ⟨n0, e0, hD⟩ := dInt_elim hD; obtain ⟨l5, e5, hD⟩ := dSl_elim hD; obtain ⟨n6, e6, hD⟩ := dInt_elim hD; obtain ⟨n7, e7, hD⟩ := dInt_elim hD; exact F109_4_ok R n0 l5 n6 n7 ds' w' ρ' e0 e5 e6 e7 hD) h
theorem F109_calls (n0 : Int) (n1 : Int) (w : World) (R : Rt) (h : F109_5 R n0 n1 [] w) : Calls Tryz.prog 109 #[.int .i64 n0, .int .i64 n1] w R :=
  calls_of_L (l := [c109_0, c109_1, c109_2, c109_3, c109_4, c109_5]) Tryz.func109 (by kernel_rfl) (by rw [Tryz.ntmps109]; exact Nat.le_of_ble_eq_true (by kernel_rfl)) c109_l
    (F109_5_ok R n0 n1 [] w _ rfl rfl h)
theorem F109_callsD (n0 : Int) (n1 : Int) (w : World) (R : Rt) (u : FrameMode) (h : F109_5 R n0 n1 [] w) : CallsD Tryz.prog 109 #[.int .i64 n0, .int .i64 n1] u w fun e u' w' => u' = u ∧ R e w' :=
  callsD_of_L (l := [c109_0, c109_1, c109_2, c109_3, c109_4, c109_5]) Tryz.func109 (by kernel_rfl) (by rw [Tryz.ntmps109]; exact Nat.le_of_ble_eq_true (by kernel_rfl)) (by kernel_rfl) c109_l
    (F109_5_ok R n0 n1 [] w _ rfl rfl h) u

/-! function 110: cabinetry/table.headerLength -/
noncomputable def c110_0 : Code := itemAt (flat (bodyOf Tryz.f110)) 0
noncomputable def c110_1 : Code := itemAt (flat (bodyOf Tryz.f110)) 1
noncomputable def c110_2 : Code := itemAt (flat (bodyOf Tryz.f110)) 2
def F110_q1 (R : Rt) : EQ := endQ Tryz.prog Tryz.f110.results.toList R
def F110_1 (R : Rt) (n0 : Int) (ds : Ds) (w : World) : Prop :=
 runD Tryz.prog ds w fun w1 =>
 R (.returned (.int .i64 (IntKind.i64.wrap ((13 : Int) + (IntKind.i64.wrap ((16 : Int) * n0)))))) w1
theorem c110_l : flat (bodyOf Tryz.f110) = [c110_0, c110_1, c110_2] := by kernel_rfl
theorem F110_1_ok (R : Rt) (n0 : Int) (ds : Ds) (w : World) (ρ : Env) (e0 : ρ 0 = .int .i64 n0) (h : F110_1 R n0 ds w) :
    TrL Tryz.prog Tryz.f110.ntmps [c110_0, c110_1, c110_2] (F110_q1 R) ρ ds w :=
  TrL_leaf (X := F110_1 R n0 ds w) (setAll_cons e0 setAll_nil) (by kernel_rfl) (by kernel_rfl) h
theorem F110_calls (n0 : Int) (w : World) (R : Rt) (h : F110_1 R n0 [] w) : Calls Tryz.prog 110 #[.int .i64 n0] w R :=
  calls_of_L (l := [c110_0, c110_1, c110_2]) Tryz.func110 (by kernel_rfl) (by rw [Tryz.ntmps110]; exact Nat.le_of_ble_eq_true (by kernel_rfl)) c110_l
    (F110_1_ok R n0 [] w _ rfl h)
theorem F110_callsD (n0 : Int) (w : World) (R : Rt) (u : FrameMode) (h : F110_1 R n0 [] w) : CallsD Tryz.prog 110 #[.int .i64 n0] u w fun e u' w' => u' = u ∧ R e w' :=
  callsD_of_L (l := [c110_0, c110_1, c110_2]) Tryz.func110 (by kernel_rfl) (by rw [Tryz.ntmps110]; exact Nat.le_of_ble_eq_true (by kernel_rfl)) (by kernel_rfl) c110_l
    (F110_1_ok R n0 [] w _ rfl h) u

/-! function 20: cabinetry/cabinetryref03.Header -/
noncomputable def c20_0 : Code := itemAt (flat (bodyOf Tryz.f20)) 0
noncomputable def c20_1 : Code := itemAt (flat (bodyOf Tryz.f20)) 1
noncomputable def c20_2 : Code := itemAt (flat (bodyOf Tryz.f20)) 2
noncomputable def c20_3 : Code := itemAt (flat (bodyOf Tryz.f20)) 3
noncomputable def c20_4 : Code := itemAt (flat (bodyOf Tryz.f20)) 4
noncomputable def c20_5 : Code := itemAt (flat (bodyOf Tryz.f20)) 5
def F20_q1 (R : Rt) : EQ := endQ Tryz.prog Tryz.f20.results.toList R
def F20_1 (R : Rt) (n0_0 : Int) (l0_1 : SV) (l0_2 : SV) (ds : Ds) (w : World) : Prop :=
 alE (.cells #[.int .i64 n0_0, .slice l0_1.a l0_1.len l0_1.cap, .slice l0_2.a l0_2.len l0_2.cap] 35) w fun r1 w1 =>
 ∃ n5_0 : Int, w1.cell? ((⟨r1, 0, none⟩ : Addr).add 0) = some (.int .i64 n5_0) ∧
 ∃ l5_1 : SV, w1.cell? ((⟨r1, 0, none⟩ : Addr).add 1) = some (.slice l5_1.a l5_1.len l5_1.cap) ∧
 ∃ l5_2 : SV, w1.cell? ((⟨r1, 0, none⟩ : Addr).add 2) = some (.slice l5_2.a l5_2.len l5_2.cap) ∧
 Calls Tryz.prog 35 #[.agg #[.int .i64 n5_0, .slice l5_1.a l5_1.len l5_1.cap, .slice l5_2.a l5_2.len l5_2.cap]] w1 fun e w2 =>
 ∃ n6 : Int, e = .returned (.int .i64 n6) ∧
 Br (n6 != 0) (
 runD Tryz.prog ds w2 fun w3 =>
 R (.returned (.tuple #[.slice none 0 0, .int .i64 n6])) w3) (
 ∃ n10_0 : Int, w2.cell? ((⟨r1, 0, none⟩ : Addr).add 0) = some (.int .i64 n10_0) ∧
 ∃ l10_1 : SV, w2.cell? ((⟨r1, 0, none⟩ : Addr).add 1) = some (.slice l10_1.a l10_1.len l10_1.cap) ∧
 ∃ l10_2 : SV, w2.cell? ((⟨r1, 0, none⟩ : Addr).add 2) = some (.slice l10_2.a l10_2.len l10_2.cap) ∧
 Calls Tryz.prog 60 #[.agg #[.int .i64 n10_0, .slice l10_1.a l10_1.len l10_1.cap, .slice l10_2.a l10_2.len l10_2.cap]] w2 fun e w4 =>
 ∃ l11 : SV, e = .returned (.slice l11.a l11.len l11.cap) ∧
 runD Tryz.prog ds w4 fun w5 =>
 R (.returned (.tuple #[.slice l11.a l11.len l11.cap, .int .i64 0])) w5)
theorem c20_l : flat (bodyOf Tryz.f20) = [c20_0, c20_1, c20_2, c20_3, c20_4, c20_5] := by kernel_rfl
theorem F20_1_ok (R : Rt) (n0_0 : Int) (l0_1 : SV) (l0_2 : SV) (ds : Ds) (w : World) (ρ : Env) (e0 : ρ 0 = .agg #[.int .i64 n0_0, .slice l0_1.a l0_1.len l0_1.cap, .slice l0_2.a l0_2.len l0_2.cap]) (h : F20_1 R n0_0 l0_1 l0_2 ds w) :
    TrL Tryz.prog Tryz.f20.ntmps [c20_0, c20_1, c20_2, c20_3, c20_4, c20_5] (F20_q1 R) ρ ds w :=
  TrL_leaf (X := F20_1 R n0_0 l0_1 l0_2 ds w) (setAll_cons e0 setAll_nil) (by kernel_rfl) (by kernel_rfl) h
theorem F20_calls (n0_0 : Int) (l0_1 : SV) (l0_2 : SV) (w : World) (R : Rt) (h : F20_1 R n0_0 l0_1 l0_2 [] w) : Calls Tryz.prog 20 #[.agg #[.int .i64 n0_0, .slice l0_1.a l0_1.len l0_1.cap, .slice l0_2.a l0_2.len l0_2.cap]] w R :=
  calls_of_L (l := [c20_0, c20_1, c20_2, c20_3, c20_4, c20_5]) Tryz.func20 (by kernel_rfl) (by rw [Tryz.ntmps20]; exact Nat.le_of_ble_eq_true (by kernel_rfl)) c20_l
    (F20_1_ok R n0_0 l0_1 l0_2 [] w _ rfl h)
theorem F20_callsD (n0_0 : Int) (l0_1 : SV) (l0_2 : SV) (w : World) (R : Rt) (u : FrameMode) (h : F20_1 R n0_0 l0_1 l0_2 [] w) : CallsD Tryz.prog 20 #[.agg #[.int .i64 n0_0, .slice l0_1.a l0_1.len l0_1.cap, .slice l0_2.a l0_2.len l0_2.cap]] u w fun e u' w' => u' = u ∧ R e w' :=
  callsD_of_L (l := [c20_0, c20_1, c20_2, c20_3, c20_4, c20_5]) Tryz.func20 (by kernel_rfl) (by rw [Tryz.ntmps20]; exact Nat.le_of_ble_eq_true (by kernel_rfl)) (by kernel_rfl) c20_l
    (F20_1_ok R n0_0 l0_1 l0_2 [] w _ rfl h) u

/-! function 60: cabinetry/cabinetryref03.header -/
noncomputable def c60_0 : Code := itemAt (flat (bodyOf Tryz.f60)) 0
noncomputable def c60_1 : Code := itemAt (flat (bodyOf Tryz.f60)) 1
noncomputable def c60_2 : Code := itemAt (flat (bodyOf Tryz.f60)) 2
noncomputable def c60_3 : Code := itemAt (flat (bodyOf Tryz.f60)) 3
noncomputable def c60_4 : Code := itemAt (flat (bodyOf Tryz.f60)) 4
noncomputable def c60_5 : Code := itemAt (flat (bodyOf Tryz.f60)) 5
noncomputable def c60_6 : Code := itemAt (flat (bodyOf Tryz.f60)) 6
noncomputable def c60_7 : Code := itemAt (flat (bodyOf Tryz.f60)) 7
noncomputable def c60_8 : Code := itemAt (flat (bodyOf Tryz.f60)) 8
noncomputable def c60_9 : Code := itemAt (flat (bodyOf Tryz.f60)) 9
noncomputable def c60_7_0 : Code := itemAt (flat (innerC c60_7)) 0
noncomputable def c60_7_0_0 : Code := itemAt (flat (innerC c60_7_0)) 0
noncomputable def c60_7_0_1 : Code := itemAt (flat (innerC c60_7_0)) 1
noncomputable def c60_7_0_2 : Code := itemAt (flat (innerC c60_7_0)) 2
noncomputable def c60_7_0_3 : Code := itemAt (flat (innerC c60_7_0)) 3
noncomputable def c60_7_0_2_0 : Code := itemAt (flat (innerC c60_7_0_2)) 0
noncomputable def c60_7_0_2_1 : Code := itemAt (flat (innerC c60_7_0_2)) 1
noncomputable def c60_7_0_2_2 : Code := itemAt (flat (innerC c60_7_0_2)) 2
noncomputable def c60_7_0_2_3 : Code := itemAt (flat (innerC c60_7_0_2)) 3
noncomputable def c60_7_0_2_4 : Code := itemAt (flat (innerC c60_7_0_2)) 4
noncomputable def c60_7_0_2_5 : Code := itemAt (flat (innerC c60_7_0_2)) 5
noncomputable def c60_7_0_2_6 : Code := itemAt (flat (innerC c60_7_0_2)) 6
noncomputable def c60_7_0_2_7 : Code := itemAt (flat (innerC c60_7_0_2)) 7
noncomputable def c60_7_0_2_2_0 : Code := itemAt (flat (innerC c60_7_0_2_2)) 0
noncomputable def c60_7_0_2_2_0_0 : Code := itemAt (flat (innerC c60_7_0_2_2_0)) 0
noncomputable def c60_7_0_2_2_0_1 : Code := itemAt (flat (innerC c60_7_0_2_2_0)) 1
noncomputable def c60_7_0_2_2_0_2 : Code := itemAt (flat (innerC c60_7_0_2_2_0)) 2
def F60_q1 (R : Rt) : EQ := endQ Tryz.prog Tryz.f60.results.toList R
def F60_1 (R : Rt) (l3 : SV) (ds : Ds) (w : World) : Prop :=
 alE (.cells #[.int .u8 13] 5) w fun r76 w1 =>
 ∃ l77 : SV, ∃ w2 : World, (Builtin.append_ #[37, 37] 37 #[.slice l3.a l3.len l3.cap, .slice (some ⟨r76, 0, none⟩) 1 1]).run Tryz.prog w1 = .ok (.slice l77.a l77.len l77.cap) w2 ∧
 runD Tryz.prog ds w2 fun w3 =>
 R (.returned (.slice l77.a l77.len l77.cap)) w3
def F60_k2 (R : Rt) : EP := (fun ρ ds w => dSl (ρ 3) fun l3 => F60_1 R l3 ds w)
def F60_q3 (R : Rt) : EQ := (thenQ (F60_k2 R) (F60_q1 R))
def F60_q4 (R : Rt) : EQ := (blockQ 0 (F60_q3 R))
def F60_q5 (R : Rt) (J1 : (SV × Int) → World → Prop) : EQ := (thenQ (fun ρ _ w => dSl (ρ 3) fun l3 => dInt .i64 (ρ 4) fun n4 => J1 (l3, n4) w) (F60_q4 R))
def F60_2 (R : Rt) (J1 : (SV × Int) → World → Prop) (p1 : Option Addr) (l3 : SV) (n4 : Int) (ds : Ds) (w : World) : Prop :=
 J1 (l3, (IntKind.i64.wrap (n4 + 1))) w
def F60_k6 (R : Rt) (J1 : (SV × Int) → World → Prop) : EP := (fun ρ ds w => dPtr (ρ 1) fun p1 => dSl (ρ 3) fun l3 => dInt .i64 (ρ 4) fun n4 => F60_2 R J1 p1 l3 n4 ds w)
def F60_q7 (R : Rt) (J1 : (SV × Int) → World → Prop) : EQ := (thenQ (F60_k6 R J1) (F60_q5 R J1))
def F60_q8 (R : Rt) (J1 : (SV × Int) → World → Prop) : EQ := (blockQ 1 (F60_q7 R J1))
def F60_3 (R : Rt) (J1 : (SV × Int) → World → Prop) (p1 : Option Addr) (l3 : SV) (n4 : Int) (p5 : Option Addr) (l6 : SV) (ds : Ds) (w : World) : Prop :=
 ptrE p5 fun a4 =>
 ∃ b61 : Bool, w.cell? (a4.add 3) = some (.bool b61) ∧
 Br b61 (
 ∃ l64 : SV, ∃ w5 : World, (Builtin.append_ #[37, 37] 37 #[.slice l3.a l3.len l3.cap, .slice l6.a l6.len l6.cap]).run Tryz.prog w = .ok (.slice l64.a l64.len l64.cap) w5 ∧
 dwE w5 fun w6 =>
 ∃ S1 : World → Prop, S1 w6 ∧
 ptrE p5 fun a7 =>
 ∃ n67 : Int, (∀ w', S1 w' → w'.cell? (a7.add 1) = some (.int .i64 n67)) ∧
 ptrE p5 fun a8 =>
 ∃ n70 : Int, (∀ w', S1 w' → w'.cell? (a8.add 2) = some (.int .i64 n70)) ∧
 Calls Tryz.prog 107 #[.int .i64 n67] w6 fun e w9 =>
 ∃ n68 : Int, e = .returned (.int .u8 n68) ∧
 S1 w9 ∧
 alE (.cells #[.int .u8 n68, .int .u8 (IntKind.u8.wrap n70), .int .u8 1, .int .u8 0, .int .u8 0, .int .u8 0] 5) w9 fun r73 w10 =>
 ∃ l74 : SV, ∃ w11 : World, (Builtin.append_ #[37, 37] 37 #[.slice l64.a l64.len l64.cap, .slice (some ⟨r73, 0, none⟩) 6 6]).run Tryz.prog w10 = .ok (.slice l74.a l74.len l74.cap) w11 ∧
 F60_2 R J1 p1 l74 n4 ds w11) (
 ∃ l64 : SV, ∃ w12 : World, (Builtin.append_ #[37, 37] 37 #[.slice l3.a l3.len l3.cap, .slice l6.a l6.len l6.cap]).run Tryz.prog w = .ok (.slice l64.a l64.len l64.cap) w12 ∧
 dwE w12 fun w13 =>
 ∃ S2 : World → Prop, S2 w13 ∧
 ptrE p5 fun a14 =>
 ∃ n67 : Int, (∀ w', S2 w' → w'.cell? (a14.add 1) = some (.int .i64 n67)) ∧
 ptrE p5 fun a15 =>
 ∃ n70 : Int, (∀ w', S2 w' → w'.cell? (a15.add 2) = some (.int .i64 n70)) ∧
 Calls Tryz.prog 107 #[.int .i64 n67] w13 fun e w16 =>
 ∃ n68 : Int, e = .returned (.int .u8 n68) ∧
 S2 w16 ∧
 alE (.cells #[.int .u8 n68, .int .u8 (IntKind.u8.wrap n70), .int .u8 0, .int .u8 0, .int .u8 0, .int .u8 0] 5) w16 fun r73 w17 =>
 ∃ l74 : SV, ∃ w18 : World, (Builtin.append_ #[37, 37] 37 #[.slice l64.a l64.len l64.cap, .slice (some ⟨r73, 0, none⟩) 6 6]).run Tryz.prog w17 = .ok (.slice l74.a l74.len l74.cap) w18 ∧
 F60_2 R J1 p1 l74 n4 ds w18)
def F60_k9 (R : Rt) (J1 : (SV × Int) → World → Prop) : EP := (fun ρ ds w => dPtr (ρ 1) fun p1 => dSl (ρ 3) fun l3 => dInt .i64 (ρ 4) fun n4 => dPtr (ρ 5) fun p5 => dSl (ρ 6) fun l6 => F60_3 R J1 p1 l3 n4 p5 l6 ds w)
def F60_q10 (R : Rt) (J1 : (SV × Int) → World → Prop) : EQ := (thenQ (F60_k9 R J1) (F60_q8 R J1))
def F60_q11 (R : Rt) (J1 : (SV × Int) → World → Prop) : EQ := (blockQ 2 (F60_q10 R J1))
def F60_q12 (R : Rt) (J1 : (SV × Int) → World → Prop) (J2 : (SV) → World → Prop) : EQ := (thenQ (fun ρ _ w => dSl (ρ 6) fun l6 => J2 l6 w) (F60_q11 R J1))
def F60_4 (R : Rt) (J1 : (SV × Int) → World → Prop) (J2 : (SV) → World → Prop) (p1 : Option Addr) (l3 : SV) (n4 : Int) (p5 : Option Addr) (l6 : SV) (ds : Ds) (w : World) : Prop :=
 Br (decide (((l6.len : Nat) : Int) < 10)) (
 alE (.cells #[.int .u8 0] 5) w fun r58 w19 =>
 ∃ l59 : SV, ∃ w20 : World, (Builtin.append_ #[37, 37] 37 #[.slice l6.a l6.len l6.cap, .slice (some ⟨r58, 0, none⟩) 1 1]).run Tryz.prog w19 = .ok (.slice l59.a l59.len l59.cap) w20 ∧
 J2 l59 w20) (
 F60_3 R J1 p1 l3 n4 p5 l6 ds w)
def F60_5 (R : Rt) (J1 : (SV × Int) → World → Prop) (p1 : Option Addr) (l3 : SV) (n4 : Int) (p5 : Option Addr) (l6 : SV) (ds : Ds) (w : World) : Prop :=
 loopT (fun (J2 : (SV) → World → Prop) (s : SV) (w : World) => F60_4 R J1 J2 p1 l3 n4 p5 s ds w) l6 w
@[reducible] def F60_6 (R : Rt) (J1 : (SV × Int) → World → Prop) (p1 : Option Addr) (l3 : SV) (n4 : Int) (p5 : Option Addr) (l6 : SV) (ds : Ds) (w : World) : Prop := F60_5 R J1 p1 l3 n4 p5 l6 ds w
def F60_k13 (R : Rt) (J1 : (SV × Int) → World → Prop) : EP := (fun ρ ds w => dPtr (ρ 1) fun p1 => dSl (ρ 3) fun l3 => dInt .i64 (ρ 4) fun n4 => dPtr (ρ 5) fun p5 => dSl (ρ 6) fun l6 => F60_6 R J1 p1 l3 n4 p5 l6 ds w)
def F60_7 (R : Rt) (J1 : (SV × Int) → World → Prop) (p1 : Option Addr) (l3 : SV) (n4 : Int) (ds : Ds) (w : World) : Prop :=
 ptrE p1 fun a21 =>
 ∃ l47 : SV, w.cell? (a21.add 1) = some (.slice l47.a l47.len l47.cap) ∧
 ∃ a22 : Addr, l47.a = some a22 ∧ 0 ≤ n4 ∧ n4 < ((l47.len : Nat) : Int) ∧
 ∃ s50_0 : ByteArray, w.cell? ((a22.add (n4.toNat * 4)).add 0) = some (.string s50_0) ∧
 ∃ n50_1 : Int, w.cell? ((a22.add (n4.toNat * 4)).add 1) = some (.int .i64 n50_1) ∧
 ∃ n50_2 : Int, w.cell? ((a22.add (n4.toNat * 4)).add 2) = some (.int .i64 n50_2) ∧
 ∃ b50_3 : Bool, w.cell? ((a22.add (n4.toNat * 4)).add 3) = some (.bool b50_3) ∧
 alE (.cells #[.string (⟨#[]⟩ : ByteArray), .int .i64 0, .int .i64 0, .bool false] 23) w fun r5 w23 =>
 stA Tryz.prog 23 (⟨r5, 0, none⟩ : Addr) #[.string s50_0, .int .i64 n50_1, .int .i64 n50_2, .bool b50_3] w23 fun w24 =>
 ∃ s52 : ByteArray, w24.cell? (⟨r5, 0, none⟩ : Addr) = some (.string s52) ∧
 ∃ l53 : SV, ∃ w25 : World, (convert 9 37 (.string s52)).run Tryz.prog w24 = .ok (.slice l53.a l53.len l53.cap) w25 ∧
 F60_6 R J1 p1 l3 n4 (some (⟨r5, 0, none⟩ : Addr)) l53 ds w25
@[reducible] def F60_8 (R : Rt) (J1 : (SV × Int) → World → Prop) (p1 : Option Addr) (l3 : SV) (n4 : Int) (ds : Ds) (w : World) : Prop := F60_7 R J1 p1 l3 n4 ds w
def F60_k14 (R : Rt) (J1 : (SV × Int) → World → Prop) : EP := (fun ρ ds w => dPtr (ρ 1) fun p1 => dSl (ρ 3) fun l3 => dInt .i64 (ρ 4) fun n4 => F60_8 R J1 p1 l3 n4 ds w)
def F60_9 (R : Rt) (J1 : (SV × Int) → World → Prop) (p1 : Option Addr) (l3 : SV) (n4 : Int) (ds : Ds) (w : World) : Prop :=
 ptrE p1 fun a26 =>
 ∃ l41 : SV, w.cell? (a26.add 1) = some (.slice l41.a l41.len l41.cap) ∧
 Br (decide (n4 < ((l41.len : Nat) : Int))) (
 F60_8 R J1 p1 l3 n4 ds w) (
 F60_1 R l3 ds w)
def F60_10 (R : Rt) (p1 : Option Addr) (l3 : SV) (n4 : Int) (ds : Ds) (w : World) : Prop :=
 loopT (fun (J1 : (SV × Int) → World → Prop) (s : SV × Int) (w : World) => F60_9 R J1 p1 s.1 s.2 ds w) (l3, n4) w
@[reducible] def F60_11 (R : Rt) (p1 : Option Addr) (l3 : SV) (n4 : Int) (ds : Ds) (w : World) : Prop := F60_10 R p1 l3 n4 ds w
def F60_k15 (R : Rt) : EP := (fun ρ ds w => dPtr (ρ 1) fun p1 => dSl (ρ 3) fun l3 => dInt .i64 (ρ 4) fun n4 => F60_11 R p1 l3 n4 ds w)
def F60_12 (R : Rt) (n0_0 : Int) (l0_1 : SV) (l0_2 : SV) (ds : Ds) (w : World) : Prop :=
 alE (.cells #[.int .i64 n0_0, .slice l0_1.a l0_1.len l0_1.cap, .slice l0_2.a l0_2.len l0_2.cap] 35) w fun r1 w27 =>
 ∃ n9 : Int, w27.cell? (⟨r1, 0, none⟩ : Addr) = some (.int .i64 n9) ∧
 alE (.cells #[.int .u8 67, .int .u8 (IntKind.u8.wrap n9)] 5) w27 fun r11 w28 =>
 ∃ l14 : SV, w28.cell? ((⟨r1, 0, none⟩ : Addr).add 2) = some (.slice l14.a l14.len l14.cap) ∧
 Calls Tryz.prog 106 #[.int .i64 ((l14.len : Nat) : Int), .int .i64 4] w28 fun e w29 =>
 ∃ l16 : SV, e = .returned (.slice l16.a l16.len l16.cap) ∧
 ∃ l17 : SV, ∃ w30 : World, (Builtin.append_ #[37, 37] 37 #[.slice (some ⟨r11, 0, none⟩) 2 2, .slice l16.a l16.len l16.cap]).run Tryz.prog w29 = .ok (.slice l17.a l17.len l17.cap) w30 ∧
 ∃ l20 : SV, w30.cell? ((⟨r1, 0, none⟩ : Addr).add 1) = some (.slice l20.a l20.len l20.cap) ∧
 Calls Tryz.prog 106 #[.int .i64 (IntKind.i64.wrap ((13 : Int) + (IntKind.i64.wrap ((16 : Int) * ((l20.len : Nat) : Int))))), .int .i64 2] w30 fun e w31 =>
 ∃ l24 : SV, e = .returned (.slice l24.a l24.len l24.cap) ∧
 ∃ l25 : SV, ∃ w32 : World, (Builtin.append_ #[37, 37] 37 #[.slice l17.a l17.len l17.cap, .slice l24.a l24.len l24.cap]).run Tryz.prog w31 = .ok (.slice l25.a l25.len l25.cap) w32 ∧
 ∃ l28 : SV, w32.cell? ((⟨r1, 0, none⟩ : Addr).add 1) = some (.slice l28.a l28.len l28.cap) ∧
 Calls Tryz.prog 70 #[.slice l28.a l28.len l28.cap] w32 fun e w33 =>
 ∃ n29 : Int, e = .returned (.int .i64 n29) ∧
 Calls Tryz.prog 106 #[.int .i64 n29, .int .i64 2] w33 fun e w34 =>
 ∃ l30 : SV, e = .returned (.slice l30.a l30.len l30.cap) ∧
 ∃ l31 : SV, ∃ w35 : World, (Builtin.append_ #[37, 37] 37 #[.slice l25.a l25.len l25.cap, .slice l30.a l30.len l30.cap]).run Tryz.prog w34 = .ok (.slice l31.a l31.len l31.cap) w35 ∧
 ∃ l34 : SV, w35.cell? ((⟨r1, 0, none⟩ : Addr).add 1) = some (.slice l34.a l34.len l34.cap) ∧
 alE (.cells #[.int .u8 (IntKind.u8.wrap ((l34.len : Nat) : Int)), .int .u8 0] 5) w35 fun r37 w36 =>
 ∃ l38 : SV, ∃ w37 : World, (Builtin.append_ #[37, 37] 37 #[.slice l31.a l31.len l31.cap, .slice (some ⟨r37, 0, none⟩) 2 2]).run Tryz.prog w36 = .ok (.slice l38.a l38.len l38.cap) w37 ∧
 F60_11 R (some (⟨r1, 0, none⟩ : Addr)) l38 0 ds w37
theorem c60_l : flat (bodyOf Tryz.f60) = [c60_0, c60_1, c60_2, c60_3, c60_4, c60_5, c60_6, c60_7, c60_8, c60_9] := by kernel_rfl
theorem c60_7_l : flat (innerC c60_7) = [c60_7_0] := by kernel_rfl
theorem c60_7_0_l : flat (innerC c60_7_0) = [c60_7_0_0, c60_7_0_1, c60_7_0_2, c60_7_0_3] := by kernel_rfl
theorem c60_7_0_2_l : flat (innerC c60_7_0_2) = [c60_7_0_2_0, c60_7_0_2_1, c60_7_0_2_2, c60_7_0_2_3, c60_7_0_2_4, c60_7_0_2_5, c60_7_0_2_6, c60_7_0_2_7] := by kernel_rfl
theorem c60_7_0_2_2_l : flat (innerC c60_7_0_2_2) = [c60_7_0_2_2_0] := by kernel_rfl
theorem c60_7_0_2_2_0_l : flat (innerC c60_7_0_2_2_0) = [c60_7_0_2_2_0_0, c60_7_0_2_2_0_1, c60_7_0_2_2_0_2] := by kernel_rfl
theorem F60_1_ok (R : Rt) (l3 : SV) (ds : Ds) (w : World) (ρ : Env) (e3 : ρ 3 = .slice l3.a l3.len l3.cap) (h : F60_1 R l3 ds w) :
    TrL Tryz.prog Tryz.f60.ntmps [c60_8, c60_9] (F60_q1 R) ρ ds w :=
  TrL_leaf (X := F60_1 R l3 ds w) (setAll_cons e3 setAll_nil) (by kernel_rfl) (by kernel_rfl) h
theorem F60_2_ok (R : Rt) (J1 : (SV × Int) → World → Prop) (p1 : Option Addr) (l3 : SV) (n4 : Int) (ds : Ds) (w : World) (ρ : Env) (e1 : ρ 1 = .pointer p1) (e3 : ρ 3 = .slice l3.a l3.len l3.cap) (e4 : ρ 4 = .int .i64 n4) (h : F60_2 R J1 p1 l3 n4 ds w) :
    TrL Tryz.prog Tryz.f60.ntmps [c60_7_0_3] (F60_q5 R J1) ρ ds w :=
  TrL_leaf (X := F60_2 R J1 p1 l3 n4 ds w) (setAll_cons e1 (setAll_cons e3 (setAll_cons e4 setAll_nil))) (by kernel_rfl) (by kernel_rfl) h
theorem F60_3_ok (R : Rt) (J1 : (SV × Int) → World → Prop) (p1 : Option Addr) (l3 : SV) (n4 : Int) (p5 : Option Addr) (l6 : SV) (ds : Ds) (w : World) (ρ : Env) (e1 : ρ 1 = .pointer p1) (e3 : ρ 3 = .slice l3.a l3.len l3.cap) (e4 : ρ 4 = .int .i64 n4) (e5 : ρ 5 = .pointer p5) (e6 : ρ 6 = .slice l6.a l6.len l6.cap) (h : F60_3 R J1 p1 l3 n4 p5 l6 ds w) :
    TrL Tryz.prog Tryz.f60.ntmps [c60_7_0_2_3, c60_7_0_2_4, c60_7_0_2_5, c60_7_0_2_6, c60_7_0_2_7] (F60_q8 R J1) ρ ds w :=
  TrL_leaf (X := F60_3 R J1 p1 l3 n4 p5 l6 ds w) (setAll_cons e1 (setAll_cons e3 (setAll_cons e4 (setAll_cons e5 (setAll_cons e6 setAll_nil))))) (by kernel_rfl) (by kernel_rfl) h
theorem F60_4_ok (R : Rt) (J1 : (SV × Int) → World → Prop) (J2 : (SV) → World → Prop) (p1 : Option Addr) (l3 : SV) (n4 : Int) (p5 : Option Addr) (l6 : SV) (ds : Ds) (w : World) (ρ : Env) (e1 : ρ 1 = .pointer p1) (e3 : ρ 3 = .slice l3.a l3.len l3.cap) (e4 : ρ 4 = .int .i64 n4) (e5 : ρ 5 = .pointer p5) (e6 : ρ 6 = .slice l6.a l6.len l6.cap) (h : F60_4 R J1 J2 p1 l3 n4 p5 l6 ds w) :
    TrL Tryz.prog Tryz.f60.ntmps [c60_7_0_2_2_0_0, c60_7_0_2_2_0_1, c60_7_0_2_2_0_2] (F60_q12 R J1 J2) ρ ds w :=
  TrL_leaf (X := F60_4 R J1 J2 p1 l3 n4 p5 l6 ds w) (setAll_cons e1 (setAll_cons e3 (setAll_cons e4 (setAll_cons e5 (setAll_cons e6 setAll_nil))))) (by kernel_rfl) (by kernel_rfl) h
theorem F60_5_ok (R : Rt) (J1 : (SV × Int) → World → Prop) (p1 : Option Addr) (l3 : SV) (n4 : Int) (p5 : Option Addr) (l6 : SV) (ds : Ds) (w : World) (ρ : Env) (e1 : ρ 1 = .pointer p1) (e3 : ρ 3 = .slice l3.a l3.len l3.cap) (e4 : ρ 4 = .int .i64 n4) (e5 : ρ 5 = .pointer p5) (e6 : ρ 6 = .slice l6.a l6.len l6.cap) (h : F60_5 R J1 p1 l3 n4 p5 l6 ds w) :
    TrL Tryz.prog Tryz.f60.ntmps [c60_7_0_2_2_0] (F60_q11 R J1) ρ ds w :=
  TrL_one (Tr_loop' (c := innerC c60_7_0_2_2_0) (σ := SV) (enc := (fun (s : SV) (ρ : Env) => ρ 6 = .slice s.a s.len s.cap)) (D := (fun ρ K => dSl (ρ 6) fun l6 => K l6)) (F := (fun (J2 : (SV) → World → Prop) (s : SV) (w : World) => F60_4 R J1 J2 p1 l3 n4 p5 s ds w)) (s0 := l6) (by kernel_rfl) c60_7_0_2_2_0_l e6 (by kernel_rfl) (fun ρ K hD => by obtain ⟨l6, e6, hD⟩ := dSl_elim hD; exact ⟨l6, e6, hD⟩)
      (fun J2 s ρ' w' he ha hF => by
      have e6' := he
      exact F60_4_ok R J1 J2 p1 l3 n4 p5 s ds w' ρ' ((ha 1 (by kernel_rfl)).trans e1) ((ha 3 (by kernel_rfl)).trans e3) ((ha 4 (by kernel_rfl)).trans e4) ((ha 5 (by kernel_rfl)).trans e5) e6' hF) h)
theorem F60_6_ok (R : Rt) (J1 : (SV × Int) → World → Prop) (p1 : Option Addr) (l3 : SV) (n4 : Int) (p5 : Option Addr) (l6 : SV) (ds : Ds) (w : World) (ρ : Env) (e1 : ρ 1 = .pointer p1) (e3 : ρ 3 = .slice l3.a l3.len l3.cap) (e4 : ρ 4 = .int .i64 n4) (e5 : ρ 5 = .pointer p5) (e6 : ρ 6 = .slice l6.a l6.len l6.cap) (h : F60_6 R J1 p1 l3 n4 p5 l6 ds w) :
    TrL Tryz.prog Tryz.f60.ntmps [c60_7_0_2_2, c60_7_0_2_3, c60_7_0_2_4, c60_7_0_2_5, c60_7_0_2_6, c60_7_0_2_7] (F60_q8 R J1) ρ ds w :=
  TrL_head (K := (F60_k9 R J1)) (Tr_block' (c := innerC c60_7_0_2_2) (by kernel_rfl) c60_7_0_2_2_l (F60_5_ok R J1 p1 l3 n4 p5 l6 ds w ρ e1 e3 e4 e5 e6 h))
    (fun ρ' ds' w' hD => by
      obtain ⟨p1, e1, hD⟩ := dPtr_elim hD; obtain ⟨l3, e3, hD⟩ := dSl_elim hD; obtain ⟨n4, e4, hD⟩ := dInt_elim hD; obtain ⟨p5, e5, hD⟩ := dPtr_elim hD; obtain ⟨l6, e6, hD⟩ := dSl_elim hD; exact F60_3_ok R J1 p1 l3 n4 p5 l6 ds' w' ρ' e1 e3 e4 e5 e6 hD)
theorem F60_7_ok (R : Rt) (J1 : (SV × Int) → World → Prop) (p1 : Option Addr) (l3 : SV) (n4 : Int) (ds : Ds) (w : World) (ρ : Env) (e1 : ρ 1 = .pointer p1) (e3 : ρ 3 = .slice l3.a l3.len l3.cap) (e4 : ρ 4 = .int .i64 n4) (h : F60_7 R J1 p1 l3 n4 ds w) :
    TrL Tryz.prog Tryz.f60.ntmps [c60_7_0_2_0, c60_7_0_2_1, c60_7_0_2_2, c60_7_0_2_3, c60_7_0_2_4, c60_7_0_2_5, c60_7_0_2_6, c60_7_0_2_7] (F60_q8 R J1) ρ ds w :=
  TrL_piece (pre := [c60_7_0_2_0, c60_7_0_2_1]) (K := (F60_k13 R J1)) (X := F60_7 R J1 p1 l3 n4 ds w) (setAll_cons e1 (setAll_cons e3 (setAll_cons e4 setAll_nil))) (by kernel_rfl) (by kernel_rfl)
    (fun ρ' ds' w' hD => by
      obtain ⟨p1, e1, hD⟩ := dPtr_elim hD; obtain ⟨l3, e3, hD⟩ := dSl_elim hD; obtain ⟨n4, e4, hD⟩ := dInt_elim hD; obtain ⟨p5, e5, hD⟩ := dPtr_elim hD; obtain ⟨l6, e6, hD⟩ := dSl_elim hD; exact F60_6_ok R J1 p1 l3 n4 p5 l6 ds' w' ρ' e1 e3 e4 e5 e6 hD) h
theorem F60_8_ok (R : Rt) (J1 : (SV × Int) → World → Prop) (p1 : Option Addr) (l3 : SV) (n4 : Int) (ds : Ds) (w : World) (ρ : Env) (e1 : ρ 1 = .pointer p1) (e3 : ρ 3 = .slice l3.a l3.len l3.cap) (e4 : ρ 4 = .int .i64 n4) (h : F60_8 R J1 p1 l3 n4 ds w) :
    TrL Tryz.prog Tryz.f60.ntmps [c60_7_0_2, c60_7_0_3] (F60_q5 R J1) ρ ds w :=
  TrL_head (K := (F60_k6 R J1)) (Tr_block' (c := innerC c60_7_0_2) (by kernel_rfl) c60_7_0_2_l (F60_7_ok R J1 p1 l3 n4 ds w ρ e1 e3 e4 h))
    (fun ρ' ds' w' hD => by
      obtain ⟨p1, e1, hD⟩ := dPtr_elim hD; obtain ⟨l3, e3, hD⟩ := dSl_elim hD; obtain ⟨n4, e4, hD⟩ := dInt_elim hD; exact F60_2_ok R J1 p1 l3 n4 ds' w' ρ' e1 e3 e4 hD)
theorem F60_9_ok (R : Rt) (J1 : (SV × Int) → World → Prop) (p1 : Option Addr) (l3 : SV) (n4 : Int) (ds : Ds) (w : World) (ρ : Env) (e1 : ρ 1 = .pointer p1) (e3 : ρ 3 = .slice l3.a l3.len l3.cap) (e4 : ρ 4 = .int .i64 n4) (h : F60_9 R J1 p1 l3 n4 ds w) :
    TrL Tryz.prog Tryz.f60.ntmps [c60_7_0_0, c60_7_0_1, c60_7_0_2, c60_7_0_3] (F60_q5 R J1) ρ ds w :=
  TrL_piece (pre := [c60_7_0_0, c60_7_0_1]) (K := (F60_k14 R J1)) (X := F60_9 R J1 p1 l3 n4 ds w) (setAll_cons e1 (setAll_cons e3 (setAll_cons e4 setAll_nil))) (by kernel_rfl) (by kernel_rfl)
    (fun ρ' ds' w' hD => by
      obtain ⟨p1, e1, hD⟩ := dPtr_elim hD; obtain ⟨l3, e3, hD⟩ := dSl_elim hD; obtain ⟨n4, e4, hD⟩ := dInt_elim hD; exact F60_8_ok R J1 p1 l3 n4 ds' w' ρ' e1 e3 e4 hD) h
theorem F60_10_ok (R : Rt) (p1 : Option Addr) (l3 : SV) (n4 : Int) (ds : Ds) (w : World) (ρ : Env) (e1 : ρ 1 = .pointer p1) (e3 : ρ 3 = .slice l3.a l3.len l3.cap) (e4 : ρ 4 = .int .i64 n4) (h : F60_10 R p1 l3 n4 ds w) :
    TrL Tryz.prog Tryz.f60.ntmps [c60_7_0] (F60_q4 R) ρ ds w :=
  TrL_one (Tr_loop' (c := innerC c60_7_0) (σ := SV × Int) (enc := (fun (s : SV × Int) (ρ : Env) => ρ 3 = .slice s.1.a s.1.len s.1.cap ∧ ρ 4 = .int .i64 s.2)) (D := (fun ρ K => dSl (ρ 3) fun l3 => dInt .i64 (ρ 4) fun n4 => K (l3, n4))) (F := (fun (J1 : (SV × Int) → World → Prop) (s : SV × Int) (w : World) => F60_9 R J1 p1 s.1 s.2 ds w)) (s0 := (l3, n4)) (by kernel_rfl) c60_7_0_l ⟨e3, e4⟩ (by kernel_rfl) (fun ρ K hD => by obtain ⟨l3, e3, hD⟩ := dSl_elim hD; obtain ⟨n4, e4, hD⟩ := dInt_elim hD; exact ⟨(l3, n4), ⟨e3, e4⟩, hD⟩)
      (fun J1 s ρ' w' he ha hF => by
      obtain ⟨e3', e4'⟩ := he
      exact F60_9_ok R J1 p1 s.1 s.2 ds w' ρ' ((ha 1 (by kernel_rfl)).trans e1) e3' e4' hF) h)
theorem F60_11_ok (R : Rt) (p1 : Option Addr) (l3 : SV) (n4 : Int) (ds : Ds) (w : World) (ρ : Env) (e1 : ρ 1 = .pointer p1) (e3 : ρ 3 = .slice l3.a l3.len l3.cap) (e4 : ρ 4 = .int .i64 n4) (h : F60_11 R p1 l3 n4 ds w) :
    TrL Tryz.prog Tryz.f60.ntmps [c60_7, c60_8, c60_9] (F60_q1 R) ρ ds w :=
  TrL_head (K := (F60_k2 R)) (Tr_block' (c := innerC c60_7) (by kernel_rfl) c60_7_l (F60_10_ok R p1 l3 n4 ds w ρ e1 e3 e4 h))
    (fun ρ' ds' w' hD => by
      obtain ⟨l3, e3, hD⟩ := dSl_elim hD; exact F60_1_ok R l3 ds' w' ρ' e3 hD)
theorem F60_12_ok (R : Rt) (n0_0 : Int) (l0_1 : SV) (l0_2 : SV) (ds : Ds) (w : World) (ρ : Env) (e0 : ρ 0 = .agg #[.int .i64 n0_0, .slice l0_1.a l0_1.len l0_1.cap, .slice l0_2.a l0_2.len l0_2.cap]) (h : F60_12 R n0_0 l0_1 l0_2 ds w) :
    TrL Tryz.prog Tryz.f60.ntmps [c60_0, c60_1, c60_2, c60_3, c60_4, c60_5, c60_6, c60_7, c60_8, c60_9] (F60_q1 R) ρ ds w :=
  TrL_piece (pre := [c60_0, c60_1, c60_2, c60_3, c60_4, c60_5, c60_6]) (K := (F60_k15 R)) (X := F60_12 R n0_0 l0_1 l0_2 ds w) (setAll_cons e0 setAll_nil) (by kernel_rfl) (by kernel_rfl)
    (fun ρ' ds' w' hD => by
      obtain ⟨p1, e1, hD⟩ := dPtr_elim hD; obtain ⟨l3, e3, hD⟩ := dSl_elim hD; obtain ⟨n4, e4, hD⟩ := dInt_elim hD; exact F60_11_ok R p1 l3 n4 ds' w' ρ' e1 e3 e4 hD) h
theorem F60_calls (n0_0 : Int) (l0_1 : SV) (l0_2 : SV) (w : World) (R : Rt) (h : F60_12 R n0_0 l0_1 l0_2 [] w) : Calls Tryz.prog 60 #[.agg #[.int .i64 n0_0, .slice l0_1.a l0_1.len l0_1.cap, .slice l0_2.a l0_2.len l0_2.cap]] w R :=
  calls_of_L (l := [c60_0, c60_1, c60_2, c60_3, c60_4, c60_5, c60_6, c60_7, c60_8, c60_9]) Tryz.func60 (by kernel_rfl) (by rw [Tryz.ntmps60]; exact Nat.le_of_ble_eq_true (by kernel_rfl)) c60_l
    (F60_12_ok R n0_0 l0_1 l0_2 [] w _ rfl h)
theorem F60_callsD (n0_0 : Int) (l0_1 : SV) (l0_2 : SV) (w : World) (R : Rt) (u : FrameMode) (h : F60_12 R n0_0 l0_1 l0_2 [] w) : CallsD Tryz.prog 60 #[.agg #[.int .i64 n0_0, .slice l0_1.a l0_1.len l0_1.cap, .slice l0_2.a l0_2.len l0_2.cap]] u w fun e u' w' => u' = u ∧ R e w' :=
  callsD_of_L (l := [c60_0, c60_1, c60_2, c60_3, c60_4, c60_5, c60_6, c60_7, c60_8, c60_9]) Tryz.func60 (by kernel_rfl) (by rw [Tryz.ntmps60]; exact Nat.le_of_ble_eq_true (by kernel_rfl)) (by kernel_rfl) c60_l
    (F60_12_ok R n0_0 l0_1 l0_2 [] w _ rfl h) u

/-! function 106: cabinetry/cabinetryref03.low -/
noncomputable def c106_0 : Code := itemAt (flat (bodyOf Tryz.f106)) 0
noncomputable def c106_1 : Code := itemAt (flat (bodyOf Tryz.f106)) 1
noncomputable def c106_2 : Code := itemAt (flat (bodyOf Tryz.f106)) 2
noncomputable def c106_3 : Code := itemAt (flat (bodyOf Tryz.f106)) 3
noncomputable def c106_4 : Code := itemAt (flat (bodyOf Tryz.f106)) 4
noncomputable def c106_5 : Code := itemAt (flat (bodyOf Tryz.f106)) 5
noncomputable def c106_3_0 : Code := itemAt (flat (innerC c106_3)) 0
noncomputable def c106_3_0_0 : Code := itemAt (flat (innerC c106_3_0)) 0
noncomputable def c106_3_0_1 : Code := itemAt (flat (innerC c106_3_0)) 1
noncomputable def c106_3_0_2 : Code := itemAt (flat (innerC c106_3_0)) 2
noncomputable def c106_3_0_3 : Code := itemAt (flat (innerC c106_3_0)) 3
def F106_q1 (R : Rt) : EQ := endQ Tryz.prog Tryz.f106.results.toList R
def F106_1 (R : Rt) (l5 : SV) (ds : Ds) (w : World) : Prop :=
 runD Tryz.prog ds w fun w1 =>
 R (.returned (.slice l5.a l5.len l5.cap)) w1
def F106_k2 (R : Rt) : EP := (fun ρ ds w => dSl (ρ 5) fun l5 => F106_1 R l5 ds w)
def F106_q3 (R : Rt) : EQ := (thenQ (F106_k2 R) (F106_q1 R))
def F106_q4 (R : Rt) : EQ := (blockQ 0 (F106_q3 R))
def F106_q5 (R : Rt) (J1 : (Int × SV × Int) → World → Prop) : EQ := (thenQ (fun ρ _ w => dInt .i64 (ρ 0) fun n0 => dSl (ρ 5) fun l5 => dInt .i64 (ρ 6) fun n6 => J1 (n0, l5, n6) w) (F106_q4 R))
def F106_2 (R : Rt) (J1 : (Int × SV × Int) → World → Prop) (n0 : Int) (n1 : Int) (l5 : SV) (n6 : Int) (ds : Ds) (w : World) : Prop :=
 Br (decide (n6 < n1)) (
 IntKind.i64 = IntKind.i64 ∧ (256 : Int) ≠ 0 ∧
 alE (.cells #[.int .u8 (IntKind.u8.wrap (n0.tmod 256))] 5) w fun r16 w2 =>
 ∃ l17 : SV, ∃ w3 : World, (Builtin.append_ #[37, 37] 37 #[.slice l5.a l5.len l5.cap, .slice (some ⟨r16, 0, none⟩) 1 1]).run Tryz.prog w2 = .ok (.slice l17.a l17.len l17.cap) w3 ∧
 IntKind.i64 = IntKind.i64 ∧ (256 : Int) ≠ 0 ∧
 J1 ((IntKind.i64.wrap (n0.tdiv 256)), l17, (IntKind.i64.wrap (n6 + 1))) w3) (
 F106_1 R l5 ds w)
def F106_3 (R : Rt) (n0 : Int) (n1 : Int) (l5 : SV) (n6 : Int) (ds : Ds) (w : World) : Prop :=
 loopT (fun (J1 : (Int × SV × Int) → World → Prop) (s : Int × SV × Int) (w : World) => F106_2 R J1 s.1 n1 s.2.1 s.2.2 ds w) (n0, l5, n6) w
@[reducible] def F106_4 (R : Rt) (n0 : Int) (n1 : Int) (l5 : SV) (n6 : Int) (ds : Ds) (w : World) : Prop := F106_3 R n0 n1 l5 n6 ds w
def F106_k6 (R : Rt) : EP := (fun ρ ds w => dInt .i64 (ρ 0) fun n0 => dInt .i64 (ρ 1) fun n1 => dSl (ρ 5) fun l5 => dInt .i64 (ρ 6) fun n6 => F106_4 R n0 n1 l5 n6 ds w)
def F106_5 (R : Rt) (n0 : Int) (n1 : Int) (ds : Ds) (w : World) : Prop :=
 F106_4 R n0 n1 ⟨none, 0, 0⟩ 0 ds w
theorem c106_l : flat (bodyOf Tryz.f106) = [c106_0, c106_1, c106_2, c106_3, c106_4, c106_5] := by kernel_rfl
theorem c106_3_l : flat (innerC c106_3) = [c106_3_0] := by kernel_rfl
theorem c106_3_0_l : flat (innerC c106_3_0) = [c106_3_0_0, c106_3_0_1, c106_3_0_2, c106_3_0_3] := by kernel_rfl
theorem F106_1_ok (R : Rt) (l5 : SV) (ds : Ds) (w : World) (ρ : Env) (e5 : ρ 5 = .slice l5.a l5.len l5.cap) (h : F106_1 R l5 ds w) :
    TrL Tryz.prog Tryz.f106.ntmps [c106_4, c106_5] (F106_q1 R) ρ ds w :=
  TrL_leaf (X := F106_1 R l5 ds w) (setAll_cons e5 setAll_nil) (by kernel_rfl) (by kernel_rfl) h
theorem F106_2_ok (R : Rt) (J1 : (Int × SV × Int) → World → Prop) (n0 : Int) (n1 : Int) (l5 : SV) (n6 : Int) (ds : Ds) (w : World) (ρ : Env) (e0 : ρ 0 = .int .i64 n0) (e1 : ρ 1 = .int .i64 n1) (e5 : ρ 5 = .slice l5.a l5.len l5.cap) (e6 : ρ 6 = .int .i64 n6) (h : F106_2 R J1 n0 n1 l5 n6 ds w) :
    TrL Tryz.prog Tryz.f106.ntmps [c106_3_0_0, c106_3_0_1, c106_3_0_2, c106_3_0_3] (F106_q5 R J1) ρ ds w :=
  TrL_leaf (X := F106_2 R J1 n0 n1 l5 n6 ds w) (setAll_cons e0 (setAll_cons e1 (setAll_cons e5 (setAll_cons e6 setAll_nil)))) (by kernel_rfl) (by kernel_rfl) h
theorem F106_3_ok (R : Rt) (n0 : Int) (n1 : Int) (l5 : SV) (n6 : Int) (ds : Ds) (w : World) (ρ : Env) (e0 : ρ 0 = .int .i64 n0) (e1 : ρ 1 = .int .i64 n1) (e5 : ρ 5 = .slice l5.a l5.len l5.cap) (e6 : ρ 6 = .int .i64 n6) (h : F106_3 R n0 n1 l5 n6 ds w) :
    TrL Tryz.prog Tryz.f106.ntmps [c106_3_0] (F106_q4 R) ρ ds w :=
  TrL_one (Tr_loop' (c := innerC c106_3_0) (σ := Int × SV × Int) (enc := (fun (s : Int × SV × Int) (ρ : Env) => ρ 0 = .int .i64 s.1 ∧ ρ 5 = .slice s.2.1.a s.2.1.len s.2.1.cap ∧ ρ 6 = .int .i64 s.2.2)) (D := (fun ρ K => dInt .i64 (ρ 0) fun n0 => dSl (ρ 5) fun l5 => dInt .i64 (ρ 6) fun n6 => K (n0, l5, n6))) (F := (fun (J1 : (Int × SV × Int) → World → Prop) (s : Int × SV × Int) (w : World) => F106_2 R J1 s.1 n1 s.2.1 s.2.2 ds w)) (s0 := (n0, l5, n6)) (by kernel_rfl) c106_3_0_l ⟨e0, e5, e6⟩ (by kernel_rfl) (fun ρ K hD => by obtain ⟨n0, e0, hD⟩ := dInt_elim hD; obtain ⟨l5, e5, hD⟩ := dSl_elim hD; obtain ⟨n6, e6, hD⟩ := dInt_elim hD; exact ⟨(n0, l5, n6), ⟨e0, e5, e6⟩, hD⟩)
      (fun J1 s ρ' w' he ha hF => by
      obtain ⟨e0', e5', e6'⟩ := he
      exact F106_2_ok R J1 s.1 n1 s.2.1 s.2.2 ds w' ρ' e0' ((ha 1 (by kernel_rfl)).trans e1) e5' e6' hF) h)
theorem F106_4_ok (R : Rt) (n0 : Int) (n1 : Int) (l5 : SV) (n6 : Int) (ds : Ds) (w : World) (ρ : Env) (e0 : ρ 0 = .int .i64 n0) (e1 : ρ 1 = .int .i64 n1) (e5 : ρ 5 = .slice l5.a l5.len l5.cap) (e6 : ρ 6 = .int .i64 n6) (h : F106_4 R n0 n1 l5 n6 ds w) :
    TrL Tryz.prog Tryz.f106.ntmps [c106_3, c106_4, c106_5] (F106_q1 R) ρ ds w :=
  TrL_head (K := (F106_k2 R)) (Tr_block' (c := innerC c106_3) (by kernel_rfl) c106_3_l (F106_3_ok R n0 n1 l5 n6 ds w ρ e0 e1 e5 e6 h))
    (fun ρ' ds' w' hD => by
      obtain ⟨l5, e5, hD⟩ := dSl_elim hD; exact F106_1_ok R l5 ds' w' ρ' e5 hD)
theorem F106_5_ok (R : Rt) (n0 : Int) (n1 : Int) (ds : Ds) (w : World) (ρ : Env) (e0 : ρ 0 = .int .i64 n0) (e1 : ρ 1 = .int .i64 n1) (h : F106_5 R n0 n1 ds w) :
    TrL Tryz.prog Tryz.f106.ntmps [c106_0, c106_1, c106_2, c106_3, c106_4, c106_5] (F106_q1 R) ρ ds w :=
  TrL_piece (pre := [c106_0, c106_1, c106_2]) (K := (F106_k6 R)) (X := F106_5 R n0 n1 ds w) (setAll_cons e0 (setAll_cons e1 setAll_nil)) (by kernel_rfl) (by kernel_rfl)
    (fun ρ' ds' w' hD => by
      obtain ⟨n0, e0, hD⟩ := dInt_elim hD; obtain ⟨n1, e1, hD⟩ := dInt_elim hD; obtain ⟨l5, e5, hD⟩ := dSl_elim hD; obtain ⟨n6, e6, hD⟩ := dInt_elim hD; exact F106_4_ok R n0 n1 l5 n6 ds' w' ρ' e0 e1 e5 e6 hD) h
theorem F106_calls (n0 : Int) (n1 : Int) (w : World) (R : Rt) (h : F106_5 R n0 n1 [] w) : Calls Tryz.prog 106 #[.int .i64 n0, .int .i64 n1] w R :=
  calls_of_L (l := [c106_0, c106_1, c106_2, c106_3, c106_4, c106_5]) Tryz.func106 (by kernel_rfl) (by rw [Tryz.ntmps106]; exact Nat.le_of_ble_eq_true (by kernel_rfl)) c106_l
    (F106_5_ok R n0 n1 [] w _ rfl rfl h)
theorem F106_callsD (n0 : Int) (n1 : Int) (w : World) (R : Rt) (u : FrameMode) (h : F106_5 R n0 n1 [] w) : CallsD Tryz.prog 106 #[.int .i64 n0, .int .i64 n1] u w fun e u' w' => u' = u ∧ R e w' :=
  callsD_of_L (l := [c106_0, c106_1, c106_2, c106_3, c106_4, c106_5]) Tryz.func106 (by kernel_rfl) (by rw [Tryz.ntmps106]; exact Nat.le_of_ble_eq_true (by kernel_rfl)) (by kernel_rfl) c106_l
    (F106_5_ok R n0 n1 [] w _ rfl rfl h) u

/-! function 107: cabinetry/cabinetryref03.letter -/
noncomputable def c107_0 : Code := itemAt (flat (bodyOf Tryz.f107)) 0
noncomputable def c107_1 : Code := itemAt (flat (bodyOf Tryz.f107)) 1
noncomputable def c107_2 : Code := itemAt (flat (bodyOf Tryz.f107)) 2
noncomputable def c107_3 : Code := itemAt (flat (bodyOf Tryz.f107)) 3
noncomputable def c107_4 : Code := itemAt (flat (bodyOf Tryz.f107)) 4
def F107_q1 (R : Rt) : EQ := endQ Tryz.prog Tryz.f107.results.toList R
def F107_1 (R : Rt) (n0 : Int) (ds : Ds) (w : World) : Prop :=
 Br (n0 == 1) (
 runD Tryz.prog ds w fun w1 =>
 R (.returned (.int .u8 76)) w1) (
 Br (n0 == 2) (
 runD Tryz.prog ds w fun w2 =>
 R (.returned (.int .u8 78)) w2) (
 Br (n0 == 3) (
 runD Tryz.prog ds w fun w3 =>
 R (.returned (.int .u8 68)) w3) (
 Br (n0 == 4) (
 runD Tryz.prog ds w fun w4 =>
 R (.returned (.int .u8 67)) w4) (
 runD Tryz.prog ds w fun w5 =>
 R (.returned (.int .u8 77)) w5))))
theorem c107_l : flat (bodyOf Tryz.f107) = [c107_0, c107_1, c107_2, c107_3, c107_4] := by kernel_rfl
theorem F107_1_ok (R : Rt) (n0 : Int) (ds : Ds) (w : World) (ρ : Env) (e0 : ρ 0 = .int .i64 n0) (h : F107_1 R n0 ds w) :
    TrL Tryz.prog Tryz.f107.ntmps [c107_0, c107_1, c107_2, c107_3, c107_4] (F107_q1 R) ρ ds w :=
  TrL_leaf (X := F107_1 R n0 ds w) (setAll_cons e0 setAll_nil) (by kernel_rfl) (by kernel_rfl) h
theorem F107_calls (n0 : Int) (w : World) (R : Rt) (h : F107_1 R n0 [] w) : Calls Tryz.prog 107 #[.int .i64 n0] w R :=
  calls_of_L (l := [c107_0, c107_1, c107_2, c107_3, c107_4]) Tryz.func107 (by kernel_rfl) (by rw [Tryz.ntmps107]; exact Nat.le_of_ble_eq_true (by kernel_rfl)) c107_l
    (F107_1_ok R n0 [] w _ rfl h)
theorem F107_callsD (n0 : Int) (w : World) (R : Rt) (u : FrameMode) (h : F107_1 R n0 [] w) : CallsD Tryz.prog 107 #[.int .i64 n0] u w fun e u' w' => u' = u ∧ R e w' :=
  callsD_of_L (l := [c107_0, c107_1, c107_2, c107_3, c107_4]) Tryz.func107 (by kernel_rfl) (by rw [Tryz.ntmps107]; exact Nat.le_of_ble_eq_true (by kernel_rfl)) (by kernel_rfl) c107_l
    (F107_1_ok R n0 [] w _ rfl h) u

end Go.Proofs.YtecmfdfhpldmmaaGreatDoor
