import Derived.Test.YtcnenlmhbpijlaaProg
import Derived.Test.YtcnenlmhbpijlaaShEight
/- Shallow texts of functions, printed by program, each checked by the kernel against the loaded code. No condition. -/
set_option maxRecDepth 100000
set_option linter.unusedVariables false
namespace Go.Proofs.Ytcnenlmhbpijlaa
open Go.Sh
/-! function 7: cabinetry/cabinetrylaw24.LinkPlaces -/
noncomputable def c7_0 : Code := itemAt (flat (bodyOf Try.f7)) 0
noncomputable def c7_1 : Code := itemAt (flat (bodyOf Try.f7)) 1
noncomputable def c7_2 : Code := itemAt (flat (bodyOf Try.f7)) 2
noncomputable def c7_3 : Code := itemAt (flat (bodyOf Try.f7)) 3
noncomputable def c7_4 : Code := itemAt (flat (bodyOf Try.f7)) 4
noncomputable def c7_5 : Code := itemAt (flat (bodyOf Try.f7)) 5
noncomputable def c7_6 : Code := itemAt (flat (bodyOf Try.f7)) 6
def F7_q1 (R : Rt) : EQ := endQ Try.prog Try.f7.results.toList R
def F7_1 (R : Rt) (l0 : SV) (ds : Ds) (w : World) : Prop :=
 Calls Try.prog 14 #[.slice l0.a l0.len l0.cap] w fun e w1 =>
 ∃ b10 : Bool, e = .returned (.bool b10) ∧
 Br b10 (
 Calls Try.prog 16 #[] w1 fun e w2 =>
 ∃ b11 : Bool, e = .returned (.bool b11) ∧
 runD Try.prog ds w2 fun w3 =>
 R (.returned (.bool b11)) w3) (
 Calls Try.prog 26 #[.slice l0.a l0.len l0.cap] w1 fun e w4 =>
 ∃ l14_0 : SV, ∃ l14_1 : SV, ∃ n14_2 : Int, e = .returned (.tuple #[.slice l14_0.a l14_0.len l14_0.cap, .slice l14_1.a l14_1.len l14_1.cap, .int .i64 n14_2]) ∧
 Calls Try.prog 27 #[.slice l0.a l0.len l0.cap] w4 fun e w5 =>
 ∃ l20_0 : SV, ∃ l20_1 : SV, ∃ n20_2 : Int, e = .returned (.tuple #[.slice l20_0.a l20_0.len l20_0.cap, .slice l20_1.a l20_1.len l20_1.cap, .int .i64 n20_2]) ∧
 Calls Try.prog 25 #[.slice l14_0.a l14_0.len l14_0.cap, .slice l20_0.a l20_0.len l20_0.cap] w5 fun e w6 =>
 ∃ b26 : Bool, e = .returned (.bool b26) ∧
 Br b26 (
 Calls Try.prog 28 #[.slice l14_1.a l14_1.len l14_1.cap, .slice l20_1.a l20_1.len l20_1.cap] w6 fun e w7 =>
 ∃ b30 : Bool, e = .returned (.bool b30) ∧
 Br b30 (
 Br (n14_2 == n20_2) (
 Calls Try.prog 16 #[] w7 fun e w8 =>
 ∃ b38 : Bool, e = .returned (.bool b38) ∧
 runD Try.prog ds w8 fun w9 =>
 R (.returned (.bool b38)) w9) (
 runD Try.prog ds w7 fun w10 =>
 R (.returned (.bool false)) w10)) (
 runD Try.prog ds w7 fun w11 =>
 R (.returned (.bool false)) w11)) (
 runD Try.prog ds w6 fun w12 =>
 R (.returned (.bool false)) w12))
theorem c7_l : flat (bodyOf Try.f7) = [c7_0, c7_1, c7_2, c7_3, c7_4, c7_5, c7_6] := by kernel_rfl
theorem F7_1_ok (R : Rt) (l0 : SV) (ds : Ds) (w : World) (ρ : Env) (e0 : ρ 0 = .slice l0.a l0.len l0.cap) (h : F7_1 R l0 ds w) :
    TrL Try.prog Try.f7.ntmps [c7_0, c7_1, c7_2, c7_3, c7_4, c7_5, c7_6] (F7_q1 R) ρ ds w :=
  TrL_leaf (X := F7_1 R l0 ds w) (setAll_cons e0 setAll_nil) (by kernel_rfl) (by kernel_rfl) h
theorem F7_calls (l0 : SV) (w : World) (R : Rt) (h : F7_1 R l0 [] w) : Calls Try.prog 7 #[.slice l0.a l0.len l0.cap] w R :=
  calls_of_L (l := [c7_0, c7_1, c7_2, c7_3, c7_4, c7_5, c7_6]) Try.func7 (by kernel_rfl) (by rw [Try.ntmps7]; exact Nat.le_of_ble_eq_true (by kernel_rfl)) c7_l
    (F7_1_ok R l0 [] w _ rfl h)
theorem F7_callsD (l0 : SV) (w : World) (R : Rt) (u : FrameMode) (h : F7_1 R l0 [] w) : CallsD Try.prog 7 #[.slice l0.a l0.len l0.cap] u w fun e u' w' => u' = u ∧ R e w' :=
  callsD_of_L (l := [c7_0, c7_1, c7_2, c7_3, c7_4, c7_5, c7_6]) Try.func7 (by kernel_rfl) (by rw [Try.ntmps7]; exact Nat.le_of_ble_eq_true (by kernel_rfl)) (by kernel_rfl) c7_l
    (F7_1_ok R l0 [] w _ rfl h) u

/-! function 26: cabinetry/link.Link -/
noncomputable def c26_0 : Code := itemAt (flat (bodyOf Try.f26)) 0
noncomputable def c26_1 : Code := itemAt (flat (bodyOf Try.f26)) 1
noncomputable def c26_2 : Code := itemAt (flat (bodyOf Try.f26)) 2
noncomputable def c26_3 : Code := itemAt (flat (bodyOf Try.f26)) 3
noncomputable def c26_4 : Code := itemAt (flat (bodyOf Try.f26)) 4
noncomputable def c26_5 : Code := itemAt (flat (bodyOf Try.f26)) 5
noncomputable def c26_6 : Code := itemAt (flat (bodyOf Try.f26)) 6
noncomputable def c26_7 : Code := itemAt (flat (bodyOf Try.f26)) 7
noncomputable def c26_8 : Code := itemAt (flat (bodyOf Try.f26)) 8
noncomputable def c26_9 : Code := itemAt (flat (bodyOf Try.f26)) 9
noncomputable def c26_10 : Code := itemAt (flat (bodyOf Try.f26)) 10
noncomputable def c26_11 : Code := itemAt (flat (bodyOf Try.f26)) 11
noncomputable def c26_12 : Code := itemAt (flat (bodyOf Try.f26)) 12
noncomputable def c26_13 : Code := itemAt (flat (bodyOf Try.f26)) 13
noncomputable def c26_11_0 : Code := itemAt (flat (innerC c26_11)) 0
noncomputable def c26_11_0_0 : Code := itemAt (flat (innerC c26_11_0)) 0
noncomputable def c26_11_0_1 : Code := itemAt (flat (innerC c26_11_0)) 1
noncomputable def c26_11_0_2 : Code := itemAt (flat (innerC c26_11_0)) 2
noncomputable def c26_11_0_3 : Code := itemAt (flat (innerC c26_11_0)) 3
noncomputable def c26_11_0_2_0 : Code := itemAt (flat (innerC c26_11_0_2)) 0
noncomputable def c26_11_0_2_1 : Code := itemAt (flat (innerC c26_11_0_2)) 1
noncomputable def c26_11_0_2_2 : Code := itemAt (flat (innerC c26_11_0_2)) 2
noncomputable def c26_11_0_2_2_0 : Code := itemAt (flat (innerC c26_11_0_2_2)) 0
noncomputable def c26_11_0_2_2_0_0 : Code := itemAt (flat (innerC c26_11_0_2_2_0)) 0
noncomputable def c26_11_0_2_2_0_1 : Code := itemAt (flat (innerC c26_11_0_2_2_0)) 1
noncomputable def c26_11_0_2_2_0_2 : Code := itemAt (flat (innerC c26_11_0_2_2_0)) 2
noncomputable def c26_11_0_2_2_0_3 : Code := itemAt (flat (innerC c26_11_0_2_2_0)) 3
noncomputable def c26_7_0 : Code := itemAt (flat (innerC c26_7)) 0
noncomputable def c26_7_0_0 : Code := itemAt (flat (innerC c26_7_0)) 0
noncomputable def c26_7_0_1 : Code := itemAt (flat (innerC c26_7_0)) 1
noncomputable def c26_7_0_2 : Code := itemAt (flat (innerC c26_7_0)) 2
noncomputable def c26_7_0_3 : Code := itemAt (flat (innerC c26_7_0)) 3
def F26_q1 (R : Rt) : EQ := endQ Try.prog Try.f26.results.toList R
def F26_1 (R : Rt) (l10 : SV) (l11 : SV) (ds : Ds) (w : World) : Prop :=
 runD Try.prog ds w fun w1 =>
 R (.returned (.tuple #[.slice l10.a l10.len l10.cap, .slice l11.a l11.len l11.cap, .int .i64 0])) w1
def F26_k2 (R : Rt) : EP := (fun ρ ds w => dSl (ρ 10) fun l10 => dSl (ρ 11) fun l11 => F26_1 R l10 l11 ds w)
def F26_q3 (R : Rt) : EQ := (thenQ (F26_k2 R) (F26_q1 R))
def F26_q4 (R : Rt) : EQ := (blockQ 2 (F26_q3 R))
def F26_q5 (R : Rt) (J1 : (SV × SV × Int) → World → Prop) : EQ := (thenQ (fun ρ _ w => dSl (ρ 10) fun l10 => dSl (ρ 11) fun l11 => dInt .i64 (ρ 36) fun n36 => J1 (l10, l11, n36) w) (F26_q4 R))
def F26_2 (R : Rt) (J1 : (SV × SV × Int) → World → Prop) (p8 : Option Addr) (l10 : SV) (l11 : SV) (l34 : SV) (n35 : Int) (n36 : Int) (ds : Ds) (w : World) : Prop :=
 J1 (l10, l11, (IntKind.i64.wrap (n36 + 1))) w
def F26_k6 (R : Rt) (J1 : (SV × SV × Int) → World → Prop) : EP := (fun ρ ds w => dPtr (ρ 8) fun p8 => dSl (ρ 10) fun l10 => dSl (ρ 11) fun l11 => dSl (ρ 34) fun l34 => dInt .i64 (ρ 35) fun n35 => dInt .i64 (ρ 36) fun n36 => F26_2 R J1 p8 l10 l11 l34 n35 n36 ds w)
def F26_q7 (R : Rt) (J1 : (SV × SV × Int) → World → Prop) : EQ := (thenQ (F26_k6 R J1) (F26_q5 R J1))
def F26_q8 (R : Rt) (J1 : (SV × SV × Int) → World → Prop) : EQ := (blockQ 3 (F26_q7 R J1))
def F26_q9 (R : Rt) (J1 : (SV × SV × Int) → World → Prop) : EQ := (blockQ 4 (F26_q8 R J1))
def F26_q10 (R : Rt) (J1 : (SV × SV × Int) → World → Prop) (J2 : (SV × SV × Int) → World → Prop) : EQ := (thenQ (fun ρ _ w => dSl (ρ 10) fun l10 => dSl (ρ 11) fun l11 => dInt .i64 (ρ 43) fun n43 => J2 (l10, l11, n43) w) (F26_q9 R J1))
def F26_3 (R : Rt) (J1 : (SV × SV × Int) → World → Prop) (J2 : (SV × SV × Int) → World → Prop) (p8 : Option Addr) (l10 : SV) (l11 : SV) (p13 : Option Addr) (l34 : SV) (n35 : Int) (n36 : Int) (l41 : SV) (n42 : Int) (n43 : Int) (ds : Ds) (w : World) : Prop :=
 Br (decide (n43 < n42)) (
 ∃ a2 : Addr, l41.a = some a2 ∧ 0 ≤ n43 ∧ n43 < ((l41.len : Nat) : Int) ∧
 ∃ s47 : ByteArray, w.cell? (a2.add (n43.toNat * 1)) = some (.string s47) ∧
 dwE w fun w3 =>
 ∃ S1 : World → Prop, S1 w3 ∧
 ptrE p13 fun a4 =>
 ∃ n54 : Int, (∀ w', S1 w' → w'.cell? (a4.add 1) = some (.int .i64 n54)) ∧
 ptrE p8 fun a5 =>
 0 ≤ n54 ∧ n54 < ((16 : Nat) : Int) ∧
 ∃ n56 : Int, (∀ w', S1 w' → w'.cell? (a5.add (n54.toNat * 1)) = some (.int .i64 n56)) ∧
 (
 alE (.cells #[.string s47] 9) w3 fun r50 w6 =>
 S1 w6 ∧
 (
 ∃ l51 : SV, ∃ w7 : World, (Builtin.append_ #[23, 23] 23 #[.slice l10.a l10.len l10.cap, .slice (some ⟨r50, 0, none⟩) 1 1]).run Try.prog w6 = .ok (.slice l51.a l51.len l51.cap) w7 ∧
 S1 w7 ∧
 alE (.cells #[.int .i64 n56] 3) w7 fun r57 w8 =>
 ∃ l58 : SV, ∃ w9 : World, (Builtin.append_ #[30, 30] 30 #[.slice l11.a l11.len l11.cap, .slice (some ⟨r57, 0, none⟩) 1 1]).run Try.prog w8 = .ok (.slice l58.a l58.len l58.cap) w9 ∧
 dwE w9 fun w10 =>
 ptrE p13 fun a11 =>
 ∃ n60 : Int, w10.cell? (a11.add 1) = some (.int .i64 n60) ∧
 ptrE p8 fun a12 =>
 0 ≤ n60 ∧ n60 < ((16 : Nat) : Int) ∧
 ∃ n62 : Int, w10.cell? (a12.add (n60.toNat * 1)) = some (.int .i64 n62) ∧
 ptrE p13 fun a13 =>
 ∃ l64 : SV, w10.cell? (a13.add 3) = some (.slice l64.a l64.len l64.cap) ∧
 ∃ a14 : Addr, l64.a = some a14 ∧ 0 ≤ n43 ∧ n43 < ((l64.len : Nat) : Int) ∧
 ∃ n67 : Int, w10.cell? (a14.add (n43.toNat * 1)) = some (.int .i64 n67) ∧
 ptrE p8 fun a15 =>
 0 ≤ n60 ∧ n60 < ((16 : Nat) : Int) ∧
 st1 (a15.add (n60.toNat * 1)) (.int .i64 (IntKind.i64.wrap (n62 + n67))) w10 fun w16 =>
 J2 (l51, l58, (IntKind.i64.wrap (n43 + 1))) w16) ∧ (
 alE (.cells #[.int .i64 n56] 3) w6 fun r57 w17 =>
 ∃ l51 : SV, ∃ w18 : World, (Builtin.append_ #[23, 23] 23 #[.slice l10.a l10.len l10.cap, .slice (some ⟨r50, 0, none⟩) 1 1]).run Try.prog w17 = .ok (.slice l51.a l51.len l51.cap) w18 ∧
 ∃ l58 : SV, ∃ w19 : World, (Builtin.append_ #[30, 30] 30 #[.slice l11.a l11.len l11.cap, .slice (some ⟨r57, 0, none⟩) 1 1]).run Try.prog w18 = .ok (.slice l58.a l58.len l58.cap) w19 ∧
 dwE w19 fun w20 =>
 ptrE p13 fun a21 =>
 ∃ n60 : Int, w20.cell? (a21.add 1) = some (.int .i64 n60) ∧
 ptrE p8 fun a22 =>
 0 ≤ n60 ∧ n60 < ((16 : Nat) : Int) ∧
 ∃ n62 : Int, w20.cell? (a22.add (n60.toNat * 1)) = some (.int .i64 n62) ∧
 ptrE p13 fun a23 =>
 ∃ l64 : SV, w20.cell? (a23.add 3) = some (.slice l64.a l64.len l64.cap) ∧
 ∃ a24 : Addr, l64.a = some a24 ∧ 0 ≤ n43 ∧ n43 < ((l64.len : Nat) : Int) ∧
 ∃ n67 : Int, w20.cell? (a24.add (n43.toNat * 1)) = some (.int .i64 n67) ∧
 ptrE p8 fun a25 =>
 0 ≤ n60 ∧ n60 < ((16 : Nat) : Int) ∧
 st1 (a25.add (n60.toNat * 1)) (.int .i64 (IntKind.i64.wrap (n62 + n67))) w20 fun w26 =>
 J2 (l51, l58, (IntKind.i64.wrap (n43 + 1))) w26)) ∧ (
 alE (.cells #[.int .i64 n56] 3) w3 fun r57 w27 =>
 alE (.cells #[.string s47] 9) w27 fun r50 w28 =>
 ∃ l51 : SV, ∃ w29 : World, (Builtin.append_ #[23, 23] 23 #[.slice l10.a l10.len l10.cap, .slice (some ⟨r50, 0, none⟩) 1 1]).run Try.prog w28 = .ok (.slice l51.a l51.len l51.cap) w29 ∧
 ∃ l58 : SV, ∃ w30 : World, (Builtin.append_ #[30, 30] 30 #[.slice l11.a l11.len l11.cap, .slice (some ⟨r57, 0, none⟩) 1 1]).run Try.prog w29 = .ok (.slice l58.a l58.len l58.cap) w30 ∧
 dwE w30 fun w31 =>
 ptrE p13 fun a32 =>
 ∃ n60 : Int, w31.cell? (a32.add 1) = some (.int .i64 n60) ∧
 ptrE p8 fun a33 =>
 0 ≤ n60 ∧ n60 < ((16 : Nat) : Int) ∧
 ∃ n62 : Int, w31.cell? (a33.add (n60.toNat * 1)) = some (.int .i64 n62) ∧
 ptrE p13 fun a34 =>
 ∃ l64 : SV, w31.cell? (a34.add 3) = some (.slice l64.a l64.len l64.cap) ∧
 ∃ a35 : Addr, l64.a = some a35 ∧ 0 ≤ n43 ∧ n43 < ((l64.len : Nat) : Int) ∧
 ∃ n67 : Int, w31.cell? (a35.add (n43.toNat * 1)) = some (.int .i64 n67) ∧
 ptrE p8 fun a36 =>
 0 ≤ n60 ∧ n60 < ((16 : Nat) : Int) ∧
 st1 (a36.add (n60.toNat * 1)) (.int .i64 (IntKind.i64.wrap (n62 + n67))) w31 fun w37 =>
 J2 (l51, l58, (IntKind.i64.wrap (n43 + 1))) w37)) (
 F26_2 R J1 p8 l10 l11 l34 n35 n36 ds w)
def F26_4 (R : Rt) (J1 : (SV × SV × Int) → World → Prop) (p8 : Option Addr) (l10 : SV) (l11 : SV) (p13 : Option Addr) (l34 : SV) (n35 : Int) (n36 : Int) (l41 : SV) (n42 : Int) (n43 : Int) (ds : Ds) (w : World) : Prop :=
 loopT (fun (J2 : (SV × SV × Int) → World → Prop) (s : SV × SV × Int) (w : World) => F26_3 R J1 J2 p8 s.1 s.2.1 p13 l34 n35 n36 l41 n42 s.2.2 ds w) (l10, l11, n43) w
@[reducible] def F26_5 (R : Rt) (J1 : (SV × SV × Int) → World → Prop) (p8 : Option Addr) (l10 : SV) (l11 : SV) (p13 : Option Addr) (l34 : SV) (n35 : Int) (n36 : Int) (l41 : SV) (n42 : Int) (n43 : Int) (ds : Ds) (w : World) : Prop := F26_4 R J1 p8 l10 l11 p13 l34 n35 n36 l41 n42 n43 ds w
def F26_k11 (R : Rt) (J1 : (SV × SV × Int) → World → Prop) : EP := (fun ρ ds w => dPtr (ρ 8) fun p8 => dSl (ρ 10) fun l10 => dSl (ρ 11) fun l11 => dPtr (ρ 13) fun p13 => dSl (ρ 34) fun l34 => dInt .i64 (ρ 35) fun n35 => dInt .i64 (ρ 36) fun n36 => dSl (ρ 41) fun l41 => dInt .i64 (ρ 42) fun n42 => dInt .i64 (ρ 43) fun n43 => F26_5 R J1 p8 l10 l11 p13 l34 n35 n36 l41 n42 n43 ds w)
def F26_6 (R : Rt) (J1 : (SV × SV × Int) → World → Prop) (p8 : Option Addr) (l10 : SV) (l11 : SV) (l34 : SV) (n35 : Int) (n36 : Int) (ds : Ds) (w : World) : Prop :=
 ∃ a38 : Addr, l34.a = some a38 ∧ 0 ≤ n36 ∧ n36 < ((l34.len : Nat) : Int) ∧
 ∃ s39_0 : ByteArray, w.cell? ((a38.add (n36.toNat * 5)).add 0) = some (.string s39_0) ∧
 ∃ n39_1 : Int, w.cell? ((a38.add (n36.toNat * 5)).add 1) = some (.int .i64 n39_1) ∧
 ∃ l39_2 : SV, w.cell? ((a38.add (n36.toNat * 5)).add 2) = some (.slice l39_2.a l39_2.len l39_2.cap) ∧
 ∃ l39_3 : SV, w.cell? ((a38.add (n36.toNat * 5)).add 3) = some (.slice l39_3.a l39_3.len l39_3.cap) ∧
 ∃ l39_4 : SV, w.cell? ((a38.add (n36.toNat * 5)).add 4) = some (.slice l39_4.a l39_4.len l39_4.cap) ∧
 alE (.cells #[.string (⟨#[]⟩ : ByteArray), .int .i64 0, .slice none 0 0, .slice none 0 0, .slice none 0 0] 33) w fun r13 w39 =>
 stA Try.prog 33 (⟨r13, 0, none⟩ : Addr) #[.string s39_0, .int .i64 n39_1, .slice l39_2.a l39_2.len l39_2.cap, .slice l39_3.a l39_3.len l39_3.cap, .slice l39_4.a l39_4.len l39_4.cap] w39 fun w40 =>
 ∃ l41 : SV, w40.cell? ((⟨r13, 0, none⟩ : Addr).add 2) = some (.slice l41.a l41.len l41.cap) ∧
 F26_5 R J1 p8 l10 l11 (some (⟨r13, 0, none⟩ : Addr)) l34 n35 n36 l41 ((l41.len : Nat) : Int) 0 ds w40
@[reducible] def F26_7 (R : Rt) (J1 : (SV × SV × Int) → World → Prop) (p8 : Option Addr) (l10 : SV) (l11 : SV) (l34 : SV) (n35 : Int) (n36 : Int) (ds : Ds) (w : World) : Prop := F26_6 R J1 p8 l10 l11 l34 n35 n36 ds w
def F26_k12 (R : Rt) (J1 : (SV × SV × Int) → World → Prop) : EP := (fun ρ ds w => dPtr (ρ 8) fun p8 => dSl (ρ 10) fun l10 => dSl (ρ 11) fun l11 => dSl (ρ 34) fun l34 => dInt .i64 (ρ 35) fun n35 => dInt .i64 (ρ 36) fun n36 => F26_7 R J1 p8 l10 l11 l34 n35 n36 ds w)
def F26_8 (R : Rt) (J1 : (SV × SV × Int) → World → Prop) (p8 : Option Addr) (l10 : SV) (l11 : SV) (l34 : SV) (n35 : Int) (n36 : Int) (ds : Ds) (w : World) : Prop :=
 Br (decide (n36 < n35)) (
 F26_7 R J1 p8 l10 l11 l34 n35 n36 ds w) (
 F26_1 R l10 l11 ds w)
def F26_9 (R : Rt) (p8 : Option Addr) (l10 : SV) (l11 : SV) (l34 : SV) (n35 : Int) (n36 : Int) (ds : Ds) (w : World) : Prop :=
 loopT (fun (J1 : (SV × SV × Int) → World → Prop) (s : SV × SV × Int) (w : World) => F26_8 R J1 p8 s.1 s.2.1 l34 n35 s.2.2 ds w) (l10, l11, n36) w
@[reducible] def F26_10 (R : Rt) (p8 : Option Addr) (l10 : SV) (l11 : SV) (l34 : SV) (n35 : Int) (n36 : Int) (ds : Ds) (w : World) : Prop := F26_9 R p8 l10 l11 l34 n35 n36 ds w
def F26_k13 (R : Rt) : EP := (fun ρ ds w => dPtr (ρ 8) fun p8 => dSl (ρ 10) fun l10 => dSl (ρ 11) fun l11 => dSl (ρ 34) fun l34 => dInt .i64 (ρ 35) fun n35 => dInt .i64 (ρ 36) fun n36 => F26_10 R p8 l10 l11 l34 n35 n36 ds w)
def F26_11 (R : Rt) (l0 : SV) (p8 : Option Addr) (ds : Ds) (w : World) : Prop :=
 F26_10 R p8 ⟨none, 0, 0⟩ ⟨none, 0, 0⟩ l0 ((l0.len : Nat) : Int) 0 ds w
def F26_k14 (R : Rt) : EP := (fun ρ ds w => dSl (ρ 0) fun l0 => dPtr (ρ 8) fun p8 => F26_11 R l0 p8 ds w)
def F26_q15 (R : Rt) : EQ := (thenQ (F26_k14 R) (F26_q1 R))
def F26_q16 (R : Rt) : EQ := (blockQ 0 (F26_q15 R))
def F26_q17 (R : Rt) (J1 : (Int) → World → Prop) : EQ := (thenQ (fun ρ _ w => dInt .i64 (ρ 9) fun n9 => J1 n9 w) (F26_q16 R))
def F26_12 (R : Rt) (J1 : (Int) → World → Prop) (l0 : SV) (n7 : Int) (p8 : Option Addr) (n9 : Int) (ds : Ds) (w : World) : Prop :=
 Br (decide (n9 ≤ 15)) (
 ptrE p8 fun a41 =>
 0 ≤ n9 ∧ n9 < ((16 : Nat) : Int) ∧
 st1 (a41.add (n9.toNat * 1)) (.int .i64 n7) w fun w42 =>
 J1 (IntKind.i64.wrap (n9 + 1)) w42) (
 F26_11 R l0 p8 ds w)
def F26_13 (R : Rt) (l0 : SV) (n7 : Int) (p8 : Option Addr) (n9 : Int) (ds : Ds) (w : World) : Prop :=
 loopT (fun (J1 : (Int) → World → Prop) (s : Int) (w : World) => F26_12 R J1 l0 n7 p8 s ds w) n9 w
@[reducible] def F26_14 (R : Rt) (l0 : SV) (n7 : Int) (p8 : Option Addr) (n9 : Int) (ds : Ds) (w : World) : Prop := F26_13 R l0 n7 p8 n9 ds w
def F26_k18 (R : Rt) : EP := (fun ρ ds w => dSl (ρ 0) fun l0 => dInt .i64 (ρ 7) fun n7 => dPtr (ρ 8) fun p8 => dInt .i64 (ρ 9) fun n9 => F26_14 R l0 n7 p8 n9 ds w)
def F26_15 (R : Rt) (l0 : SV) (ds : Ds) (w : World) : Prop :=
 Calls Try.prog 62 #[.slice l0.a l0.len l0.cap] w fun e w43 =>
 ∃ m18_0 : Option Nat, ∃ n18_1 : Int, e = .returned (.tuple #[.map m18_0, .int .i64 n18_1]) ∧
 Br (n18_1 != 0) (
 runD Try.prog ds w43 fun w44 =>
 R (.returned (.tuple #[.slice none 0 0, .slice none 0 0, .int .i64 n18_1])) w44) (
 Calls Try.prog 56 #[.slice l0.a l0.len l0.cap] w43 fun e w45 =>
 ∃ n25_0 : Int, ∃ n25_1 : Int, ∃ n25_2 : Int, ∃ n25_3 : Int, ∃ n25_4 : Int, ∃ n25_5 : Int, ∃ n25_6 : Int, ∃ n25_7 : Int, ∃ n25_8 : Int, ∃ n25_9 : Int, ∃ n25_10 : Int, ∃ n25_11 : Int, ∃ n25_12 : Int, ∃ n25_13 : Int, ∃ n25_14 : Int, ∃ n25_15 : Int, e = .returned (.agg #[.int .i64 n25_0, .int .i64 n25_1, .int .i64 n25_2, .int .i64 n25_3, .int .i64 n25_4, .int .i64 n25_5, .int .i64 n25_6, .int .i64 n25_7, .int .i64 n25_8, .int .i64 n25_9, .int .i64 n25_10, .int .i64 n25_11, .int .i64 n25_12, .int .i64 n25_13, .int .i64 n25_14, .int .i64 n25_15]) ∧
 ∃ n26 : Int, ∃ w46 : World, (Instr.index 77 (.agg #[.int .i64 n25_0, .int .i64 n25_1, .int .i64 n25_2, .int .i64 n25_3, .int .i64 n25_4, .int .i64 n25_5, .int .i64 n25_6, .int .i64 n25_7, .int .i64 n25_8, .int .i64 n25_9, .int .i64 n25_10, .int .i64 n25_11, .int .i64 n25_12, .int .i64 n25_13, .int .i64 n25_14, .int .i64 n25_15]) (.int .i64 0)).run Try.prog w45 = .ok (.int .i64 n26) w46 ∧
 alE (.cells #[.int .i64 0, .int .i64 0, .int .i64 0, .int .i64 0, .int .i64 0, .int .i64 0, .int .i64 0, .int .i64 0, .int .i64 0, .int .i64 0, .int .i64 0, .int .i64 0, .int .i64 0, .int .i64 0, .int .i64 0, .int .i64 0] 77) w46 fun r8 w47 =>
 F26_14 R l0 n26 (some (⟨r8, 0, none⟩ : Addr)) 1 ds w47)
theorem c26_l : flat (bodyOf Try.f26) = [c26_0, c26_1, c26_2, c26_3, c26_4, c26_5, c26_6, c26_7, c26_8, c26_9, c26_10, c26_11, c26_12, c26_13] := by kernel_rfl
theorem c26_11_l : flat (innerC c26_11) = [c26_11_0] := by kernel_rfl
theorem c26_11_0_l : flat (innerC c26_11_0) = [c26_11_0_0, c26_11_0_1, c26_11_0_2, c26_11_0_3] := by kernel_rfl
theorem c26_11_0_2_l : flat (innerC c26_11_0_2) = [c26_11_0_2_0, c26_11_0_2_1, c26_11_0_2_2] := by kernel_rfl
theorem c26_11_0_2_2_l : flat (innerC c26_11_0_2_2) = [c26_11_0_2_2_0] := by kernel_rfl
theorem c26_11_0_2_2_0_l : flat (innerC c26_11_0_2_2_0) = [c26_11_0_2_2_0_0, c26_11_0_2_2_0_1, c26_11_0_2_2_0_2, c26_11_0_2_2_0_3] := by kernel_rfl
theorem c26_7_l : flat (innerC c26_7) = [c26_7_0] := by kernel_rfl
theorem c26_7_0_l : flat (innerC c26_7_0) = [c26_7_0_0, c26_7_0_1, c26_7_0_2, c26_7_0_3] := by kernel_rfl
theorem F26_1_ok (R : Rt) (l10 : SV) (l11 : SV) (ds : Ds) (w : World) (ρ : Env) (e10 : ρ 10 = .slice l10.a l10.len l10.cap) (e11 : ρ 11 = .slice l11.a l11.len l11.cap) (h : F26_1 R l10 l11 ds w) :
    TrL Try.prog Try.f26.ntmps [c26_12, c26_13] (F26_q1 R) ρ ds w :=
  TrL_leaf (X := F26_1 R l10 l11 ds w) (setAll_cons e10 (setAll_cons e11 setAll_nil)) (by kernel_rfl) (by kernel_rfl) h
theorem F26_2_ok (R : Rt) (J1 : (SV × SV × Int) → World → Prop) (p8 : Option Addr) (l10 : SV) (l11 : SV) (l34 : SV) (n35 : Int) (n36 : Int) (ds : Ds) (w : World) (ρ : Env) (e8 : ρ 8 = .pointer p8) (e10 : ρ 10 = .slice l10.a l10.len l10.cap) (e11 : ρ 11 = .slice l11.a l11.len l11.cap) (e34 : ρ 34 = .slice l34.a l34.len l34.cap) (e35 : ρ 35 = .int .i64 n35) (e36 : ρ 36 = .int .i64 n36) (h : F26_2 R J1 p8 l10 l11 l34 n35 n36 ds w) :
    TrL Try.prog Try.f26.ntmps [c26_11_0_3] (F26_q5 R J1) ρ ds w :=
  TrL_leaf (X := F26_2 R J1 p8 l10 l11 l34 n35 n36 ds w) (setAll_cons e8 (setAll_cons e10 (setAll_cons e11 (setAll_cons e34 (setAll_cons e35 (setAll_cons e36 setAll_nil)))))) (by kernel_rfl) (by kernel_rfl) h
theorem F26_3_ok (R : Rt) (J1 : (SV × SV × Int) → World → Prop) (J2 : (SV × SV × Int) → World → Prop) (p8 : Option Addr) (l10 : SV) (l11 : SV) (p13 : Option Addr) (l34 : SV) (n35 : Int) (n36 : Int) (l41 : SV) (n42 : Int) (n43 : Int) (ds : Ds) (w : World) (ρ : Env) (e8 : ρ 8 = .pointer p8) (e10 : ρ 10 = .slice l10.a l10.len l10.cap) (e11 : ρ 11 = .slice l11.a l11.len l11.cap) (e13 : ρ 13 = .pointer p13) (e34 : ρ 34 = .slice l34.a l34.len l34.cap) (e35 : ρ 35 = .int .i64 n35) (e36 : ρ 36 = .int .i64 n36) (e41 : ρ 41 = .slice l41.a l41.len l41.cap) (e42 : ρ 42 = .int .i64 n42) (e43 : ρ 43 = .int .i64 n43) (h : F26_3 R J1 J2 p8 l10 l11 p13 l34 n35 n36 l41 n42 n43 ds w) :
    TrL Try.prog Try.f26.ntmps [c26_11_0_2_2_0_0, c26_11_0_2_2_0_1, c26_11_0_2_2_0_2, c26_11_0_2_2_0_3] (F26_q10 R J1 J2) ρ ds w :=
  TrL_leaf (X := F26_3 R J1 J2 p8 l10 l11 p13 l34 n35 n36 l41 n42 n43 ds w) (setAll_cons e8 (setAll_cons e10 (setAll_cons e11 (setAll_cons e13 (setAll_cons e34 (setAll_cons e35 (setAll_cons e36 (setAll_cons e41 (setAll_cons e42 (setAll_cons e43 setAll_nil)))))))))) (by kernel_rfl) (by kernel_rfl) h
theorem F26_4_ok (R : Rt) (J1 : (SV × SV × Int) → World → Prop) (p8 : Option Addr) (l10 : SV) (l11 : SV) (p13 : Option Addr) (l34 : SV) (n35 : Int) (n36 : Int) (l41 : SV) (n42 : Int) (n43 : Int) (ds : Ds) (w : World) (ρ : Env) (e8 : ρ 8 = .pointer p8) (e10 : ρ 10 = .slice l10.a l10.len l10.cap) (e11 : ρ 11 = .slice l11.a l11.len l11.cap) (e13 : ρ 13 = .pointer p13) (e34 : ρ 34 = .slice l34.a l34.len l34.cap) (e35 : ρ 35 = .int .i64 n35) (e36 : ρ 36 = .int .i64 n36) (e41 : ρ 41 = .slice l41.a l41.len l41.cap) (e42 : ρ 42 = .int .i64 n42) (e43 : ρ 43 = .int .i64 n43) (h : F26_4 R J1 p8 l10 l11 p13 l34 n35 n36 l41 n42 n43 ds w) :
    TrL Try.prog Try.f26.ntmps [c26_11_0_2_2_0] (F26_q9 R J1) ρ ds w :=
  TrL_one (Tr_loop' (c := innerC c26_11_0_2_2_0) (σ := SV × SV × Int) (enc := (fun (s : SV × SV × Int) (ρ : Env) => ρ 10 = .slice s.1.a s.1.len s.1.cap ∧ ρ 11 = .slice s.2.1.a s.2.1.len s.2.1.cap ∧ ρ 43 = .int .i64 s.2.2)) (D := (fun ρ K => dSl (ρ 10) fun l10 => dSl (ρ 11) fun l11 => dInt .i64 (ρ 43) fun n43 => K (l10, l11, n43))) (F := (fun (J2 : (SV × SV × Int) → World → Prop) (s : SV × SV × Int) (w : World) => F26_3 R J1 J2 p8 s.1 s.2.1 p13 l34 n35 n36 l41 n42 s.2.2 ds w)) (s0 := (l10, l11, n43)) (by kernel_rfl) c26_11_0_2_2_0_l ⟨e10, e11, e43⟩ (by kernel_rfl) (fun ρ K hD => by obtain ⟨l10, e10, hD⟩ := dSl_elim hD; obtain ⟨l11, e11, hD⟩ := dSl_elim hD; obtain ⟨n43, e43, hD⟩ := dInt_elim hD; exact ⟨(l10, l11, n43), ⟨e10, e11, e43⟩, hD⟩)
      (fun J2 s ρ' w' he ha hF => by
      obtain ⟨e10', e11', e43'⟩ := he
      exact F26_3_ok R J1 J2 p8 s.1 s.2.1 p13 l34 n35 n36 l41 n42 s.2.2 ds w' ρ' ((ha 8 (by kernel_rfl)).trans e8) e10' e11' ((ha 13 (by kernel_rfl)).trans e13) ((ha 34 (by kernel_rfl)).trans e34) ((ha 35 (by kernel_rfl)).trans e35) ((ha 36 (by kernel_rfl)).trans e36) ((ha 41 (by kernel_rfl)).trans e41) ((ha 42 (by kernel_rfl)).trans e42) e43' hF) h)
theorem F26_5_ok (R : Rt) (J1 : (SV × SV × Int) → World → Prop) (p8 : Option Addr) (l10 : SV) (l11 : SV) (p13 : Option Addr) (l34 : SV) (n35 : Int) (n36 : Int) (l41 : SV) (n42 : Int) (n43 : Int) (ds : Ds) (w : World) (ρ : Env) (e8 : ρ 8 = .pointer p8) (e10 : ρ 10 = .slice l10.a l10.len l10.cap) (e11 : ρ 11 = .slice l11.a l11.len l11.cap) (e13 : ρ 13 = .pointer p13) (e34 : ρ 34 = .slice l34.a l34.len l34.cap) (e35 : ρ 35 = .int .i64 n35) (e36 : ρ 36 = .int .i64 n36) (e41 : ρ 41 = .slice l41.a l41.len l41.cap) (e42 : ρ 42 = .int .i64 n42) (e43 : ρ 43 = .int .i64 n43) (h : F26_5 R J1 p8 l10 l11 p13 l34 n35 n36 l41 n42 n43 ds w) :
    TrL Try.prog Try.f26.ntmps [c26_11_0_2_2] (F26_q8 R J1) ρ ds w :=
  TrL_one (Tr_block' (c := innerC c26_11_0_2_2) (by kernel_rfl) c26_11_0_2_2_l (F26_4_ok R J1 p8 l10 l11 p13 l34 n35 n36 l41 n42 n43 ds w ρ e8 e10 e11 e13 e34 e35 e36 e41 e42 e43 h))
theorem F26_6_ok (R : Rt) (J1 : (SV × SV × Int) → World → Prop) (p8 : Option Addr) (l10 : SV) (l11 : SV) (l34 : SV) (n35 : Int) (n36 : Int) (ds : Ds) (w : World) (ρ : Env) (e8 : ρ 8 = .pointer p8) (e10 : ρ 10 = .slice l10.a l10.len l10.cap) (e11 : ρ 11 = .slice l11.a l11.len l11.cap) (e34 : ρ 34 = .slice l34.a l34.len l34.cap) (e35 : ρ 35 = .int .i64 n35) (e36 : ρ 36 = .int .i64 n36) (h : F26_6 R J1 p8 l10 l11 l34 n35 n36 ds w) :
    TrL Try.prog Try.f26.ntmps [c26_11_0_2_0, c26_11_0_2_1, c26_11_0_2_2] (F26_q8 R J1) ρ ds w :=
  TrL_piece (pre := [c26_11_0_2_0, c26_11_0_2_1]) (K := (F26_k11 R J1)) (X := F26_6 R J1 p8 l10 l11 l34 n35 n36 ds w) (setAll_cons e8 (setAll_cons e10 (setAll_cons e11 (setAll_cons e34 (setAll_cons e35 (setAll_cons e36 setAll_nil)))))) (by kernel_rfl) (by kernel_rfl)
    (fun ρ' ds' w' hD => by
      obtain ⟨p8, e8, hD⟩ := dPtr_elim hD; obtain ⟨l10, e10, hD⟩ := dSl_elim hD; obtain ⟨l11, e11, hD⟩ := dSl_elim hD; obtain ⟨p13, e13, hD⟩ := dPtr_elim hD; obtain ⟨l34, e34, hD⟩ := dSl_elim hD; obtain ⟨n35, e35, hD⟩ := dInt_elim hD; obtain ⟨n36, e36, hD⟩ := dInt_elim hD; obtain ⟨l41, e41, hD⟩ := dSl_elim hD; obtain ⟨n42, e42, hD⟩ := dInt_elim hD; obtain ⟨n43, e43, hD⟩ := dInt_elim hD; exact F26_5_ok R J1 p8 l10 l11 p13 l34 n35 n36 l41 n42 n43 ds' w' ρ' e8 e10 e11 e13 e34 e35 e36 e41 e42 e43 hD) h
theorem F26_7_ok (R : Rt) (J1 : (SV × SV × Int) → World → Prop) (p8 : Option Addr) (l10 : SV) (l11 : SV) (l34 : SV) (n35 : Int) (n36 : Int) (ds : Ds) (w : World) (ρ : Env) (e8 : ρ 8 = .pointer p8) (e10 : ρ 10 = .slice l10.a l10.len l10.cap) (e11 : ρ 11 = .slice l11.a l11.len l11.cap) (e34 : ρ 34 = .slice l34.a l34.len l34.cap) (e35 : ρ 35 = .int .i64 n35) (e36 : ρ 36 = .int .i64 n36) (h : F26_7 R J1 p8 l10 l11 l34 n35 n36 ds w) :
    TrL Try.prog Try.f26.ntmps [c26_11_0_2, c26_11_0_3] (F26_q5 R J1) ρ ds w :=
  TrL_head (K := (F26_k6 R J1)) (Tr_block' (c := innerC c26_11_0_2) (by kernel_rfl) c26_11_0_2_l (F26_6_ok R J1 p8 l10 l11 l34 n35 n36 ds w ρ e8 e10 e11 e34 e35 e36 h))
    (fun ρ' ds' w' hD => by
      obtain ⟨p8, e8, hD⟩ := dPtr_elim hD; obtain ⟨l10, e10, hD⟩ := dSl_elim hD; obtain ⟨l11, e11, hD⟩ := dSl_elim hD; obtain ⟨l34, e34, hD⟩ := dSl_elim hD; obtain ⟨n35, e35, hD⟩ := dInt_elim hD; obtain ⟨n36, e36, hD⟩ := dInt_elim hD; exact F26_2_ok R J1 p8 l10 l11 l34 n35 n36 ds' w' ρ' e8 e10 e11 e34 e35 e36 hD)
theorem F26_8_ok (R : Rt) (J1 : (SV × SV × Int) → World → Prop) (p8 : Option Addr) (l10 : SV) (l11 : SV) (l34 : SV) (n35 : Int) (n36 : Int) (ds : Ds) (w : World) (ρ : Env) (e8 : ρ 8 = .pointer p8) (e10 : ρ 10 = .slice l10.a l10.len l10.cap) (e11 : ρ 11 = .slice l11.a l11.len l11.cap) (e34 : ρ 34 = .slice l34.a l34.len l34.cap) (e35 : ρ 35 = .int .i64 n35) (e36 : ρ 36 = .int .i64 n36) (h : F26_8 R J1 p8 l10 l11 l34 n35 n36 ds w) :
    TrL Try.prog Try.f26.ntmps [c26_11_0_0, c26_11_0_1, c26_11_0_2, c26_11_0_3] (F26_q5 R J1) ρ ds w :=
  TrL_piece (pre := [c26_11_0_0, c26_11_0_1]) (K := (F26_k12 R J1)) (X := F26_8 R J1 p8 l10 l11 l34 n35 n36 ds w) (setAll_cons e8 (setAll_cons e10 (setAll_cons e11 (setAll_cons e34 (setAll_cons e35 (setAll_cons e36 setAll_nil)))))) (by kernel_rfl) (by kernel_rfl)
    (fun ρ' ds' w' hD => by
      obtain ⟨p8, e8, hD⟩ := dPtr_elim hD; obtain ⟨l10, e10, hD⟩ := dSl_elim hD; obtain ⟨l11, e11, hD⟩ := dSl_elim hD; obtain ⟨l34, e34, hD⟩ := dSl_elim hD; obtain ⟨n35, e35, hD⟩ := dInt_elim hD; obtain ⟨n36, e36, hD⟩ := dInt_elim hD; exact F26_7_ok R J1 p8 l10 l11 l34 n35 n36 ds' w' ρ' e8 e10 e11 e34 e35 e36 hD) h
theorem F26_9_ok (R : Rt) (p8 : Option Addr) (l10 : SV) (l11 : SV) (l34 : SV) (n35 : Int) (n36 : Int) (ds : Ds) (w : World) (ρ : Env) (e8 : ρ 8 = .pointer p8) (e10 : ρ 10 = .slice l10.a l10.len l10.cap) (e11 : ρ 11 = .slice l11.a l11.len l11.cap) (e34 : ρ 34 = .slice l34.a l34.len l34.cap) (e35 : ρ 35 = .int .i64 n35) (e36 : ρ 36 = .int .i64 n36) (h : F26_9 R p8 l10 l11 l34 n35 n36 ds w) :
    TrL Try.prog Try.f26.ntmps [c26_11_0] (F26_q4 R) ρ ds w :=
  TrL_one (Tr_loop' (c := innerC c26_11_0) (σ := SV × SV × Int) (enc := (fun (s : SV × SV × Int) (ρ : Env) => ρ 10 = .slice s.1.a s.1.len s.1.cap ∧ ρ 11 = .slice s.2.1.a s.2.1.len s.2.1.cap ∧ ρ 36 = .int .i64 s.2.2)) (D := (fun ρ K => dSl (ρ 10) fun l10 => dSl (ρ 11) fun l11 => dInt .i64 (ρ 36) fun n36 => K (l10, l11, n36))) (F := (fun (J1 : (SV × SV × Int) → World → Prop) (s : SV × SV × Int) (w : World) => F26_8 R J1 p8 s.1 s.2.1 l34 n35 s.2.2 ds w)) (s0 := (l10, l11, n36)) (by kernel_rfl) c26_11_0_l ⟨e10, e11, e36⟩ (by kernel_rfl) (fun ρ K hD => by obtain ⟨l10, e10, hD⟩ := dSl_elim hD; obtain ⟨l11, e11, hD⟩ := dSl_elim hD; obtain ⟨n36, e36, hD⟩ := dInt_elim hD; exact ⟨(l10, l11, n36), ⟨e10, e11, e36⟩, hD⟩)
      (fun J1 s ρ' w' he ha hF => by
      obtain ⟨e10', e11', e36'⟩ := he
      exact F26_8_ok R J1 p8 s.1 s.2.1 l34 n35 s.2.2 ds w' ρ' ((ha 8 (by kernel_rfl)).trans e8) e10' e11' ((ha 34 (by kernel_rfl)).trans e34) ((ha 35 (by kernel_rfl)).trans e35) e36' hF) h)
theorem F26_10_ok (R : Rt) (p8 : Option Addr) (l10 : SV) (l11 : SV) (l34 : SV) (n35 : Int) (n36 : Int) (ds : Ds) (w : World) (ρ : Env) (e8 : ρ 8 = .pointer p8) (e10 : ρ 10 = .slice l10.a l10.len l10.cap) (e11 : ρ 11 = .slice l11.a l11.len l11.cap) (e34 : ρ 34 = .slice l34.a l34.len l34.cap) (e35 : ρ 35 = .int .i64 n35) (e36 : ρ 36 = .int .i64 n36) (h : F26_10 R p8 l10 l11 l34 n35 n36 ds w) :
    TrL Try.prog Try.f26.ntmps [c26_11, c26_12, c26_13] (F26_q1 R) ρ ds w :=
  TrL_head (K := (F26_k2 R)) (Tr_block' (c := innerC c26_11) (by kernel_rfl) c26_11_l (F26_9_ok R p8 l10 l11 l34 n35 n36 ds w ρ e8 e10 e11 e34 e35 e36 h))
    (fun ρ' ds' w' hD => by
      obtain ⟨l10, e10, hD⟩ := dSl_elim hD; obtain ⟨l11, e11, hD⟩ := dSl_elim hD; exact F26_1_ok R l10 l11 ds' w' ρ' e10 e11 hD)
theorem F26_11_ok (R : Rt) (l0 : SV) (p8 : Option Addr) (ds : Ds) (w : World) (ρ : Env) (e0 : ρ 0 = .slice l0.a l0.len l0.cap) (e8 : ρ 8 = .pointer p8) (h : F26_11 R l0 p8 ds w) :
    TrL Try.prog Try.f26.ntmps [c26_8, c26_9, c26_10, c26_11, c26_12, c26_13] (F26_q1 R) ρ ds w :=
  TrL_piece (pre := [c26_8, c26_9, c26_10]) (K := (F26_k13 R)) (X := F26_11 R l0 p8 ds w) (setAll_cons e0 (setAll_cons e8 setAll_nil)) (by kernel_rfl) (by kernel_rfl)
    (fun ρ' ds' w' hD => by
      obtain ⟨p8, e8, hD⟩ := dPtr_elim hD; obtain ⟨l10, e10, hD⟩ := dSl_elim hD; obtain ⟨l11, e11, hD⟩ := dSl_elim hD; obtain ⟨l34, e34, hD⟩ := dSl_elim hD; obtain ⟨n35, e35, hD⟩ := dInt_elim hD; obtain ⟨n36, e36, hD⟩ := dInt_elim hD; exact F26_10_ok R p8 l10 l11 l34 n35 n36 ds' w' ρ' e8 e10 e11 e34 e35 e36 hD) h
theorem F26_12_ok (R : Rt) (J1 : (Int) → World → Prop) (l0 : SV) (n7 : Int) (p8 : Option Addr) (n9 : Int) (ds : Ds) (w : World) (ρ : Env) (e0 : ρ 0 = .slice l0.a l0.len l0.cap) (e7 : ρ 7 = .int .i64 n7) (e8 : ρ 8 = .pointer p8) (e9 : ρ 9 = .int .i64 n9) (h : F26_12 R J1 l0 n7 p8 n9 ds w) :
    TrL Try.prog Try.f26.ntmps [c26_7_0_0, c26_7_0_1, c26_7_0_2, c26_7_0_3] (F26_q17 R J1) ρ ds w :=
  TrL_leaf (X := F26_12 R J1 l0 n7 p8 n9 ds w) (setAll_cons e0 (setAll_cons e7 (setAll_cons e8 (setAll_cons e9 setAll_nil)))) (by kernel_rfl) (by kernel_rfl) h
theorem F26_13_ok (R : Rt) (l0 : SV) (n7 : Int) (p8 : Option Addr) (n9 : Int) (ds : Ds) (w : World) (ρ : Env) (e0 : ρ 0 = .slice l0.a l0.len l0.cap) (e7 : ρ 7 = .int .i64 n7) (e8 : ρ 8 = .pointer p8) (e9 : ρ 9 = .int .i64 n9) (h : F26_13 R l0 n7 p8 n9 ds w) :
    TrL Try.prog Try.f26.ntmps [c26_7_0] (F26_q16 R) ρ ds w :=
  TrL_one (Tr_loop' (c := innerC c26_7_0) (σ := Int) (enc := (fun (s : Int) (ρ : Env) => ρ 9 = .int .i64 s)) (D := (fun ρ K => dInt .i64 (ρ 9) fun n9 => K n9)) (F := (fun (J1 : (Int) → World → Prop) (s : Int) (w : World) => F26_12 R J1 l0 n7 p8 s ds w)) (s0 := n9) (by kernel_rfl) c26_7_0_l e9 (by kernel_rfl) (fun ρ K hD => by obtain ⟨n9, e9, hD⟩ := dInt_elim hD; exact ⟨n9, e9, hD⟩)
      (fun J1 s ρ' w' he ha hF => by
      have e9' := he
      exact F26_12_ok R J1 l0 n7 p8 s ds w' ρ' ((ha 0 (by kernel_rfl)).trans e0) ((ha 7 (by kernel_rfl)).trans e7) ((ha 8 (by kernel_rfl)).trans e8) e9' hF) h)
theorem F26_14_ok (R : Rt) (l0 : SV) (n7 : Int) (p8 : Option Addr) (n9 : Int) (ds : Ds) (w : World) (ρ : Env) (e0 : ρ 0 = .slice l0.a l0.len l0.cap) (e7 : ρ 7 = .int .i64 n7) (e8 : ρ 8 = .pointer p8) (e9 : ρ 9 = .int .i64 n9) (h : F26_14 R l0 n7 p8 n9 ds w) :
    TrL Try.prog Try.f26.ntmps [c26_7, c26_8, c26_9, c26_10, c26_11, c26_12, c26_13] (F26_q1 R) ρ ds w :=
  TrL_head (K := (F26_k14 R)) (Tr_block' (c := innerC c26_7) (by kernel_rfl) c26_7_l (F26_13_ok R l0 n7 p8 n9 ds w ρ e0 e7 e8 e9 h))
    (fun ρ' ds' w' hD => by
      obtain ⟨l0, e0, hD⟩ := dSl_elim hD; obtain ⟨p8, e8, hD⟩ := dPtr_elim hD; exact F26_11_ok R l0 p8 ds' w' ρ' e0 e8 hD)
theorem F26_15_ok (R : Rt) (l0 : SV) (ds : Ds) (w : World) (ρ : Env) (e0 : ρ 0 = .slice l0.a l0.len l0.cap) (h : F26_15 R l0 ds w) :
    TrL Try.prog Try.f26.ntmps [c26_0, c26_1, c26_2, c26_3, c26_4, c26_5, c26_6, c26_7, c26_8, c26_9, c26_10, c26_11, c26_12, c26_13] (F26_q1 R) ρ ds w :=
  TrL_piece (pre := [c26_0, c26_1, c26_2, c26_3, c26_4, c26_5, c26_6]) (K := (F26_k18 R)) (X := F26_15 R l0 ds w) (setAll_cons e0 setAll_nil) (by kernel_rfl) (by kernel_rfl)
    (fun ρ' ds' w' hD => by
      obtain ⟨l0, e0, hD⟩ := dSl_elim hD; obtain ⟨n7, e7, hD⟩ := dInt_elim hD; obtain ⟨p8, e8, hD⟩ := dPtr_elim hD; obtain ⟨n9, e9, hD⟩ := dInt_elim hD; exact F26_14_ok R l0 n7 p8 n9 ds' w' ρ' e0 e7 e8 e9 hD) h
theorem F26_calls (l0 : SV) (w : World) (R : Rt) (h : F26_15 R l0 [] w) : Calls Try.prog 26 #[.slice l0.a l0.len l0.cap] w R :=
  calls_of_L (l := [c26_0, c26_1, c26_2, c26_3, c26_4, c26_5, c26_6, c26_7, c26_8, c26_9, c26_10, c26_11, c26_12, c26_13]) Try.func26 (by kernel_rfl) (by rw [Try.ntmps26]; exact Nat.le_of_ble_eq_true (by kernel_rfl)) c26_l
    (F26_15_ok R l0 [] w _ rfl h)
theorem F26_callsD (l0 : SV) (w : World) (R : Rt) (u : FrameMode) (h : F26_15 R l0 [] w) : CallsD Try.prog 26 #[.slice l0.a l0.len l0.cap] u w fun e u' w' => u' = u ∧ R e w' :=
  callsD_of_L (l := [c26_0, c26_1, c26_2, c26_3, c26_4, c26_5, c26_6, c26_7, c26_8, c26_9, c26_10, c26_11, c26_12, c26_13]) Try.func26 (by kernel_rfl) (by rw [Try.ntmps26]; exact Nat.le_of_ble_eq_true (by kernel_rfl)) (by kernel_rfl) c26_l
    (F26_15_ok R l0 [] w _ rfl h) u

/-! function 27: cabinetry/cabinetryref24.Link -/
noncomputable def c27_0 : Code := itemAt (flat (bodyOf Try.f27)) 0
noncomputable def c27_1 : Code := itemAt (flat (bodyOf Try.f27)) 1
noncomputable def c27_2 : Code := itemAt (flat (bodyOf Try.f27)) 2
noncomputable def c27_3 : Code := itemAt (flat (bodyOf Try.f27)) 3
noncomputable def c27_4 : Code := itemAt (flat (bodyOf Try.f27)) 4
noncomputable def c27_5 : Code := itemAt (flat (bodyOf Try.f27)) 5
noncomputable def c27_6 : Code := itemAt (flat (bodyOf Try.f27)) 6
noncomputable def c27_7 : Code := itemAt (flat (bodyOf Try.f27)) 7
noncomputable def c27_8 : Code := itemAt (flat (bodyOf Try.f27)) 8
noncomputable def c27_9 : Code := itemAt (flat (bodyOf Try.f27)) 9
noncomputable def c27_10 : Code := itemAt (flat (bodyOf Try.f27)) 10
noncomputable def c27_8_0 : Code := itemAt (flat (innerC c27_8)) 0
noncomputable def c27_8_0_0 : Code := itemAt (flat (innerC c27_8_0)) 0
noncomputable def c27_8_0_1 : Code := itemAt (flat (innerC c27_8_0)) 1
noncomputable def c27_8_0_2 : Code := itemAt (flat (innerC c27_8_0)) 2
noncomputable def c27_8_0_3 : Code := itemAt (flat (innerC c27_8_0)) 3
noncomputable def c27_8_0_2_0 : Code := itemAt (flat (innerC c27_8_0_2)) 0
noncomputable def c27_8_0_2_1 : Code := itemAt (flat (innerC c27_8_0_2)) 1
noncomputable def c27_8_0_2_2 : Code := itemAt (flat (innerC c27_8_0_2)) 2
noncomputable def c27_8_0_2_3 : Code := itemAt (flat (innerC c27_8_0_2)) 3
noncomputable def c27_8_0_2_4 : Code := itemAt (flat (innerC c27_8_0_2)) 4
noncomputable def c27_8_0_2_5 : Code := itemAt (flat (innerC c27_8_0_2)) 5
noncomputable def c27_8_0_2_4_0 : Code := itemAt (flat (innerC c27_8_0_2_4)) 0
noncomputable def c27_8_0_2_4_0_0 : Code := itemAt (flat (innerC c27_8_0_2_4_0)) 0
noncomputable def c27_8_0_2_4_0_1 : Code := itemAt (flat (innerC c27_8_0_2_4_0)) 1
noncomputable def c27_8_0_2_4_0_2 : Code := itemAt (flat (innerC c27_8_0_2_4_0)) 2
noncomputable def c27_8_0_2_4_0_3 : Code := itemAt (flat (innerC c27_8_0_2_4_0)) 3
def F27_q1 (R : Rt) : EQ := endQ Try.prog Try.f27.results.toList R
def F27_1 (R : Rt) (l7 : SV) (l8 : SV) (ds : Ds) (w : World) : Prop :=
 runD Try.prog ds w fun w1 =>
 R (.returned (.tuple #[.slice l7.a l7.len l7.cap, .slice l8.a l8.len l8.cap, .int .i64 0])) w1
def F27_k2 (R : Rt) : EP := (fun ρ ds w => dSl (ρ 7) fun l7 => dSl (ρ 8) fun l8 => F27_1 R l7 l8 ds w)
def F27_q3 (R : Rt) : EQ := (thenQ (F27_k2 R) (F27_q1 R))
def F27_q4 (R : Rt) : EQ := (blockQ 0 (F27_q3 R))
def F27_q5 (R : Rt) (J1 : (SV × SV × Int) → World → Prop) : EQ := (thenQ (fun ρ _ w => dSl (ρ 7) fun l7 => dSl (ρ 8) fun l8 => dInt .i64 (ρ 9) fun n9 => J1 (l7, l8, n9) w) (F27_q4 R))
def F27_2 (R : Rt) (J1 : (SV × SV × Int) → World → Prop) (l6 : SV) (l7 : SV) (l8 : SV) (n9 : Int) (ds : Ds) (w : World) : Prop :=
 J1 (l7, l8, (IntKind.i64.wrap (n9 + 1))) w
def F27_k6 (R : Rt) (J1 : (SV × SV × Int) → World → Prop) : EP := (fun ρ ds w => dSl (ρ 6) fun l6 => dSl (ρ 7) fun l7 => dSl (ρ 8) fun l8 => dInt .i64 (ρ 9) fun n9 => F27_2 R J1 l6 l7 l8 n9 ds w)
def F27_q7 (R : Rt) (J1 : (SV × SV × Int) → World → Prop) : EQ := (thenQ (F27_k6 R J1) (F27_q5 R J1))
def F27_q8 (R : Rt) (J1 : (SV × SV × Int) → World → Prop) : EQ := (blockQ 1 (F27_q7 R J1))
def F27_3 (R : Rt) (J1 : (SV × SV × Int) → World → Prop) (l6 : SV) (l7 : SV) (l8 : SV) (n9 : Int) (n10 : Int) (ds : Ds) (w : World) : Prop :=
 ∃ a2 : Addr, l6.a = some a2 ∧ 0 ≤ n9 ∧ n9 < ((l6.len : Nat) : Int) ∧
 ∃ s62 : ByteArray, w.cell? (a2.add (n9.toNat * 4)) = some (.string s62) ∧
 alE (.cells #[.string s62] 9) w fun r63 w3 =>
 ∃ l64 : SV, ∃ w4 : World, (Builtin.append_ #[23, 23] 23 #[.slice l7.a l7.len l7.cap, .slice (some ⟨r63, 0, none⟩) 1 1]).run Try.prog w3 = .ok (.slice l64.a l64.len l64.cap) w4 ∧
 alE (.cells #[.int .i64 n10] 3) w4 fun r67 w5 =>
 ∃ l68 : SV, ∃ w6 : World, (Builtin.append_ #[30, 30] 30 #[.slice l8.a l8.len l8.cap, .slice (some ⟨r67, 0, none⟩) 1 1]).run Try.prog w5 = .ok (.slice l68.a l68.len l68.cap) w6 ∧
 F27_2 R J1 l6 l64 l68 n9 ds w6
def F27_k9 (R : Rt) (J1 : (SV × SV × Int) → World → Prop) : EP := (fun ρ ds w => dSl (ρ 6) fun l6 => dSl (ρ 7) fun l7 => dSl (ρ 8) fun l8 => dInt .i64 (ρ 9) fun n9 => dInt .i64 (ρ 10) fun n10 => F27_3 R J1 l6 l7 l8 n9 n10 ds w)
def F27_q10 (R : Rt) (J1 : (SV × SV × Int) → World → Prop) : EQ := (thenQ (F27_k9 R J1) (F27_q8 R J1))
def F27_q11 (R : Rt) (J1 : (SV × SV × Int) → World → Prop) : EQ := (blockQ 2 (F27_q10 R J1))
def F27_q12 (R : Rt) (J1 : (SV × SV × Int) → World → Prop) (J2 : (Int × Int) → World → Prop) : EQ := (thenQ (fun ρ _ w => dInt .i64 (ρ 10) fun n10 => dInt .i64 (ρ 11) fun n11 => J2 (n10, n11) w) (F27_q11 R J1))
def F27_4 (R : Rt) (J1 : (SV × SV × Int) → World → Prop) (J2 : (Int × Int) → World → Prop) (l6 : SV) (l7 : SV) (l8 : SV) (n9 : Int) (n10 : Int) (n11 : Int) (ds : Ds) (w : World) : Prop :=
 Br (decide (n11 < n9)) (
 dwE w fun w7 =>
 ∃ a8 : Addr, l6.a = some a8 ∧ 0 ≤ n11 ∧ n11 < ((l6.len : Nat) : Int) ∧
 ∃ n43 : Int, w7.cell? ((a8.add (n11.toNat * 4)).add 1) = some (.int .i64 n43) ∧
 ∃ a9 : Addr, l6.a = some a9 ∧ 0 ≤ n9 ∧ n9 < ((l6.len : Nat) : Int) ∧
 ∃ n48 : Int, w7.cell? ((a9.add (n9.toNat * 4)).add 1) = some (.int .i64 n48) ∧
 Br (n43 == n48) (
 ∃ a10 : Addr, l6.a = some a10 ∧ 0 ≤ n11 ∧ n11 < ((l6.len : Nat) : Int) ∧
 ∃ n55 : Int, w7.cell? ((a10.add (n11.toNat * 4)).add 2) = some (.int .i64 n55) ∧
 J2 ((IntKind.i64.wrap (n10 + n55)), (IntKind.i64.wrap (n11 + 1))) w7) (
 J2 (n10, (IntKind.i64.wrap (n11 + 1))) w7)) (
 F27_3 R J1 l6 l7 l8 n9 n10 ds w)
def F27_5 (R : Rt) (J1 : (SV × SV × Int) → World → Prop) (l6 : SV) (l7 : SV) (l8 : SV) (n9 : Int) (n10 : Int) (n11 : Int) (ds : Ds) (w : World) : Prop :=
 loopT (fun (J2 : (Int × Int) → World → Prop) (s : Int × Int) (w : World) => F27_4 R J1 J2 l6 l7 l8 n9 s.1 s.2 ds w) (n10, n11) w
@[reducible] def F27_6 (R : Rt) (J1 : (SV × SV × Int) → World → Prop) (l6 : SV) (l7 : SV) (l8 : SV) (n9 : Int) (n10 : Int) (n11 : Int) (ds : Ds) (w : World) : Prop := F27_5 R J1 l6 l7 l8 n9 n10 n11 ds w
def F27_k13 (R : Rt) (J1 : (SV × SV × Int) → World → Prop) : EP := (fun ρ ds w => dSl (ρ 6) fun l6 => dSl (ρ 7) fun l7 => dSl (ρ 8) fun l8 => dInt .i64 (ρ 9) fun n9 => dInt .i64 (ρ 10) fun n10 => dInt .i64 (ρ 11) fun n11 => F27_6 R J1 l6 l7 l8 n9 n10 n11 ds w)
def F27_7 (R : Rt) (J1 : (SV × SV × Int) → World → Prop) (l6 : SV) (l7 : SV) (l8 : SV) (n9 : Int) (ds : Ds) (w : World) : Prop :=
 ∃ a11 : Addr, l6.a = some a11 ∧ 0 ≤ n9 ∧ n9 < ((l6.len : Nat) : Int) ∧
 ∃ n29 : Int, w.cell? ((a11.add (n9.toNat * 4)).add 1) = some (.int .i64 n29) ∧
 Br (decide (n29 > 0)) (
 Calls Try.prog 58 #[.slice l6.a l6.len l6.cap] w fun e w12 =>
 ∃ n32_0 : Int, ∃ n32_1 : Int, ∃ n32_2 : Int, ∃ n32_3 : Int, ∃ n32_4 : Int, ∃ n32_5 : Int, ∃ n32_6 : Int, ∃ n32_7 : Int, ∃ n32_8 : Int, ∃ n32_9 : Int, ∃ n32_10 : Int, ∃ n32_11 : Int, ∃ n32_12 : Int, ∃ n32_13 : Int, ∃ n32_14 : Int, ∃ n32_15 : Int, e = .returned (.agg #[.int .i64 n32_0, .int .i64 n32_1, .int .i64 n32_2, .int .i64 n32_3, .int .i64 n32_4, .int .i64 n32_5, .int .i64 n32_6, .int .i64 n32_7, .int .i64 n32_8, .int .i64 n32_9, .int .i64 n32_10, .int .i64 n32_11, .int .i64 n32_12, .int .i64 n32_13, .int .i64 n32_14, .int .i64 n32_15]) ∧
 ∃ n33 : Int, ∃ w13 : World, (Instr.index 77 (.agg #[.int .i64 n32_0, .int .i64 n32_1, .int .i64 n32_2, .int .i64 n32_3, .int .i64 n32_4, .int .i64 n32_5, .int .i64 n32_6, .int .i64 n32_7, .int .i64 n32_8, .int .i64 n32_9, .int .i64 n32_10, .int .i64 n32_11, .int .i64 n32_12, .int .i64 n32_13, .int .i64 n32_14, .int .i64 n32_15]) (.int .i64 0)).run Try.prog w12 = .ok (.int .i64 n33) w13 ∧
 F27_6 R J1 l6 l7 l8 n9 n33 0 ds w13) (
 F27_6 R J1 l6 l7 l8 n9 0 0 ds w)
@[reducible] def F27_8 (R : Rt) (J1 : (SV × SV × Int) → World → Prop) (l6 : SV) (l7 : SV) (l8 : SV) (n9 : Int) (ds : Ds) (w : World) : Prop := F27_7 R J1 l6 l7 l8 n9 ds w
def F27_k14 (R : Rt) (J1 : (SV × SV × Int) → World → Prop) : EP := (fun ρ ds w => dSl (ρ 6) fun l6 => dSl (ρ 7) fun l7 => dSl (ρ 8) fun l8 => dInt .i64 (ρ 9) fun n9 => F27_8 R J1 l6 l7 l8 n9 ds w)
def F27_9 (R : Rt) (J1 : (SV × SV × Int) → World → Prop) (l6 : SV) (l7 : SV) (l8 : SV) (n9 : Int) (ds : Ds) (w : World) : Prop :=
 Br (decide (n9 < ((l6.len : Nat) : Int))) (
 F27_8 R J1 l6 l7 l8 n9 ds w) (
 F27_1 R l7 l8 ds w)
def F27_10 (R : Rt) (l6 : SV) (l7 : SV) (l8 : SV) (n9 : Int) (ds : Ds) (w : World) : Prop :=
 loopT (fun (J1 : (SV × SV × Int) → World → Prop) (s : SV × SV × Int) (w : World) => F27_9 R J1 l6 s.1 s.2.1 s.2.2 ds w) (l7, l8, n9) w
@[reducible] def F27_11 (R : Rt) (l6 : SV) (l7 : SV) (l8 : SV) (n9 : Int) (ds : Ds) (w : World) : Prop := F27_10 R l6 l7 l8 n9 ds w
def F27_k15 (R : Rt) : EP := (fun ρ ds w => dSl (ρ 6) fun l6 => dSl (ρ 7) fun l7 => dSl (ρ 8) fun l8 => dInt .i64 (ρ 9) fun n9 => F27_11 R l6 l7 l8 n9 ds w)
def F27_12 (R : Rt) (l0 : SV) (ds : Ds) (w : World) : Prop :=
 Calls Try.prog 63 #[.slice l0.a l0.len l0.cap] w fun e w14 =>
 ∃ n13 : Int, e = .returned (.int .i64 n13) ∧
 Br (n13 != 0) (
 runD Try.prog ds w14 fun w15 =>
 R (.returned (.tuple #[.slice none 0 0, .slice none 0 0, .int .i64 n13])) w15) (
 Calls Try.prog 59 #[.slice l0.a l0.len l0.cap] w14 fun e w16 =>
 ∃ l18 : SV, e = .returned (.slice l18.a l18.len l18.cap) ∧
 F27_11 R l18 ⟨none, 0, 0⟩ ⟨none, 0, 0⟩ 0 ds w16)
theorem c27_l : flat (bodyOf Try.f27) = [c27_0, c27_1, c27_2, c27_3, c27_4, c27_5, c27_6, c27_7, c27_8, c27_9, c27_10] := by kernel_rfl
theorem c27_8_l : flat (innerC c27_8) = [c27_8_0] := by kernel_rfl
theorem c27_8_0_l : flat (innerC c27_8_0) = [c27_8_0_0, c27_8_0_1, c27_8_0_2, c27_8_0_3] := by kernel_rfl
theorem c27_8_0_2_l : flat (innerC c27_8_0_2) = [c27_8_0_2_0, c27_8_0_2_1, c27_8_0_2_2, c27_8_0_2_3, c27_8_0_2_4, c27_8_0_2_5] := by kernel_rfl
theorem c27_8_0_2_4_l : flat (innerC c27_8_0_2_4) = [c27_8_0_2_4_0] := by kernel_rfl
theorem c27_8_0_2_4_0_l : flat (innerC c27_8_0_2_4_0) = [c27_8_0_2_4_0_0, c27_8_0_2_4_0_1, c27_8_0_2_4_0_2, c27_8_0_2_4_0_3] := by kernel_rfl
theorem F27_1_ok (R : Rt) (l7 : SV) (l8 : SV) (ds : Ds) (w : World) (ρ : Env) (e7 : ρ 7 = .slice l7.a l7.len l7.cap) (e8 : ρ 8 = .slice l8.a l8.len l8.cap) (h : F27_1 R l7 l8 ds w) :
    TrL Try.prog Try.f27.ntmps [c27_9, c27_10] (F27_q1 R) ρ ds w :=
  TrL_leaf (X := F27_1 R l7 l8 ds w) (setAll_cons e7 (setAll_cons e8 setAll_nil)) (by kernel_rfl) (by kernel_rfl) h
theorem F27_2_ok (R : Rt) (J1 : (SV × SV × Int) → World → Prop) (l6 : SV) (l7 : SV) (l8 : SV) (n9 : Int) (ds : Ds) (w : World) (ρ : Env) (e6 : ρ 6 = .slice l6.a l6.len l6.cap) (e7 : ρ 7 = .slice l7.a l7.len l7.cap) (e8 : ρ 8 = .slice l8.a l8.len l8.cap) (e9 : ρ 9 = .int .i64 n9) (h : F27_2 R J1 l6 l7 l8 n9 ds w) :
    TrL Try.prog Try.f27.ntmps [c27_8_0_3] (F27_q5 R J1) ρ ds w :=
  TrL_leaf (X := F27_2 R J1 l6 l7 l8 n9 ds w) (setAll_cons e6 (setAll_cons e7 (setAll_cons e8 (setAll_cons e9 setAll_nil)))) (by kernel_rfl) (by kernel_rfl) h
theorem F27_3_ok (R : Rt) (J1 : (SV × SV × Int) → World → Prop) (l6 : SV) (l7 : SV) (l8 : SV) (n9 : Int) (n10 : Int) (ds : Ds) (w : World) (ρ : Env) (e6 : ρ 6 = .slice l6.a l6.len l6.cap) (e7 : ρ 7 = .slice l7.a l7.len l7.cap) (e8 : ρ 8 = .slice l8.a l8.len l8.cap) (e9 : ρ 9 = .int .i64 n9) (e10 : ρ 10 = .int .i64 n10) (h : F27_3 R J1 l6 l7 l8 n9 n10 ds w) :
    TrL Try.prog Try.f27.ntmps [c27_8_0_2_5] (F27_q8 R J1) ρ ds w :=
  TrL_leaf (X := F27_3 R J1 l6 l7 l8 n9 n10 ds w) (setAll_cons e6 (setAll_cons e7 (setAll_cons e8 (setAll_cons e9 (setAll_cons e10 setAll_nil))))) (by kernel_rfl) (by kernel_rfl) h
theorem F27_4_ok (R : Rt) (J1 : (SV × SV × Int) → World → Prop) (J2 : (Int × Int) → World → Prop) (l6 : SV) (l7 : SV) (l8 : SV) (n9 : Int) (n10 : Int) (n11 : Int) (ds : Ds) (w : World) (ρ : Env) (e6 : ρ 6 = .slice l6.a l6.len l6.cap) (e7 : ρ 7 = .slice l7.a l7.len l7.cap) (e8 : ρ 8 = .slice l8.a l8.len l8.cap) (e9 : ρ 9 = .int .i64 n9) (e10 : ρ 10 = .int .i64 n10) (e11 : ρ 11 = .int .i64 n11) (h : F27_4 R J1 J2 l6 l7 l8 n9 n10 n11 ds w) :
    TrL Try.prog Try.f27.ntmps [c27_8_0_2_4_0_0, c27_8_0_2_4_0_1, c27_8_0_2_4_0_2, c27_8_0_2_4_0_3] (F27_q12 R J1 J2) ρ ds w :=
  TrL_leaf (X := F27_4 R J1 J2 l6 l7 l8 n9 n10 n11 ds w) (setAll_cons e6 (setAll_cons e7 (setAll_cons e8 (setAll_cons e9 (setAll_cons e10 (setAll_cons e11 setAll_nil)))))) (by kernel_rfl) (by kernel_rfl) h
theorem F27_5_ok (R : Rt) (J1 : (SV × SV × Int) → World → Prop) (l6 : SV) (l7 : SV) (l8 : SV) (n9 : Int) (n10 : Int) (n11 : Int) (ds : Ds) (w : World) (ρ : Env) (e6 : ρ 6 = .slice l6.a l6.len l6.cap) (e7 : ρ 7 = .slice l7.a l7.len l7.cap) (e8 : ρ 8 = .slice l8.a l8.len l8.cap) (e9 : ρ 9 = .int .i64 n9) (e10 : ρ 10 = .int .i64 n10) (e11 : ρ 11 = .int .i64 n11) (h : F27_5 R J1 l6 l7 l8 n9 n10 n11 ds w) :
    TrL Try.prog Try.f27.ntmps [c27_8_0_2_4_0] (F27_q11 R J1) ρ ds w :=
  TrL_one (Tr_loop' (c := innerC c27_8_0_2_4_0) (σ := Int × Int) (enc := (fun (s : Int × Int) (ρ : Env) => ρ 10 = .int .i64 s.1 ∧ ρ 11 = .int .i64 s.2)) (D := (fun ρ K => dInt .i64 (ρ 10) fun n10 => dInt .i64 (ρ 11) fun n11 => K (n10, n11))) (F := (fun (J2 : (Int × Int) → World → Prop) (s : Int × Int) (w : World) => F27_4 R J1 J2 l6 l7 l8 n9 s.1 s.2 ds w)) (s0 := (n10, n11)) (by kernel_rfl) c27_8_0_2_4_0_l ⟨e10, e11⟩ (by kernel_rfl) (fun ρ K hD => by obtain ⟨n10, e10, hD⟩ := dInt_elim hD; obtain ⟨n11, e11, hD⟩ := dInt_elim hD; exact ⟨(n10, n11), ⟨e10, e11⟩, hD⟩)
      (fun J2 s ρ' w' he ha hF => by
      obtain ⟨e10', e11'⟩ := he
      exact F27_4_ok R J1 J2 l6 l7 l8 n9 s.1 s.2 ds w' ρ' ((ha 6 (by kernel_rfl)).trans e6) ((ha 7 (by kernel_rfl)).trans e7) ((ha 8 (by kernel_rfl)).trans e8) ((ha 9 (by kernel_rfl)).trans e9) e10' e11' hF) h)
theorem F27_6_ok (R : Rt) (J1 : (SV × SV × Int) → World → Prop) (l6 : SV) (l7 : SV) (l8 : SV) (n9 : Int) (n10 : Int) (n11 : Int) (ds : Ds) (w : World) (ρ : Env) (e6 : ρ 6 = .slice l6.a l6.len l6.cap) (e7 : ρ 7 = .slice l7.a l7.len l7.cap) (e8 : ρ 8 = .slice l8.a l8.len l8.cap) (e9 : ρ 9 = .int .i64 n9) (e10 : ρ 10 = .int .i64 n10) (e11 : ρ 11 = .int .i64 n11) (h : F27_6 R J1 l6 l7 l8 n9 n10 n11 ds w) :
    TrL Try.prog Try.f27.ntmps [c27_8_0_2_4, c27_8_0_2_5] (F27_q8 R J1) ρ ds w :=
  TrL_head (K := (F27_k9 R J1)) (Tr_block' (c := innerC c27_8_0_2_4) (by kernel_rfl) c27_8_0_2_4_l (F27_5_ok R J1 l6 l7 l8 n9 n10 n11 ds w ρ e6 e7 e8 e9 e10 e11 h))
    (fun ρ' ds' w' hD => by
      obtain ⟨l6, e6, hD⟩ := dSl_elim hD; obtain ⟨l7, e7, hD⟩ := dSl_elim hD; obtain ⟨l8, e8, hD⟩ := dSl_elim hD; obtain ⟨n9, e9, hD⟩ := dInt_elim hD; obtain ⟨n10, e10, hD⟩ := dInt_elim hD; exact F27_3_ok R J1 l6 l7 l8 n9 n10 ds' w' ρ' e6 e7 e8 e9 e10 hD)
theorem F27_7_ok (R : Rt) (J1 : (SV × SV × Int) → World → Prop) (l6 : SV) (l7 : SV) (l8 : SV) (n9 : Int) (ds : Ds) (w : World) (ρ : Env) (e6 : ρ 6 = .slice l6.a l6.len l6.cap) (e7 : ρ 7 = .slice l7.a l7.len l7.cap) (e8 : ρ 8 = .slice l8.a l8.len l8.cap) (e9 : ρ 9 = .int .i64 n9) (h : F27_7 R J1 l6 l7 l8 n9 ds w) :
    TrL Try.prog Try.f27.ntmps [c27_8_0_2_0, c27_8_0_2_1, c27_8_0_2_2, c27_8_0_2_3, c27_8_0_2_4, c27_8_0_2_5] (F27_q8 R J1) ρ ds w :=
  TrL_piece (pre := [c27_8_0_2_0, c27_8_0_2_1, c27_8_0_2_2, c27_8_0_2_3]) (K := (F27_k13 R J1)) (X := F27_7 R J1 l6 l7 l8 n9 ds w) (setAll_cons e6 (setAll_cons e7 (setAll_cons e8 (setAll_cons e9 setAll_nil)))) (by kernel_rfl) (by kernel_rfl)
    (fun ρ' ds' w' hD => by
      obtain ⟨l6, e6, hD⟩ := dSl_elim hD; obtain ⟨l7, e7, hD⟩ := dSl_elim hD; obtain ⟨l8, e8, hD⟩ := dSl_elim hD; obtain ⟨n9, e9, hD⟩ := dInt_elim hD; obtain ⟨n10, e10, hD⟩ := dInt_elim hD; obtain ⟨n11, e11, hD⟩ := dInt_elim hD; exact F27_6_ok R J1 l6 l7 l8 n9 n10 n11 ds' w' ρ' e6 e7 e8 e9 e10 e11 hD) h
theorem F27_8_ok (R : Rt) (J1 : (SV × SV × Int) → World → Prop) (l6 : SV) (l7 : SV) (l8 : SV) (n9 : Int) (ds : Ds) (w : World) (ρ : Env) (e6 : ρ 6 = .slice l6.a l6.len l6.cap) (e7 : ρ 7 = .slice l7.a l7.len l7.cap) (e8 : ρ 8 = .slice l8.a l8.len l8.cap) (e9 : ρ 9 = .int .i64 n9) (h : F27_8 R J1 l6 l7 l8 n9 ds w) :
    TrL Try.prog Try.f27.ntmps [c27_8_0_2, c27_8_0_3] (F27_q5 R J1) ρ ds w :=
  TrL_head (K := (F27_k6 R J1)) (Tr_block' (c := innerC c27_8_0_2) (by kernel_rfl) c27_8_0_2_l (F27_7_ok R J1 l6 l7 l8 n9 ds w ρ e6 e7 e8 e9 h))
    (fun ρ' ds' w' hD => by
      obtain ⟨l6, e6, hD⟩ := dSl_elim hD; obtain ⟨l7, e7, hD⟩ := dSl_elim hD; obtain ⟨l8, e8, hD⟩ := dSl_elim hD; obtain ⟨n9, e9, hD⟩ := dInt_elim hD; exact F27_2_ok R J1 l6 l7 l8 n9 ds' w' ρ' e6 e7 e8 e9 hD)
theorem F27_9_ok (R : Rt) (J1 : (SV × SV × Int) → World → Prop) (l6 : SV) (l7 : SV) (l8 : SV) (n9 : Int) (ds : Ds) (w : World) (ρ : Env) (e6 : ρ 6 = .slice l6.a l6.len l6.cap) (e7 : ρ 7 = .slice l7.a l7.len l7.cap) (e8 : ρ 8 = .slice l8.a l8.len l8.cap) (e9 : ρ 9 = .int .i64 n9) (h : F27_9 R J1 l6 l7 l8 n9 ds w) :
    TrL Try.prog Try.f27.ntmps [c27_8_0_0, c27_8_0_1, c27_8_0_2, c27_8_0_3] (F27_q5 R J1) ρ ds w :=
  TrL_piece (pre := [c27_8_0_0, c27_8_0_1]) (K := (F27_k14 R J1)) (X := F27_9 R J1 l6 l7 l8 n9 ds w) (setAll_cons e6 (setAll_cons e7 (setAll_cons e8 (setAll_cons e9 setAll_nil)))) (by kernel_rfl) (by kernel_rfl)
    (fun ρ' ds' w' hD => by
      obtain ⟨l6, e6, hD⟩ := dSl_elim hD; obtain ⟨l7, e7, hD⟩ := dSl_elim hD; obtain ⟨l8, e8, hD⟩ := dSl_elim hD; obtain ⟨n9, e9, hD⟩ := dInt_elim hD; exact F27_8_ok R J1 l6 l7 l8 n9 ds' w' ρ' e6 e7 e8 e9 hD) h
theorem F27_10_ok (R : Rt) (l6 : SV) (l7 : SV) (l8 : SV) (n9 : Int) (ds : Ds) (w : World) (ρ : Env) (e6 : ρ 6 = .slice l6.a l6.len l6.cap) (e7 : ρ 7 = .slice l7.a l7.len l7.cap) (e8 : ρ 8 = .slice l8.a l8.len l8.cap) (e9 : ρ 9 = .int .i64 n9) (h : F27_10 R l6 l7 l8 n9 ds w) :
    TrL Try.prog Try.f27.ntmps [c27_8_0] (F27_q4 R) ρ ds w :=
  TrL_one (Tr_loop' (c := innerC c27_8_0) (σ := SV × SV × Int) (enc := (fun (s : SV × SV × Int) (ρ : Env) => ρ 7 = .slice s.1.a s.1.len s.1.cap ∧ ρ 8 = .slice s.2.1.a s.2.1.len s.2.1.cap ∧ ρ 9 = .int .i64 s.2.2)) (D := (fun ρ K => dSl (ρ 7) fun l7 => dSl (ρ 8) fun l8 => dInt .i64 (ρ 9) fun n9 => K (l7, l8, n9))) (F := (fun (J1 : (SV × SV × Int) → World → Prop) (s : SV × SV × Int) (w : World) => F27_9 R J1 l6 s.1 s.2.1 s.2.2 ds w)) (s0 := (l7, l8, n9)) (by kernel_rfl) c27_8_0_l ⟨e7, e8, e9⟩ (by kernel_rfl) (fun ρ K hD => by obtain ⟨l7, e7, hD⟩ := dSl_elim hD; obtain ⟨l8, e8, hD⟩ := dSl_elim hD; obtain ⟨n9, e9, hD⟩ := dInt_elim hD; exact ⟨(l7, l8, n9), ⟨e7, e8, e9⟩, hD⟩)
      (fun J1 s ρ' w' he ha hF => by
      obtain ⟨e7', e8', e9'⟩ := he
      exact F27_9_ok R J1 l6 s.1 s.2.1 s.2.2 ds w' ρ' ((ha 6 (by kernel_rfl)).trans e6) e7' e8' e9' hF) h)
theorem F27_11_ok (R : Rt) (l6 : SV) (l7 : SV) (l8 : SV) (n9 : Int) (ds : Ds) (w : World) (ρ : Env) (e6 : ρ 6 = .slice l6.a l6.len l6.cap) (e7 : ρ 7 = .slice l7.a l7.len l7.cap) (e8 : ρ 8 = .slice l8.a l8.len l8.cap) (e9 : ρ 9 = .int .i64 n9) (h : F27_11 R l6 l7 l8 n9 ds w) :
    TrL Try.prog Try.f27.ntmps [c27_8, c27_9, c27_10] (F27_q1 R) ρ ds w :=
  TrL_head (K := (F27_k2 R)) (Tr_block' (c := innerC c27_8) (by kernel_rfl) c27_8_l (F27_10_ok R l6 l7 l8 n9 ds w ρ e6 e7 e8 e9 h))
    (fun ρ' ds' w' hD => by
      obtain ⟨l7, e7, hD⟩ := dSl_elim hD; obtain ⟨l8, e8, hD⟩ := dSl_elim hD; exact F27_1_ok R l7 l8 ds' w' ρ' e7 e8 hD)
theorem F27_12_ok (R : Rt) (l0 : SV) (ds : Ds) (w : World) (ρ : Env) (e0 : ρ 0 = .slice l0.a l0.len l0.cap) (h : F27_12 R l0 ds w) :
    TrL Try.prog Try.f27.ntmps [c27_0, c27_1, c27_2, c27_3, c27_4, c27_5, c27_6, c27_7, c27_8, c27_9, c27_10] (F27_q1 R) ρ ds w :=
  TrL_piece (pre := [c27_0, c27_1, c27_2, c27_3, c27_4, c27_5, c27_6, c27_7]) (K := (F27_k15 R)) (X := F27_12 R l0 ds w) (setAll_cons e0 setAll_nil) (by kernel_rfl) (by kernel_rfl)
    (fun ρ' ds' w' hD => by
      obtain ⟨l6, e6, hD⟩ := dSl_elim hD; obtain ⟨l7, e7, hD⟩ := dSl_elim hD; obtain ⟨l8, e8, hD⟩ := dSl_elim hD; obtain ⟨n9, e9, hD⟩ := dInt_elim hD; exact F27_11_ok R l6 l7 l8 n9 ds' w' ρ' e6 e7 e8 e9 hD) h
theorem F27_calls (l0 : SV) (w : World) (R : Rt) (h : F27_12 R l0 [] w) : Calls Try.prog 27 #[.slice l0.a l0.len l0.cap] w R :=
  calls_of_L (l := [c27_0, c27_1, c27_2, c27_3, c27_4, c27_5, c27_6, c27_7, c27_8, c27_9, c27_10]) Try.func27 (by kernel_rfl) (by rw [Try.ntmps27]; exact Nat.le_of_ble_eq_true (by kernel_rfl)) c27_l
    (F27_12_ok R l0 [] w _ rfl h)
theorem F27_callsD (l0 : SV) (w : World) (R : Rt) (u : FrameMode) (h : F27_12 R l0 [] w) : CallsD Try.prog 27 #[.slice l0.a l0.len l0.cap] u w fun e u' w' => u' = u ∧ R e w' :=
  callsD_of_L (l := [c27_0, c27_1, c27_2, c27_3, c27_4, c27_5, c27_6, c27_7, c27_8, c27_9, c27_10]) Try.func27 (by kernel_rfl) (by rw [Try.ntmps27]; exact Nat.le_of_ble_eq_true (by kernel_rfl)) (by kernel_rfl) c27_l
    (F27_12_ok R l0 [] w _ rfl h) u

end Go.Proofs.Ytcnenlmhbpijlaa
