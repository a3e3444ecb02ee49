import Derived.Test.YtecmfdfhpldmmaaGreatDoorProg
import Derived.Test.YtecmfdfhpldmmaaGreatDoorShEight
/- Shallow texts of functions, printed by program, each checked by the kernel against the loaded code. No condition. -/
set_option maxRecDepth 100000
set_option linter.unusedVariables false
namespace Go.Proofs.YtecmfdfhpldmmaaGreatDoor
open Go.Sh
open Tryz
@[reducible] noncomputable def cI14 (f : Func) (i : Nat) : Code := itemAt (flat (bodyOf f)) i
@[reducible] noncomputable def cJ14 (c : Code) (i : Nat) : Code := itemAt (flat (innerC c)) i
noncomputable def c6_0 := cI14 f6 0
noncomputable def c6_1 := cI14 f6 1
noncomputable def c6_2 := cI14 f6 2
noncomputable def c6_3 := cI14 f6 3
noncomputable def c6_4 := cI14 f6 4
noncomputable def c6_5 := cI14 f6 5
noncomputable def c6_6 := cI14 f6 6
noncomputable def c6_7 := cI14 f6 7
noncomputable def c6_8 := cI14 f6 8
def F6_q1 (R : Rt) : EQ := endQ prog f6.results.toList R
def F6_1 (R : Rt) (b2 : Bool) (ds : Ds) (w : World) : Prop :=
 runD prog ds w fun w1 =>
 R (.returned (.bool b2)) w1
def F6_k2 (R : Rt) : EP := (fun E ds w => dBl (E 2) fun b2 => F6_1 R b2 ds w)
def F6_2 (R : Rt) (p1 : Option Addr) (n3 n4 n5 n6 : Int) (l7 : SV) (n8 : Int) (l9 : SV) (n10 : Int) (ds : Ds) (w : World) : Prop :=
 dwE w fun w2 =>
 ∃ S1 : World -> Prop, S1 w2 /\
 ptrE p1 fun a3 =>
 ∃ n38_0 : Int, (∀ w', S1 w' -> w'.cell? (a3.add 0) = some (.int .i64 n38_0)) /\
 ∃ l38_1 : SV, (∀ w', S1 w' -> w'.cell? (a3.add 1) = some (.slice l38_1.a l38_1.len l38_1.cap)) /\
 ∃ l38_2 : SV, (∀ w', S1 w' -> w'.cell? (a3.add 2) = some (.slice l38_2.a l38_2.len l38_2.cap)) /\
 ptrE p1 fun a4 =>
 ∃ n40_0 : Int, (∀ w', S1 w' -> w'.cell? (a4.add 0) = some (.int .i64 n40_0)) /\
 ∃ l40_1 : SV, (∀ w', S1 w' -> w'.cell? (a4.add 1) = some (.slice l40_1.a l40_1.len l40_1.cap)) /\
 ∃ l40_2 : SV, (∀ w', S1 w' -> w'.cell? (a4.add 2) = some (.slice l40_2.a l40_2.len l40_2.cap)) /\
 Calls prog 34 #[.agg #[.int .i64 n38_0, .slice l38_1.a l38_1.len l38_1.cap, .slice l38_2.a l38_2.len l38_2.cap]] w2 fun e w5 =>
 ∃ n39 : Int, e = .returned (.int .i64 n39) /\
 S1 w5 /\
 Calls prog 35 #[.agg #[.int .i64 n40_0, .slice l40_1.a l40_1.len l40_1.cap, .slice l40_2.a l40_2.len l40_2.cap]] w5 fun e w6 =>
 ∃ n41 : Int, e = .returned (.int .i64 n41) /\
 S1 w6 /\
 Br (n39 == n41) (
 ptrE p1 fun a7 =>
 ∃ l45 : SV, (∀ w', S1 w' -> w'.cell? (a7.add 1) = some (.slice l45.a l45.len l45.cap)) /\
 ptrE p1 fun a8 =>
 ∃ l48 : SV, (∀ w', S1 w' -> w'.cell? (a8.add 1) = some (.slice l48.a l48.len l48.cap)) /\
 Calls prog 36 #[.slice l45.a l45.len l45.cap] w6 fun e w9 =>
 ∃ n46 : Int, e = .returned (.int .i64 n46) /\
 S1 w9 /\
 Calls prog 37 #[.slice l48.a l48.len l48.cap] w9 fun e w10 =>
 ∃ n49 : Int, e = .returned (.int .i64 n49) /\
 Br (n46 == n49) (
 Br (n3 == n5) (
 Br (n4 == n6) (
 Calls prog 38 #[.slice l7.a l7.len l7.cap, .slice l9.a l9.len l9.cap] w10 fun e w11 =>
 ∃ b65 : Bool, e = .returned (.bool b65) /\
 Br b65 (
 Br (n8 == n10) (
 Calls prog 12 #[] w11 fun e w12 =>
 ∃ b73 : Bool, e = .returned (.bool b73) /\
 F6_1 R b73 ds w12) (
 F6_1 R false ds w11)) (
 F6_1 R false ds w11)) (
 F6_1 R false ds w10)) (
 F6_1 R false ds w10)) (
 F6_1 R false ds w10)) (
 F6_1 R false ds w6)
def F6_k3 (R : Rt) : EP := (fun E ds w => dPtr (E 1) fun p1 => dInt .i64 (E 3) fun n3 => dInt .i64 (E 4) fun n4 => dInt .i64 (E 5) fun n5 => dInt .i64 (E 6) fun n6 => dSl (E 7) fun l7 => dInt .i64 (E 8) fun n8 => dSl (E 9) fun l9 => dInt .i64 (E 10) fun n10 => F6_2 R p1 n3 n4 n5 n6 l7 n8 l9 n10 ds w)
def F6_3 (R : Rt) (n0_0 : Int) (l0_1 l0_2 : SV) (ds : Ds) (w : World) : Prop :=
 alE (.cells #[.int .i64 n0_0, .slice l0_1.a l0_1.len l0_1.cap, .slice l0_2.a l0_2.len l0_2.cap] 35) w fun r1 w13 =>
 ∃ n11_0 : Int, w13.cell? ((⟨r1, 0, none⟩ : Addr).add 0) = some (.int .i64 n11_0) /\
 ∃ l11_1 : SV, w13.cell? ((⟨r1, 0, none⟩ : Addr).add 1) = some (.slice l11_1.a l11_1.len l11_1.cap) /\
 ∃ l11_2 : SV, w13.cell? ((⟨r1, 0, none⟩ : Addr).add 2) = some (.slice l11_2.a l11_2.len l11_2.cap) /\
 Calls prog 16 #[.agg #[.int .i64 n11_0, .slice l11_1.a l11_1.len l11_1.cap, .slice l11_2.a l11_2.len l11_2.cap]] w13 fun e w14 =>
 ∃ b12 : Bool, e = .returned (.bool b12) /\
 Br b12 (
 Calls prog 12 #[] w14 fun e w15 =>
 ∃ b13 : Bool, e = .returned (.bool b13) /\
 runD prog ds w15 fun w16 =>
 R (.returned (.bool b13)) w16) (
 ∃ l16 : SV, w14.cell? ((⟨r1, 0, none⟩ : Addr).add 1) = some (.slice l16.a l16.len l16.cap) /\
 Calls prog 30 #[.slice l16.a l16.len l16.cap] w14 fun e w17 =>
 ∃ n17_0 : Int, ∃ n17_1 : Int, e = .returned (.tuple #[.int .i64 n17_0, .int .i64 n17_1]) /\
 ∃ l22 : SV, w17.cell? ((⟨r1, 0, none⟩ : Addr).add 1) = some (.slice l22.a l22.len l22.cap) /\
 Calls prog 31 #[.slice l22.a l22.len l22.cap] w17 fun e w18 =>
 ∃ n23_0 : Int, ∃ n23_1 : Int, e = .returned (.tuple #[.int .i64 n23_0, .int .i64 n23_1]) /\
 ∃ l28 : SV, w18.cell? ((⟨r1, 0, none⟩ : Addr).add 1) = some (.slice l28.a l28.len l28.cap) /\
 Calls prog 32 #[.slice l28.a l28.len l28.cap] w18 fun e w19 =>
 ∃ l29_0 : SV, ∃ n29_1 : Int, e = .returned (.tuple #[.slice l29_0.a l29_0.len l29_0.cap, .int .i64 n29_1]) /\
 ∃ l34 : SV, w19.cell? ((⟨r1, 0, none⟩ : Addr).add 1) = some (.slice l34.a l34.len l34.cap) /\
 Calls prog 33 #[.slice l34.a l34.len l34.cap] w19 fun e w20 =>
 ∃ l35_0 : SV, ∃ n35_1 : Int, e = .returned (.tuple #[.slice l35_0.a l35_0.len l35_0.cap, .int .i64 n35_1]) /\
 F6_2 R (some (⟨r1, 0, none⟩ : Addr)) n17_0 n17_1 n23_0 n23_1 l29_0 n29_1 l35_0 n35_1 ds w20)
theorem c6_l : flat (bodyOf f6) = [c6_0, c6_1, c6_2, c6_3, c6_4, c6_5, c6_6, c6_7, c6_8] := by kernel_rfl
theorem F6_1_ok (R : Rt) (b2 : Bool) (ds : Ds) (w : World) (E : Env) (e2 : E 2 = .bool b2) (h : F6_1 R b2 ds w) :
    TrL prog f6.ntmps [c6_8] (F6_q1 R) E ds w :=
  TrL_leaf (X := F6_1 R b2 ds w) (setAll_cons e2 setAll_nil) (by kernel_rfl) (by kernel_rfl) h
theorem F6_2_ok (R : Rt) (p1 : Option Addr) (n3 n4 n5 n6 : Int) (l7 : SV) (n8 : Int) (l9 : SV) (n10 : Int) (ds : Ds) (w : World) (E : Env) (e1 : E 1 = .pointer p1) (e3 : E 3 = .int .i64 n3) (e4 : E 4 = .int .i64 n4) (e5 : E 5 = .int .i64 n5) (e6 : E 6 = .int .i64 n6) (e7 : E 7 = .slice l7.a l7.len l7.cap) (e8 : E 8 = .int .i64 n8) (e9 : E 9 = .slice l9.a l9.len l9.cap) (e10 : E 10 = .int .i64 n10) (h : F6_2 R p1 n3 n4 n5 n6 l7 n8 l9 n10 ds w) :
    TrL prog f6.ntmps [c6_7, c6_8] (F6_q1 R) E ds w :=
  TrL_piece (pre := [c6_7]) (K := (F6_k2 R)) (X := F6_2 R p1 n3 n4 n5 n6 l7 n8 l9 n10 ds w) (setAll_cons e1 (setAll_cons e3 (setAll_cons e4 (setAll_cons e5 (setAll_cons e6 (setAll_cons e7 (setAll_cons e8 (setAll_cons e9 (setAll_cons e10 setAll_nil))))))))) (by kernel_rfl) (by kernel_rfl)
    (fun E' ds' w' hD => by
      obtain ⟨b2, e2, hD⟩ := dBl_elim hD; exact F6_1_ok R b2 ds' w' E' e2 hD) h
theorem F6_3_ok (R : Rt) (n0_0 : Int) (l0_1 l0_2 : SV) (ds : Ds) (w : World) (E : Env) (e0 : E 0 = .agg #[.int .i64 n0_0, .slice l0_1.a l0_1.len l0_1.cap, .slice l0_2.a l0_2.len l0_2.cap]) (h : F6_3 R n0_0 l0_1 l0_2 ds w) :
    TrL prog f6.ntmps [c6_0, c6_1, c6_2, c6_3, c6_4, c6_5, c6_6, c6_7, c6_8] (F6_q1 R) E ds w :=
  TrL_piece (pre := [c6_0, c6_1, c6_2, c6_3, c6_4, c6_5, c6_6]) (K := (F6_k3 R)) (X := F6_3 R n0_0 l0_1 l0_2 ds w) (setAll_cons e0 setAll_nil) (by kernel_rfl) (by kernel_rfl)
    (fun E' ds' w' hD => by
      obtain ⟨p1, e1, hD⟩ := dPtr_elim hD; obtain ⟨n3, e3, hD⟩ := dInt_elim hD; obtain ⟨n4, e4, hD⟩ := dInt_elim hD; obtain ⟨n5, e5, hD⟩ := dInt_elim hD; obtain ⟨n6, e6, hD⟩ := dInt_elim hD; obtain ⟨l7, e7, hD⟩ := dSl_elim hD; obtain ⟨n8, e8, hD⟩ := dInt_elim hD; obtain ⟨l9, e9, hD⟩ := dSl_elim hD; obtain ⟨n10, e10, hD⟩ := dInt_elim hD; exact F6_2_ok R p1 n3 n4 n5 n6 l7 n8 l9 n10 ds' w' E' e1 e3 e4 e5 e6 e7 e8 e9 e10 hD) h
theorem F6_calls (n0_0 : Int) (l0_1 l0_2 : SV) (w : World) (R : Rt) (h : F6_3 R n0_0 l0_1 l0_2 [] w) : Calls prog 6 #[.agg #[.int .i64 n0_0, .slice l0_1.a l0_1.len l0_1.cap, .slice l0_2.a l0_2.len l0_2.cap]] w R :=
  calls_of_L (l := [c6_0, c6_1, c6_2, c6_3, c6_4, c6_5, c6_6, c6_7, c6_8]) func6 (by kernel_rfl) (by rw [ntmps6]; exact Nat.le_of_ble_eq_true (by kernel_rfl)) c6_l
    (F6_3_ok R n0_0 l0_1 l0_2 [] w _ rfl h)
noncomputable def c30_0 := cI14 f30 0
noncomputable def c30_1 := cI14 f30 1
noncomputable def c30_2 := cI14 f30 2
noncomputable def c30_3 := cI14 f30 3
noncomputable def c30_4 := cI14 f30 4
noncomputable def c30_5 := cI14 f30 5
def F30_q1 (R : Rt) : EQ := endQ prog f30.results.toList R
def F30_1 (R : Rt) (l0 : SV) (ds : Ds) (w : World) : Prop :=
 Calls prog 36 #[.slice l0.a l0.len l0.cap] w fun e w1 =>
 ∃ n6 : Int, e = .returned (.int .i64 n6) /\
 Br (n6 != 0) (
 runD prog ds w1 fun w2 =>
 R (.returned (.tuple #[.int .i64 0, .int .i64 n6])) w2) (
 Calls prog 69 #[.slice l0.a l0.len l0.cap] w1 fun e w3 =>
 ∃ n11 : Int, e = .returned (.int .i64 n11) /\
 runD prog ds w3 fun w4 =>
 R (.returned (.tuple #[.int .i64 n11, .int .i64 0])) w4)
theorem c30_l : flat (bodyOf f30) = [c30_0, c30_1, c30_2, c30_3, c30_4, c30_5] := by kernel_rfl
theorem F30_1_ok (R : Rt) (l0 : SV) (ds : Ds) (w : World) (E : Env) (e0 : E 0 = .slice l0.a l0.len l0.cap) (h : F30_1 R l0 ds w) :
    TrL prog f30.ntmps [c30_0, c30_1, c30_2, c30_3, c30_4, c30_5] (F30_q1 R) E ds w :=
  TrL_leaf (X := F30_1 R l0 ds w) (setAll_cons e0 setAll_nil) (by kernel_rfl) (by kernel_rfl) h
theorem F30_calls (l0 : SV) (w : World) (R : Rt) (h : F30_1 R l0 [] w) : Calls prog 30 #[.slice l0.a l0.len l0.cap] w R :=
  calls_of_L (l := [c30_0, c30_1, c30_2, c30_3, c30_4, c30_5]) func30 (by kernel_rfl) (by rw [ntmps30]; exact Nat.le_of_ble_eq_true (by kernel_rfl)) c30_l
    (F30_1_ok R l0 [] w _ rfl h)
noncomputable def c31_0 := cI14 f31 0
noncomputable def c31_1 := cI14 f31 1
noncomputable def c31_2 := cI14 f31 2
noncomputable def c31_3 := cI14 f31 3
noncomputable def c31_4 := cI14 f31 4
noncomputable def c31_5 := cI14 f31 5
def F31_q1 (R : Rt) : EQ := endQ prog f31.results.toList R
def F31_1 (R : Rt) (l0 : SV) (ds : Ds) (w : World) : Prop :=
 Calls prog 37 #[.slice l0.a l0.len l0.cap] w fun e w1 =>
 ∃ n6 : Int, e = .returned (.int .i64 n6) /\
 Br (n6 != 0) (
 runD prog ds w1 fun w2 =>
 R (.returned (.tuple #[.int .i64 0, .int .i64 n6])) w2) (
 Calls prog 70 #[.slice l0.a l0.len l0.cap] w1 fun e w3 =>
 ∃ n11 : Int, e = .returned (.int .i64 n11) /\
 runD prog ds w3 fun w4 =>
 R (.returned (.tuple #[.int .i64 n11, .int .i64 0])) w4)
theorem c31_l : flat (bodyOf f31) = [c31_0, c31_1, c31_2, c31_3, c31_4, c31_5] := by kernel_rfl
theorem F31_1_ok (R : Rt) (l0 : SV) (ds : Ds) (w : World) (E : Env) (e0 : E 0 = .slice l0.a l0.len l0.cap) (h : F31_1 R l0 ds w) :
    TrL prog f31.ntmps [c31_0, c31_1, c31_2, c31_3, c31_4, c31_5] (F31_q1 R) E ds w :=
  TrL_leaf (X := F31_1 R l0 ds w) (setAll_cons e0 setAll_nil) (by kernel_rfl) (by kernel_rfl) h
theorem F31_calls (l0 : SV) (w : World) (R : Rt) (h : F31_1 R l0 [] w) : Calls prog 31 #[.slice l0.a l0.len l0.cap] w R :=
  calls_of_L (l := [c31_0, c31_1, c31_2, c31_3, c31_4, c31_5]) func31 (by kernel_rfl) (by rw [ntmps31]; exact Nat.le_of_ble_eq_true (by kernel_rfl)) c31_l
    (F31_1_ok R l0 [] w _ rfl h)
noncomputable def c32_0 := cI14 f32 0
noncomputable def c32_1 := cI14 f32 1
noncomputable def c32_2 := cI14 f32 2
noncomputable def c32_3 := cI14 f32 3
noncomputable def c32_4 := cI14 f32 4
noncomputable def c32_5 := cI14 f32 5
noncomputable def c32_6 := cI14 f32 6
noncomputable def c32_7 := cI14 f32 7
noncomputable def c32_8 := cI14 f32 8
noncomputable def c32_9 := cI14 f32 9
noncomputable def c32_7_0 := cJ14 c32_7 0
noncomputable def c32_7_0_0 := cJ14 c32_7_0 0
noncomputable def c32_7_0_1 := cJ14 c32_7_0 1
noncomputable def c32_7_0_2 := cJ14 c32_7_0 2
noncomputable def c32_7_0_3 := cJ14 c32_7_0 3
def F32_q1 (R : Rt) : EQ := endQ prog f32.results.toList R
def F32_1 (R : Rt) (l5 : SV) (ds : Ds) (w : World) : Prop :=
 runD prog ds w fun w1 =>
 R (.returned (.tuple #[.slice l5.a l5.len l5.cap, .int .i64 0])) w1
def F32_k2 (R : Rt) : EP := (fun E ds w => dSl (E 5) fun l5 => F32_1 R l5 ds w)
def F32_q3 (R : Rt) : EQ := (thenQ (F32_k2 R) (F32_q1 R))
def F32_q4 (R : Rt) : EQ := (blockQ 0 (F32_q3 R))
def F32_q5 (R : Rt) (J1 : (SV × Int × Int) -> World -> Prop) : EQ := (thenQ (fun E _ w => dSl (E 5) fun l5 => dInt .i64 (E 6) fun n6 => dInt .i64 (E 19) fun n19 => J1 (l5, n6, n19) w) (F32_q4 R))
def F32_2 (R : Rt) (J1 : (SV × Int × Int) -> World -> Prop) (l5 : SV) (n6 : Int) (l17 : SV) (n18 n19 : Int) (ds : Ds) (w : World) : Prop :=
 Br (decide (n19 < n18)) (
 ∃ a2 : Addr, l17.a = some a2 /\ 0 ≤ n19 /\ n19 < (l17.len : Int) /\
 ∃ s22_0 : ByteArray, w.cell? ((a2.add (n19.toNat * 4)).add 0) = some (.string s22_0) /\
 ∃ n22_1 : Int, w.cell? ((a2.add (n19.toNat * 4)).add 1) = some (.int .i64 n22_1) /\
 ∃ n22_2 : Int, w.cell? ((a2.add (n19.toNat * 4)).add 2) = some (.int .i64 n22_2) /\
 ∃ b22_3 : Bool, w.cell? ((a2.add (n19.toNat * 4)).add 3) = some (.bool b22_3) /\
 alE (.cells #[.string (⟨#[]⟩ : ByteArray), .int .i64 0, .int .i64 0, .bool false] 23) w fun r8 w3 =>
 stA prog 23 (⟨r8, 0, none⟩ : Addr) #[.string s22_0, .int .i64 n22_1, .int .i64 n22_2, .bool b22_3] w3 fun w4 =>
 alE (.cells #[.int .i64 n6] 3) w4 fun r25 w5 =>
 ∃ l26 : SV, ∃ w6 : World, (Builtin.append_ #[55, 55] 55 #[.slice l5.a l5.len l5.cap, .slice (some ⟨r25, 0, none⟩) 1 1]).run prog w5 = .ok (.slice l26.a l26.len l26.cap) w6 /\
 ∃ n29 : Int, w6.cell? ((⟨r8, 0, none⟩ : Addr).add 2) = some (.int .i64 n29) /\
 J1 (l26, (IntKind.i64.wrap (n6 + n29)), (IntKind.i64.wrap (n19 + 1))) w6) (
 F32_1 R l5 ds w)
def F32_3 (R : Rt) (l5 : SV) (n6 : Int) (l17 : SV) (n18 n19 : Int) (ds : Ds) (w : World) : Prop :=
 loopT (fun (J1 : (SV × Int × Int) -> World -> Prop) (s : SV × Int × Int) (w : World) => F32_2 R J1 s.1 s.2.1 l17 n18 s.2.2 ds w) (l5, n6, n19) w
abbrev F32_4 (R : Rt) (l5 : SV) (n6 : Int) (l17 : SV) (n18 n19 : Int) (ds : Ds) (w : World) : Prop := F32_3 R l5 n6 l17 n18 n19 ds w
def F32_k6 (R : Rt) : EP := (fun E ds w => dSl (E 5) fun l5 => dInt .i64 (E 6) fun n6 => dSl (E 17) fun l17 => dInt .i64 (E 18) fun n18 => dInt .i64 (E 19) fun n19 => F32_4 R l5 n6 l17 n18 n19 ds w)
def F32_5 (R : Rt) (l0 : SV) (ds : Ds) (w : World) : Prop :=
 Calls prog 36 #[.slice l0.a l0.len l0.cap] w fun e w7 =>
 ∃ n10 : Int, e = .returned (.int .i64 n10) /\
 Br (n10 != 0) (
 runD prog ds w7 fun w8 =>
 R (.returned (.tuple #[.slice none 0 0, .int .i64 n10])) w8) (
 Calls prog 71 #[.slice l0.a l0.len l0.cap] w7 fun e w9 =>
 ∃ n15 : Int, e = .returned (.int .i64 n15) /\
 F32_4 R ⟨none, 0, 0⟩ (IntKind.i64.wrap ((1 : Int) + n15)) l0 (l0.len : Int) 0 ds w9)
theorem c32_l : flat (bodyOf f32) = [c32_0, c32_1, c32_2, c32_3, c32_4, c32_5, c32_6, c32_7, c32_8, c32_9] := by kernel_rfl
theorem c32_7_l : flat (innerC c32_7) = [c32_7_0] := by kernel_rfl
theorem c32_7_0_l : flat (innerC c32_7_0) = [c32_7_0_0, c32_7_0_1, c32_7_0_2, c32_7_0_3] := by kernel_rfl
theorem F32_1_ok (R : Rt) (l5 : SV) (ds : Ds) (w : World) (E : Env) (e5 : E 5 = .slice l5.a l5.len l5.cap) (h : F32_1 R l5 ds w) :
    TrL prog f32.ntmps [c32_8, c32_9] (F32_q1 R) E ds w :=
  TrL_leaf (X := F32_1 R l5 ds w) (setAll_cons e5 setAll_nil) (by kernel_rfl) (by kernel_rfl) h
theorem F32_2_ok (R : Rt) (J1 : (SV × Int × Int) -> World -> Prop) (l5 : SV) (n6 : Int) (l17 : SV) (n18 n19 : Int) (ds : Ds) (w : World) (E : Env) (e5 : E 5 = .slice l5.a l5.len l5.cap) (e6 : E 6 = .int .i64 n6) (e17 : E 17 = .slice l17.a l17.len l17.cap) (e18 : E 18 = .int .i64 n18) (e19 : E 19 = .int .i64 n19) (h : F32_2 R J1 l5 n6 l17 n18 n19 ds w) :
    TrL prog f32.ntmps [c32_7_0_0, c32_7_0_1, c32_7_0_2, c32_7_0_3] (F32_q5 R J1) E ds w :=
  TrL_leaf (X := F32_2 R J1 l5 n6 l17 n18 n19 ds w) (setAll_cons e5 (setAll_cons e6 (setAll_cons e17 (setAll_cons e18 (setAll_cons e19 setAll_nil))))) (by kernel_rfl) (by kernel_rfl) h
theorem F32_3_ok (R : Rt) (l5 : SV) (n6 : Int) (l17 : SV) (n18 n19 : Int) (ds : Ds) (w : World) (E : Env) (e5 : E 5 = .slice l5.a l5.len l5.cap) (e6 : E 6 = .int .i64 n6) (e17 : E 17 = .slice l17.a l17.len l17.cap) (e18 : E 18 = .int .i64 n18) (e19 : E 19 = .int .i64 n19) (h : F32_3 R l5 n6 l17 n18 n19 ds w) :
    TrL prog f32.ntmps [c32_7_0] (F32_q4 R) E ds w :=
  TrL_one (Tr_loop' (c := innerC c32_7_0) (σ := SV × Int × Int) (enc := (fun (s : SV × Int × Int) (E : Env) => E 5 = .slice s.1.a s.1.len s.1.cap /\ E 6 = .int .i64 s.2.1 /\ E 19 = .int .i64 s.2.2)) (D := (fun E K => dSl (E 5) fun l5 => dInt .i64 (E 6) fun n6 => dInt .i64 (E 19) fun n19 => K (l5, n6, n19))) (F := (fun (J1 : (SV × Int × Int) -> World -> Prop) (s : SV × Int × Int) (w : World) => F32_2 R J1 s.1 s.2.1 l17 n18 s.2.2 ds w)) (s0 := (l5, n6, n19)) (by kernel_rfl) c32_7_0_l ⟨e5, e6, e19⟩ (by kernel_rfl) (fun E K hD => by obtain ⟨l5, e5, hD⟩ := dSl_elim hD; obtain ⟨n6, e6, hD⟩ := dInt_elim hD; obtain ⟨n19, e19, hD⟩ := dInt_elim hD; exact ⟨(l5, n6, n19), ⟨e5, e6, e19⟩, hD⟩)
      (fun J1 s E' w' he ha hF => by
      obtain ⟨e5', e6', e19'⟩ := he
      exact F32_2_ok R J1 s.1 s.2.1 l17 n18 s.2.2 ds w' E' e5' e6' ((ha 17 (by kernel_rfl)).trans e17) ((ha 18 (by kernel_rfl)).trans e18) e19' hF) h)
theorem F32_4_ok (R : Rt) (l5 : SV) (n6 : Int) (l17 : SV) (n18 n19 : Int) (ds : Ds) (w : World) (E : Env) (e5 : E 5 = .slice l5.a l5.len l5.cap) (e6 : E 6 = .int .i64 n6) (e17 : E 17 = .slice l17.a l17.len l17.cap) (e18 : E 18 = .int .i64 n18) (e19 : E 19 = .int .i64 n19) (h : F32_4 R l5 n6 l17 n18 n19 ds w) :
    TrL prog f32.ntmps [c32_7, c32_8, c32_9] (F32_q1 R) E ds w :=
  TrL_head (K := (F32_k2 R)) (Tr_block' (c := innerC c32_7) (by kernel_rfl) c32_7_l (F32_3_ok R l5 n6 l17 n18 n19 ds w E e5 e6 e17 e18 e19 h))
    (fun E' ds' w' hD => by
      obtain ⟨l5, e5, hD⟩ := dSl_elim hD; exact F32_1_ok R l5 ds' w' E' e5 hD)
theorem F32_5_ok (R : Rt) (l0 : SV) (ds : Ds) (w : World) (E : Env) (e0 : E 0 = .slice l0.a l0.len l0.cap) (h : F32_5 R l0 ds w) :
    TrL prog f32.ntmps [c32_0, c32_1, c32_2, c32_3, c32_4, c32_5, c32_6, c32_7, c32_8, c32_9] (F32_q1 R) E ds w :=
  TrL_piece (pre := [c32_0, c32_1, c32_2, c32_3, c32_4, c32_5, c32_6]) (K := (F32_k6 R)) (X := F32_5 R l0 ds w) (setAll_cons e0 setAll_nil) (by kernel_rfl) (by kernel_rfl)
    (fun E' ds' w' hD => by
      obtain ⟨l5, e5, hD⟩ := dSl_elim hD; obtain ⟨n6, e6, hD⟩ := dInt_elim hD; obtain ⟨l17, e17, hD⟩ := dSl_elim hD; obtain ⟨n18, e18, hD⟩ := dInt_elim hD; obtain ⟨n19, e19, hD⟩ := dInt_elim hD; exact F32_4_ok R l5 n6 l17 n18 n19 ds' w' E' e5 e6 e17 e18 e19 hD) h
theorem F32_calls (l0 : SV) (w : World) (R : Rt) (h : F32_5 R l0 [] w) : Calls prog 32 #[.slice l0.a l0.len l0.cap] w R :=
  calls_of_L (l := [c32_0, c32_1, c32_2, c32_3, c32_4, c32_5, c32_6, c32_7, c32_8, c32_9]) func32 (by kernel_rfl) (by rw [ntmps32]; exact Nat.le_of_ble_eq_true (by kernel_rfl)) c32_l
    (F32_5_ok R l0 [] w _ rfl h)
noncomputable def c33_0 := cI14 f33 0
noncomputable def c33_1 := cI14 f33 1
noncomputable def c33_2 := cI14 f33 2
noncomputable def c33_3 := cI14 f33 3
noncomputable def c33_4 := cI14 f33 4
noncomputable def c33_5 := cI14 f33 5
noncomputable def c33_6 := cI14 f33 6
noncomputable def c33_7 := cI14 f33 7
noncomputable def c33_8 := cI14 f33 8
noncomputable def c33_9 := cI14 f33 9
noncomputable def c33_7_0 := cJ14 c33_7 0
noncomputable def c33_7_0_0 := cJ14 c33_7_0 0
noncomputable def c33_7_0_1 := cJ14 c33_7_0 1
noncomputable def c33_7_0_2 := cJ14 c33_7_0 2
noncomputable def c33_7_0_3 := cJ14 c33_7_0 3
def F33_q1 (R : Rt) : EQ := endQ prog f33.results.toList R
def F33_1 (R : Rt) (l5 : SV) (ds : Ds) (w : World) : Prop :=
 runD prog ds w fun w1 =>
 R (.returned (.tuple #[.slice l5.a l5.len l5.cap, .int .i64 0])) w1
def F33_k2 (R : Rt) : EP := (fun E ds w => dSl (E 5) fun l5 => F33_1 R l5 ds w)
def F33_q3 (R : Rt) : EQ := (thenQ (F33_k2 R) (F33_q1 R))
def F33_q4 (R : Rt) : EQ := (blockQ 0 (F33_q3 R))
def F33_q5 (R : Rt) (J1 : (SV × Int × Int) -> World -> Prop) : EQ := (thenQ (fun E _ w => dSl (E 5) fun l5 => dInt .i64 (E 6) fun n6 => dInt .i64 (E 7) fun n7 => J1 (l5, n6, n7) w) (F33_q4 R))
def F33_2 (R : Rt) (J1 : (SV × Int × Int) -> World -> Prop) (l0 l5 : SV) (n6 n7 : Int) (ds : Ds) (w : World) : Prop :=
 Br (decide (n7 < (l0.len : Int))) (
 alE (.cells #[.int .i64 n6] 3) w fun r24 w2 =>
 ∃ l25 : SV, ∃ w3 : World, (Builtin.append_ #[55, 55] 55 #[.slice l5.a l5.len l5.cap, .slice (some ⟨r24, 0, none⟩) 1 1]).run prog w2 = .ok (.slice l25.a l25.len l25.cap) w3 /\
 ∃ a4 : Addr, l0.a = some a4 /\ 0 ≤ n7 /\ n7 < (l0.len : Int) /\
 ∃ n31 : Int, w3.cell? ((a4.add (n7.toNat * 4)).add 2) = some (.int .i64 n31) /\
 J1 (l25, (IntKind.i64.wrap (n6 + n31)), (IntKind.i64.wrap (n7 + 1))) w3) (
 F33_1 R l5 ds w)
def F33_3 (R : Rt) (l0 l5 : SV) (n6 n7 : Int) (ds : Ds) (w : World) : Prop :=
 loopT (fun (J1 : (SV × Int × Int) -> World -> Prop) (s : SV × Int × Int) (w : World) => F33_2 R J1 l0 s.1 s.2.1 s.2.2 ds w) (l5, n6, n7) w
abbrev F33_4 (R : Rt) (l0 l5 : SV) (n6 n7 : Int) (ds : Ds) (w : World) : Prop := F33_3 R l0 l5 n6 n7 ds w
def F33_k6 (R : Rt) : EP := (fun E ds w => dSl (E 0) fun l0 => dSl (E 5) fun l5 => dInt .i64 (E 6) fun n6 => dInt .i64 (E 7) fun n7 => F33_4 R l0 l5 n6 n7 ds w)
def F33_5 (R : Rt) (l0 : SV) (ds : Ds) (w : World) : Prop :=
 Calls prog 37 #[.slice l0.a l0.len l0.cap] w fun e w5 =>
 ∃ n9 : Int, e = .returned (.int .i64 n9) /\
 Br (n9 != 0) (
 runD prog ds w5 fun w6 =>
 R (.returned (.tuple #[.slice none 0 0, .int .i64 n9])) w6) (
 Calls prog 72 #[.slice l0.a l0.len l0.cap] w5 fun e w7 =>
 ∃ n14 : Int, e = .returned (.int .i64 n14) /\
 F33_4 R l0 ⟨none, 0, 0⟩ (IntKind.i64.wrap ((1 : Int) + n14)) 0 ds w7)
theorem c33_l : flat (bodyOf f33) = [c33_0, c33_1, c33_2, c33_3, c33_4, c33_5, c33_6, c33_7, c33_8, c33_9] := by kernel_rfl
theorem c33_7_l : flat (innerC c33_7) = [c33_7_0] := by kernel_rfl
theorem c33_7_0_l : flat (innerC c33_7_0) = [c33_7_0_0, c33_7_0_1, c33_7_0_2, c33_7_0_3] := by kernel_rfl
theorem F33_1_ok (R : Rt) (l5 : SV) (ds : Ds) (w : World) (E : Env) (e5 : E 5 = .slice l5.a l5.len l5.cap) (h : F33_1 R l5 ds w) :
    TrL prog f33.ntmps [c33_8, c33_9] (F33_q1 R) E ds w :=
  TrL_leaf (X := F33_1 R l5 ds w) (setAll_cons e5 setAll_nil) (by kernel_rfl) (by kernel_rfl) h
theorem F33_2_ok (R : Rt) (J1 : (SV × Int × Int) -> World -> Prop) (l0 l5 : SV) (n6 n7 : Int) (ds : Ds) (w : World) (E : Env) (e0 : E 0 = .slice l0.a l0.len l0.cap) (e5 : E 5 = .slice l5.a l5.len l5.cap) (e6 : E 6 = .int .i64 n6) (e7 : E 7 = .int .i64 n7) (h : F33_2 R J1 l0 l5 n6 n7 ds w) :
    TrL prog f33.ntmps [c33_7_0_0, c33_7_0_1, c33_7_0_2, c33_7_0_3] (F33_q5 R J1) E ds w :=
  TrL_leaf (X := F33_2 R J1 l0 l5 n6 n7 ds w) (setAll_cons e0 (setAll_cons e5 (setAll_cons e6 (setAll_cons e7 setAll_nil)))) (by kernel_rfl) (by kernel_rfl) h
theorem F33_3_ok (R : Rt) (l0 l5 : SV) (n6 n7 : Int) (ds : Ds) (w : World) (E : Env) (e0 : E 0 = .slice l0.a l0.len l0.cap) (e5 : E 5 = .slice l5.a l5.len l5.cap) (e6 : E 6 = .int .i64 n6) (e7 : E 7 = .int .i64 n7) (h : F33_3 R l0 l5 n6 n7 ds w) :
    TrL prog f33.ntmps [c33_7_0] (F33_q4 R) E ds w :=
  TrL_one (Tr_loop' (c := innerC c33_7_0) (σ := SV × Int × Int) (enc := (fun (s : SV × Int × Int) (E : Env) => E 5 = .slice s.1.a s.1.len s.1.cap /\ E 6 = .int .i64 s.2.1 /\ E 7 = .int .i64 s.2.2)) (D := (fun E K => dSl (E 5) fun l5 => dInt .i64 (E 6) fun n6 => dInt .i64 (E 7) fun n7 => K (l5, n6, n7))) (F := (fun (J1 : (SV × Int × Int) -> World -> Prop) (s : SV × Int × Int) (w : World) => F33_2 R J1 l0 s.1 s.2.1 s.2.2 ds w)) (s0 := (l5, n6, n7)) (by kernel_rfl) c33_7_0_l ⟨e5, e6, e7⟩ (by kernel_rfl) (fun E K hD => by obtain ⟨l5, e5, hD⟩ := dSl_elim hD; obtain ⟨n6, e6, hD⟩ := dInt_elim hD; obtain ⟨n7, e7, hD⟩ := dInt_elim hD; exact ⟨(l5, n6, n7), ⟨e5, e6, e7⟩, hD⟩)
      (fun J1 s E' w' he ha hF => by
      obtain ⟨e5', e6', e7'⟩ := he
      exact F33_2_ok R J1 l0 s.1 s.2.1 s.2.2 ds w' E' ((ha 0 (by kernel_rfl)).trans e0) e5' e6' e7' hF) h)
theorem F33_4_ok (R : Rt) (l0 l5 : SV) (n6 n7 : Int) (ds : Ds) (w : World) (E : Env) (e0 : E 0 = .slice l0.a l0.len l0.cap) (e5 : E 5 = .slice l5.a l5.len l5.cap) (e6 : E 6 = .int .i64 n6) (e7 : E 7 = .int .i64 n7) (h : F33_4 R l0 l5 n6 n7 ds w) :
    TrL prog f33.ntmps [c33_7, c33_8, c33_9] (F33_q1 R) E ds w :=
  TrL_head (K := (F33_k2 R)) (Tr_block' (c := innerC c33_7) (by kernel_rfl) c33_7_l (F33_3_ok R l0 l5 n6 n7 ds w E e0 e5 e6 e7 h))
    (fun E' ds' w' hD => by
      obtain ⟨l5, e5, hD⟩ := dSl_elim hD; exact F33_1_ok R l5 ds' w' E' e5 hD)
theorem F33_5_ok (R : Rt) (l0 : SV) (ds : Ds) (w : World) (E : Env) (e0 : E 0 = .slice l0.a l0.len l0.cap) (h : F33_5 R l0 ds w) :
    TrL prog f33.ntmps [c33_0, c33_1, c33_2, c33_3, c33_4, c33_5, c33_6, c33_7, c33_8, c33_9] (F33_q1 R) E ds w :=
  TrL_piece (pre := [c33_0, c33_1, c33_2, c33_3, c33_4, c33_5, c33_6]) (K := (F33_k6 R)) (X := F33_5 R l0 ds w) (setAll_cons e0 setAll_nil) (by kernel_rfl) (by kernel_rfl)
    (fun E' ds' w' hD => by
      obtain ⟨l0, e0, hD⟩ := dSl_elim hD; obtain ⟨l5, e5, hD⟩ := dSl_elim hD; obtain ⟨n6, e6, hD⟩ := dInt_elim hD; obtain ⟨n7, e7, hD⟩ := dInt_elim hD; exact F33_4_ok R l0 l5 n6 n7 ds' w' E' e0 e5 e6 e7 hD) h
theorem F33_calls (l0 : SV) (w : World) (R : Rt) (h : F33_5 R l0 [] w) : Calls prog 33 #[.slice l0.a l0.len l0.cap] w R :=
  calls_of_L (l := [c33_0, c33_1, c33_2, c33_3, c33_4, c33_5, c33_6, c33_7, c33_8, c33_9]) func33 (by kernel_rfl) (by rw [ntmps33]; exact Nat.le_of_ble_eq_true (by kernel_rfl)) c33_l
    (F33_5_ok R l0 [] w _ rfl h)
noncomputable def c38_0 := cI14 f38 0
noncomputable def c38_1 := cI14 f38 1
noncomputable def c38_2 := cI14 f38 2
noncomputable def c38_3 := cI14 f38 3
noncomputable def c38_4 := cI14 f38 4
noncomputable def c38_5 := cI14 f38 5
noncomputable def c38_6 := cI14 f38 6
noncomputable def c38_4_0 := cJ14 c38_4 0
noncomputable def c38_4_0_0 := cJ14 c38_4_0 0
noncomputable def c38_4_0_1 := cJ14 c38_4_0 1
noncomputable def c38_4_0_2 := cJ14 c38_4_0 2
noncomputable def c38_4_0_3 := cJ14 c38_4_0 3
def F38_q1 (R : Rt) : EQ := endQ prog f38.results.toList R
def F38_1 (R : Rt) (ds : Ds) (w : World) : Prop :=
 runD prog ds w fun w1 =>
 R (.returned (.bool true)) w1
def F38_k2 (R : Rt) : EP := (fun E ds w => F38_1 R ds w)
def F38_q3 (R : Rt) : EQ := (thenQ (F38_k2 R) (F38_q1 R))
def F38_q4 (R : Rt) : EQ := (blockQ 0 (F38_q3 R))
def F38_q5 (R : Rt) (J1 : (Int) -> World -> Prop) : EQ := (thenQ (fun E _ w => dInt .i64 (E 5) fun n5 => J1 n5 w) (F38_q4 R))
def F38_2 (R : Rt) (J1 : (Int) -> World -> Prop) (l0 l1 : SV) (n5 : Int) (ds : Ds) (w : World) : Prop :=
 Br (decide (n5 < (l0.len : Int))) (
 dwE w fun w2 =>
 ∃ a3 : Addr, l0.a = some a3 /\ 0 ≤ n5 /\ n5 < (l0.len : Int) /\
 ∃ n20 : Int, w2.cell? (a3.add (n5.toNat * 1)) = some (.int .i64 n20) /\
 ∃ a4 : Addr, l1.a = some a4 /\ 0 ≤ n5 /\ n5 < (l1.len : Int) /\
 ∃ n24 : Int, w2.cell? (a4.add (n5.toNat * 1)) = some (.int .i64 n24) /\
 Br (n20 != n24) (
 runD prog ds w2 fun w5 =>
 R (.returned (.bool false)) w5) (
 J1 (IntKind.i64.wrap (n5 + 1)) w2)) (
 F38_1 R ds w)
def F38_3 (R : Rt) (l0 l1 : SV) (n5 : Int) (ds : Ds) (w : World) : Prop :=
 loopT (fun (J1 : (Int) -> World -> Prop) (s : Int) (w : World) => F38_2 R J1 l0 l1 s ds w) n5 w
abbrev F38_4 (R : Rt) (l0 l1 : SV) (n5 : Int) (ds : Ds) (w : World) : Prop := F38_3 R l0 l1 n5 ds w
def F38_k6 (R : Rt) : EP := (fun E ds w => dSl (E 0) fun l0 => dSl (E 1) fun l1 => dInt .i64 (E 5) fun n5 => F38_4 R l0 l1 n5 ds w)
def F38_5 (R : Rt) (l0 l1 : SV) (ds : Ds) (w : World) : Prop :=
 Br ((l0.len : Int) != (l1.len : Int)) (
 runD prog ds w fun w6 =>
 R (.returned (.bool false)) w6) (
 F38_4 R l0 l1 0 ds w)
theorem c38_l : flat (bodyOf f38) = [c38_0, c38_1, c38_2, c38_3, c38_4, c38_5, c38_6] := by kernel_rfl
theorem c38_4_l : flat (innerC c38_4) = [c38_4_0] := by kernel_rfl
theorem c38_4_0_l : flat (innerC c38_4_0) = [c38_4_0_0, c38_4_0_1, c38_4_0_2, c38_4_0_3] := by kernel_rfl
theorem F38_1_ok (R : Rt) (ds : Ds) (w : World) (E : Env) (h : F38_1 R ds w) :
    TrL prog f38.ntmps [c38_5, c38_6] (F38_q1 R) E ds w :=
  TrL_leaf (X := F38_1 R ds w) setAll_nil (by kernel_rfl) (by kernel_rfl) h
theorem F38_2_ok (R : Rt) (J1 : (Int) -> World -> Prop) (l0 l1 : SV) (n5 : Int) (ds : Ds) (w : World) (E : Env) (e0 : E 0 = .slice l0.a l0.len l0.cap) (e1 : E 1 = .slice l1.a l1.len l1.cap) (e5 : E 5 = .int .i64 n5) (h : F38_2 R J1 l0 l1 n5 ds w) :
    TrL prog f38.ntmps [c38_4_0_0, c38_4_0_1, c38_4_0_2, c38_4_0_3] (F38_q5 R J1) E ds w :=
  TrL_leaf (X := F38_2 R J1 l0 l1 n5 ds w) (setAll_cons e0 (setAll_cons e1 (setAll_cons e5 setAll_nil))) (by kernel_rfl) (by kernel_rfl) h
theorem F38_3_ok (R : Rt) (l0 l1 : SV) (n5 : Int) (ds : Ds) (w : World) (E : Env) (e0 : E 0 = .slice l0.a l0.len l0.cap) (e1 : E 1 = .slice l1.a l1.len l1.cap) (e5 : E 5 = .int .i64 n5) (h : F38_3 R l0 l1 n5 ds w) :
    TrL prog f38.ntmps [c38_4_0] (F38_q4 R) E ds w :=
  TrL_one (Tr_loop' (c := innerC c38_4_0) (σ := Int) (enc := (fun (s : Int) (E : Env) => E 5 = .int .i64 s)) (D := (fun E K => dInt .i64 (E 5) fun n5 => K n5)) (F := (fun (J1 : (Int) -> World -> Prop) (s : Int) (w : World) => F38_2 R J1 l0 l1 s ds w)) (s0 := n5) (by kernel_rfl) c38_4_0_l e5 (by kernel_rfl) (fun E K hD => by obtain ⟨n5, e5, hD⟩ := dInt_elim hD; exact ⟨n5, e5, hD⟩)
      (fun J1 s E' w' he ha hF => by
      have e5' := he
      exact F38_2_ok R J1 l0 l1 s ds w' E' ((ha 0 (by kernel_rfl)).trans e0) ((ha 1 (by kernel_rfl)).trans e1) e5' hF) h)
theorem F38_4_ok (R : Rt) (l0 l1 : SV) (n5 : Int) (ds : Ds) (w : World) (E : Env) (e0 : E 0 = .slice l0.a l0.len l0.cap) (e1 : E 1 = .slice l1.a l1.len l1.cap) (e5 : E 5 = .int .i64 n5) (h : F38_4 R l0 l1 n5 ds w) :
    TrL prog f38.ntmps [c38_4, c38_5, c38_6] (F38_q1 R) E ds w :=
  TrL_head (K := (F38_k2 R)) (Tr_block' (c := innerC c38_4) (by kernel_rfl) c38_4_l (F38_3_ok R l0 l1 n5 ds w E e0 e1 e5 h))
    (fun E' ds' w' hD => by
      exact F38_1_ok R ds' w' E'  hD)
theorem F38_5_ok (R : Rt) (l0 l1 : SV) (ds : Ds) (w : World) (E : Env) (e0 : E 0 = .slice l0.a l0.len l0.cap) (e1 : E 1 = .slice l1.a l1.len l1.cap) (h : F38_5 R l0 l1 ds w) :
    TrL prog f38.ntmps [c38_0, c38_1, c38_2, c38_3, c38_4, c38_5, c38_6] (F38_q1 R) E ds w :=
  TrL_piece (pre := [c38_0, c38_1, c38_2, c38_3]) (K := (F38_k6 R)) (X := F38_5 R l0 l1 ds w) (setAll_cons e0 (setAll_cons e1 setAll_nil)) (by kernel_rfl) (by kernel_rfl)
    (fun E' ds' w' hD => by
      obtain ⟨l0, e0, hD⟩ := dSl_elim hD; obtain ⟨l1, e1, hD⟩ := dSl_elim hD; obtain ⟨n5, e5, hD⟩ := dInt_elim hD; exact F38_4_ok R l0 l1 n5 ds' w' E' e0 e1 e5 hD) h
theorem F38_calls (l0 l1 : SV) (w : World) (R : Rt) (h : F38_5 R l0 l1 [] w) : Calls prog 38 #[.slice l0.a l0.len l0.cap, .slice l1.a l1.len l1.cap] w R :=
  calls_of_L (l := [c38_0, c38_1, c38_2, c38_3, c38_4, c38_5, c38_6]) func38 (by kernel_rfl) (by rw [ntmps38]; exact Nat.le_of_ble_eq_true (by kernel_rfl)) c38_l
    (F38_5_ok R l0 l1 [] w _ rfl rfl h)
end Go.Proofs.YtecmfdfhpldmmaaGreatDoor

/- Shallow texts of functions, printed by program, each checked by the kernel against the loaded code. No condition. -/
set_option maxRecDepth 100000
set_option linter.unusedVariables false
namespace Go.Proofs.YtecmfdfhpldmmaaGreatDoor
open Go.Sh
open Tryz
@[reducible] noncomputable def cI15 (f : Func) (i : Nat) : Code := itemAt (flat (bodyOf f)) i
@[reducible] noncomputable def cJ15 (c : Code) (i : Nat) : Code := itemAt (flat (innerC c)) i
noncomputable def c16_0 := cI15 f16 0
noncomputable def c16_1 := cI15 f16 1
noncomputable def c16_2 := cI15 f16 2
def F16_q1 (R : Rt) : EQ := endQ prog f16.results.toList R
def F16_1 (R : Rt) (n0_0 : Int) (l0_1 l0_2 : SV) (ds : Ds) (w : World) : Prop :=
 alE (.cells #[.int .i64 n0_0, .slice l0_1.a l0_1.len l0_1.cap, .slice l0_2.a l0_2.len l0_2.cap] 35) w fun r1 w1 =>
 ∃ n3_0 : Int, w1.cell? ((⟨r1, 0, none⟩ : Addr).add 0) = some (.int .i64 n3_0) /\
 ∃ l3_1 : SV, w1.cell? ((⟨r1, 0, none⟩ : Addr).add 1) = some (.slice l3_1.a l3_1.len l3_1.cap) /\
 ∃ l3_2 : SV, w1.cell? ((⟨r1, 0, none⟩ : Addr).add 2) = some (.slice l3_2.a l3_2.len l3_2.cap) /\
 Calls prog 24 #[.agg #[.int .i64 n3_0, .slice l3_1.a l3_1.len l3_1.cap, .slice l3_2.a l3_2.len l3_2.cap]] w1 fun e w2 =>
 ∃ n4 : Int, e = .returned (.int .i64 n4) /\
 runD prog ds w2 fun w3 =>
 R (.returned (.bool (decide (n4 > 2000000)))) w3
theorem c16_l : flat (bodyOf f16) = [c16_0, c16_1, c16_2] := by kernel_rfl
theorem F16_1_ok (R : Rt) (n0_0 : Int) (l0_1 l0_2 : SV) (ds : Ds) (w : World) (E : Env) (e0 : E 0 = .agg #[.int .i64 n0_0, .slice l0_1.a l0_1.len l0_1.cap, .slice l0_2.a l0_2.len l0_2.cap]) (h : F16_1 R n0_0 l0_1 l0_2 ds w) :
    TrL prog f16.ntmps [c16_0, c16_1, c16_2] (F16_q1 R) E ds w :=
  TrL_leaf (X := F16_1 R n0_0 l0_1 l0_2 ds w) (setAll_cons e0 setAll_nil) (by kernel_rfl) (by kernel_rfl) h
theorem F16_calls (n0_0 : Int) (l0_1 l0_2 : SV) (w : World) (R : Rt) (h : F16_1 R n0_0 l0_1 l0_2 [] w) : Calls prog 16 #[.agg #[.int .i64 n0_0, .slice l0_1.a l0_1.len l0_1.cap, .slice l0_2.a l0_2.len l0_2.cap]] w R :=
  calls_of_L (l := [c16_0, c16_1, c16_2]) func16 (by kernel_rfl) (by rw [ntmps16]; exact Nat.le_of_ble_eq_true (by kernel_rfl)) c16_l
    (F16_1_ok R n0_0 l0_1 l0_2 [] w _ rfl h)
noncomputable def c24_0 := cI15 f24 0
noncomputable def c24_1 := cI15 f24 1
noncomputable def c24_2 := cI15 f24 2
noncomputable def c24_3 := cI15 f24 3
noncomputable def c24_4 := cI15 f24 4
noncomputable def c24_5 := cI15 f24 5
noncomputable def c24_6 := cI15 f24 6
noncomputable def c24_7 := cI15 f24 7
noncomputable def c24_5_0 := cJ15 c24_5 0
noncomputable def c24_5_0_0 := cJ15 c24_5_0 0
noncomputable def c24_5_0_1 := cJ15 c24_5_0 1
noncomputable def c24_5_0_2 := cJ15 c24_5_0 2
noncomputable def c24_5_0_3 := cJ15 c24_5_0 3
noncomputable def c24_3_0 := cJ15 c24_3 0
noncomputable def c24_3_0_0 := cJ15 c24_3_0 0
noncomputable def c24_3_0_1 := cJ15 c24_3_0 1
noncomputable def c24_3_0_2 := cJ15 c24_3_0 2
noncomputable def c24_3_0_3 := cJ15 c24_3_0 3
def F24_q1 (R : Rt) : EQ := endQ prog f24.results.toList R
def F24_1 (R : Rt) (n3 : Int) (ds : Ds) (w : World) : Prop :=
 runD prog ds w fun w1 =>
 R (.returned (.int .i64 n3)) w1
def F24_k2 (R : Rt) : EP := (fun E ds w => dInt .i64 (E 3) fun n3 => F24_1 R n3 ds w)
def F24_q3 (R : Rt) : EQ := (thenQ (F24_k2 R) (F24_q1 R))
def F24_q4 (R : Rt) : EQ := (blockQ 2 (F24_q3 R))
def F24_q5 (R : Rt) (J1 : (Int × Int) -> World -> Prop) : EQ := (thenQ (fun E _ w => dInt .i64 (E 3) fun n3 => dInt .i64 (E 5) fun n5 => J1 (n3, n5) w) (F24_q4 R))
def F24_2 (R : Rt) (J1 : (Int × Int) -> World -> Prop) (p1 : Option Addr) (n3 n5 : Int) (ds : Ds) (w : World) : Prop :=
 ptrE p1 fun a2 =>
 ∃ l28 : SV, w.cell? (a2.add 2) = some (.slice l28.a l28.len l28.cap) /\
 Br (decide (n5 < (l28.len : Int))) (
 ptrE p1 fun a3 =>
 ∃ l35 : SV, w.cell? (a3.add 2) = some (.slice l35.a l35.len l35.cap) /\
 ∃ a4 : Addr, l35.a = some a4 /\ 0 ≤ n5 /\ n5 < (l35.len : Int) /\
 ∃ l39 : SV, w.cell? ((a4.add (n5.toNat * 2)).add 1) = some (.slice l39.a l39.len l39.cap) /\
 Calls prog 64 #[.slice l39.a l39.len l39.cap] w fun e w5 =>
 ∃ n40 : Int, e = .returned (.int .i64 n40) /\
 J1 ((IntKind.i64.wrap (n3 + (IntKind.i64.wrap ((8 : Int) + n40)))), (IntKind.i64.wrap (n5 + 1))) w5) (
 F24_1 R n3 ds w)
def F24_3 (R : Rt) (p1 : Option Addr) (n3 n5 : Int) (ds : Ds) (w : World) : Prop :=
 loopT (fun (J1 : (Int × Int) -> World -> Prop) (s : Int × Int) (w : World) => F24_2 R J1 p1 s.1 s.2 ds w) (n3, n5) w
abbrev F24_4 (R : Rt) (p1 : Option Addr) (n3 n5 : Int) (ds : Ds) (w : World) : Prop := F24_3 R p1 n3 n5 ds w
def F24_k6 (R : Rt) : EP := (fun E ds w => dPtr (E 1) fun p1 => dInt .i64 (E 3) fun n3 => dInt .i64 (E 5) fun n5 => F24_4 R p1 n3 n5 ds w)
def F24_5 (R : Rt) (p1 : Option Addr) (n3 : Int) (ds : Ds) (w : World) : Prop :=
 F24_4 R p1 n3 0 ds w
def F24_k7 (R : Rt) : EP := (fun E ds w => dPtr (E 1) fun p1 => dInt .i64 (E 3) fun n3 => F24_5 R p1 n3 ds w)
def F24_q8 (R : Rt) : EQ := (thenQ (F24_k7 R) (F24_q1 R))
def F24_q9 (R : Rt) : EQ := (blockQ 0 (F24_q8 R))
def F24_q10 (R : Rt) (J1 : (Int × Int) -> World -> Prop) : EQ := (thenQ (fun E _ w => dInt .i64 (E 3) fun n3 => dInt .i64 (E 4) fun n4 => J1 (n3, n4) w) (F24_q9 R))
def F24_6 (R : Rt) (J1 : (Int × Int) -> World -> Prop) (p1 : Option Addr) (n3 n4 : Int) (ds : Ds) (w : World) : Prop :=
 ptrE p1 fun a6 =>
 ∃ l12 : SV, w.cell? (a6.add 1) = some (.slice l12.a l12.len l12.cap) /\
 Br (decide (n4 < (l12.len : Int))) (
 ptrE p1 fun a7 =>
 ∃ l19 : SV, w.cell? (a7.add 1) = some (.slice l19.a l19.len l19.cap) /\
 ∃ a8 : Addr, l19.a = some a8 /\ 0 ≤ n4 /\ n4 < (l19.len : Int) /\
 ∃ s23 : ByteArray, w.cell? (a8.add (n4.toNat * 4)) = some (.string s23) /\
 J1 ((IntKind.i64.wrap (n3 + (s23.size : Int))), (IntKind.i64.wrap (n4 + 1))) w) (
 F24_5 R p1 n3 ds w)
def F24_7 (R : Rt) (p1 : Option Addr) (n3 n4 : Int) (ds : Ds) (w : World) : Prop :=
 loopT (fun (J1 : (Int × Int) -> World -> Prop) (s : Int × Int) (w : World) => F24_6 R J1 p1 s.1 s.2 ds w) (n3, n4) w
abbrev F24_8 (R : Rt) (p1 : Option Addr) (n3 n4 : Int) (ds : Ds) (w : World) : Prop := F24_7 R p1 n3 n4 ds w
def F24_k11 (R : Rt) : EP := (fun E ds w => dPtr (E 1) fun p1 => dInt .i64 (E 3) fun n3 => dInt .i64 (E 4) fun n4 => F24_8 R p1 n3 n4 ds w)
def F24_9 (R : Rt) (n0_0 : Int) (l0_1 l0_2 : SV) (ds : Ds) (w : World) : Prop :=
 alE (.cells #[.int .i64 n0_0, .slice l0_1.a l0_1.len l0_1.cap, .slice l0_2.a l0_2.len l0_2.cap] 35) w fun r1 w9 =>
 ∃ l7 : SV, w9.cell? ((⟨r1, 0, none⟩ : Addr).add 1) = some (.slice l7.a l7.len l7.cap) /\
 F24_8 R (some (⟨r1, 0, none⟩ : Addr)) (IntKind.i64.wrap ((16 : Int) * (l7.len : Int))) 0 ds w9
theorem c24_l : flat (bodyOf f24) = [c24_0, c24_1, c24_2, c24_3, c24_4, c24_5, c24_6, c24_7] := by kernel_rfl
theorem c24_5_l : flat (innerC c24_5) = [c24_5_0] := by kernel_rfl
theorem c24_5_0_l : flat (innerC c24_5_0) = [c24_5_0_0, c24_5_0_1, c24_5_0_2, c24_5_0_3] := by kernel_rfl
theorem c24_3_l : flat (innerC c24_3) = [c24_3_0] := by kernel_rfl
theorem c24_3_0_l : flat (innerC c24_3_0) = [c24_3_0_0, c24_3_0_1, c24_3_0_2, c24_3_0_3] := by kernel_rfl
theorem F24_1_ok (R : Rt) (n3 : Int) (ds : Ds) (w : World) (E : Env) (e3 : E 3 = .int .i64 n3) (h : F24_1 R n3 ds w) :
    TrL prog f24.ntmps [c24_6, c24_7] (F24_q1 R) E ds w :=
  TrL_leaf (X := F24_1 R n3 ds w) (setAll_cons e3 setAll_nil) (by kernel_rfl) (by kernel_rfl) h
theorem F24_2_ok (R : Rt) (J1 : (Int × Int) -> World -> Prop) (p1 : Option Addr) (n3 n5 : Int) (ds : Ds) (w : World) (E : Env) (e1 : E 1 = .pointer p1) (e3 : E 3 = .int .i64 n3) (e5 : E 5 = .int .i64 n5) (h : F24_2 R J1 p1 n3 n5 ds w) :
    TrL prog f24.ntmps [c24_5_0_0, c24_5_0_1, c24_5_0_2, c24_5_0_3] (F24_q5 R J1) E ds w :=
  TrL_leaf (X := F24_2 R J1 p1 n3 n5 ds w) (setAll_cons e1 (setAll_cons e3 (setAll_cons e5 setAll_nil))) (by kernel_rfl) (by kernel_rfl) h
theorem F24_3_ok (R : Rt) (p1 : Option Addr) (n3 n5 : Int) (ds : Ds) (w : World) (E : Env) (e1 : E 1 = .pointer p1) (e3 : E 3 = .int .i64 n3) (e5 : E 5 = .int .i64 n5) (h : F24_3 R p1 n3 n5 ds w) :
    TrL prog f24.ntmps [c24_5_0] (F24_q4 R) E ds w :=
  TrL_one (Tr_loop' (c := innerC c24_5_0) (σ := Int × Int) (enc := (fun (s : Int × Int) (E : Env) => E 3 = .int .i64 s.1 /\ E 5 = .int .i64 s.2)) (D := (fun E K => dInt .i64 (E 3) fun n3 => dInt .i64 (E 5) fun n5 => K (n3, n5))) (F := (fun (J1 : (Int × Int) -> World -> Prop) (s : Int × Int) (w : World) => F24_2 R J1 p1 s.1 s.2 ds w)) (s0 := (n3, n5)) (by kernel_rfl) c24_5_0_l ⟨e3, e5⟩ (by kernel_rfl) (fun E K hD => by obtain ⟨n3, e3, hD⟩ := dInt_elim hD; obtain ⟨n5, e5, hD⟩ := dInt_elim hD; exact ⟨(n3, n5), ⟨e3, e5⟩, hD⟩)
      (fun J1 s E' w' he ha hF => by
      obtain ⟨e3', e5'⟩ := he
      exact F24_2_ok R J1 p1 s.1 s.2 ds w' E' ((ha 1 (by kernel_rfl)).trans e1) e3' e5' hF) h)
theorem F24_4_ok (R : Rt) (p1 : Option Addr) (n3 n5 : Int) (ds : Ds) (w : World) (E : Env) (e1 : E 1 = .pointer p1) (e3 : E 3 = .int .i64 n3) (e5 : E 5 = .int .i64 n5) (h : F24_4 R p1 n3 n5 ds w) :
    TrL prog f24.ntmps [c24_5, c24_6, c24_7] (F24_q1 R) E ds w :=
  TrL_head (K := (F24_k2 R)) (Tr_block' (c := innerC c24_5) (by kernel_rfl) c24_5_l (F24_3_ok R p1 n3 n5 ds w E e1 e3 e5 h))
    (fun E' ds' w' hD => by
      obtain ⟨n3, e3, hD⟩ := dInt_elim hD; exact F24_1_ok R n3 ds' w' E' e3 hD)
theorem F24_5_ok (R : Rt) (p1 : Option Addr) (n3 : Int) (ds : Ds) (w : World) (E : Env) (e1 : E 1 = .pointer p1) (e3 : E 3 = .int .i64 n3) (h : F24_5 R p1 n3 ds w) :
    TrL prog f24.ntmps [c24_4, c24_5, c24_6, c24_7] (F24_q1 R) E ds w :=
  TrL_piece (pre := [c24_4]) (K := (F24_k6 R)) (X := F24_5 R p1 n3 ds w) (setAll_cons e1 (setAll_cons e3 setAll_nil)) (by kernel_rfl) (by kernel_rfl)
    (fun E' ds' w' hD => by
      obtain ⟨p1, e1, hD⟩ := dPtr_elim hD; obtain ⟨n3, e3, hD⟩ := dInt_elim hD; obtain ⟨n5, e5, hD⟩ := dInt_elim hD; exact F24_4_ok R p1 n3 n5 ds' w' E' e1 e3 e5 hD) h
theorem F24_6_ok (R : Rt) (J1 : (Int × Int) -> World -> Prop) (p1 : Option Addr) (n3 n4 : Int) (ds : Ds) (w : World) (E : Env) (e1 : E 1 = .pointer p1) (e3 : E 3 = .int .i64 n3) (e4 : E 4 = .int .i64 n4) (h : F24_6 R J1 p1 n3 n4 ds w) :
    TrL prog f24.ntmps [c24_3_0_0, c24_3_0_1, c24_3_0_2, c24_3_0_3] (F24_q10 R J1) E ds w :=
  TrL_leaf (X := F24_6 R J1 p1 n3 n4 ds w) (setAll_cons e1 (setAll_cons e3 (setAll_cons e4 setAll_nil))) (by kernel_rfl) (by kernel_rfl) h
theorem F24_7_ok (R : Rt) (p1 : Option Addr) (n3 n4 : Int) (ds : Ds) (w : World) (E : Env) (e1 : E 1 = .pointer p1) (e3 : E 3 = .int .i64 n3) (e4 : E 4 = .int .i64 n4) (h : F24_7 R p1 n3 n4 ds w) :
    TrL prog f24.ntmps [c24_3_0] (F24_q9 R) E ds w :=
  TrL_one (Tr_loop' (c := innerC c24_3_0) (σ := Int × Int) (enc := (fun (s : Int × Int) (E : Env) => E 3 = .int .i64 s.1 /\ E 4 = .int .i64 s.2)) (D := (fun E K => dInt .i64 (E 3) fun n3 => dInt .i64 (E 4) fun n4 => K (n3, n4))) (F := (fun (J1 : (Int × Int) -> World -> Prop) (s : Int × Int) (w : World) => F24_6 R J1 p1 s.1 s.2 ds w)) (s0 := (n3, n4)) (by kernel_rfl) c24_3_0_l ⟨e3, e4⟩ (by kernel_rfl) (fun E K hD => by obtain ⟨n3, e3, hD⟩ := dInt_elim hD; obtain ⟨n4, e4, hD⟩ := dInt_elim hD; exact ⟨(n3, n4), ⟨e3, e4⟩, hD⟩)
      (fun J1 s E' w' he ha hF => by
      obtain ⟨e3', e4'⟩ := he
      exact F24_6_ok R J1 p1 s.1 s.2 ds w' E' ((ha 1 (by kernel_rfl)).trans e1) e3' e4' hF) h)
theorem F24_8_ok (R : Rt) (p1 : Option Addr) (n3 n4 : Int) (ds : Ds) (w : World) (E : Env) (e1 : E 1 = .pointer p1) (e3 : E 3 = .int .i64 n3) (e4 : E 4 = .int .i64 n4) (h : F24_8 R p1 n3 n4 ds w) :
    TrL prog f24.ntmps [c24_3, c24_4, c24_5, c24_6, c24_7] (F24_q1 R) E ds w :=
  TrL_head (K := (F24_k7 R)) (Tr_block' (c := innerC c24_3) (by kernel_rfl) c24_3_l (F24_7_ok R p1 n3 n4 ds w E e1 e3 e4 h))
    (fun E' ds' w' hD => by
      obtain ⟨p1, e1, hD⟩ := dPtr_elim hD; obtain ⟨n3, e3, hD⟩ := dInt_elim hD; exact F24_5_ok R p1 n3 ds' w' E' e1 e3 hD)
theorem F24_9_ok (R : Rt) (n0_0 : Int) (l0_1 l0_2 : SV) (ds : Ds) (w : World) (E : Env) (e0 : E 0 = .agg #[.int .i64 n0_0, .slice l0_1.a l0_1.len l0_1.cap, .slice l0_2.a l0_2.len l0_2.cap]) (h : F24_9 R n0_0 l0_1 l0_2 ds w) :
    TrL prog f24.ntmps [c24_0, c24_1, c24_2, c24_3, c24_4, c24_5, c24_6, c24_7] (F24_q1 R) E ds w :=
  TrL_piece (pre := [c24_0, c24_1, c24_2]) (K := (F24_k11 R)) (X := F24_9 R n0_0 l0_1 l0_2 ds w) (setAll_cons e0 setAll_nil) (by kernel_rfl) (by kernel_rfl)
    (fun E' ds' w' hD => by
      obtain ⟨p1, e1, hD⟩ := dPtr_elim hD; obtain ⟨n3, e3, hD⟩ := dInt_elim hD; obtain ⟨n4, e4, hD⟩ := dInt_elim hD; exact F24_8_ok R p1 n3 n4 ds' w' E' e1 e3 e4 hD) h
theorem F24_calls (n0_0 : Int) (l0_1 l0_2 : SV) (w : World) (R : Rt) (h : F24_9 R n0_0 l0_1 l0_2 [] w) : Calls prog 24 #[.agg #[.int .i64 n0_0, .slice l0_1.a l0_1.len l0_1.cap, .slice l0_2.a l0_2.len l0_2.cap]] w R :=
  calls_of_L (l := [c24_0, c24_1, c24_2, c24_3, c24_4, c24_5, c24_6, c24_7]) func24 (by kernel_rfl) (by rw [ntmps24]; exact Nat.le_of_ble_eq_true (by kernel_rfl)) c24_l
    (F24_9_ok R n0_0 l0_1 l0_2 [] w _ rfl h)
noncomputable def c64_0 := cI15 f64 0
noncomputable def c64_1 := cI15 f64 1
noncomputable def c64_2 := cI15 f64 2
noncomputable def c64_3 := cI15 f64 3
noncomputable def c64_4 := cI15 f64 4
noncomputable def c64_5 := cI15 f64 5
noncomputable def c64_3_0 := cJ15 c64_3 0
noncomputable def c64_3_0_0 := cJ15 c64_3_0 0
noncomputable def c64_3_0_1 := cJ15 c64_3_0 1
noncomputable def c64_3_0_2 := cJ15 c64_3_0 2
noncomputable def c64_3_0_3 := cJ15 c64_3_0 3
def F64_q1 (R : Rt) : EQ := endQ prog f64.results.toList R
def F64_1 (R : Rt) (n3 : Int) (ds : Ds) (w : World) : Prop :=
 runD prog ds w fun w1 =>
 R (.returned (.int .i64 n3)) w1
def F64_k2 (R : Rt) : EP := (fun E ds w => dInt .i64 (E 3) fun n3 => F64_1 R n3 ds w)
def F64_q3 (R : Rt) : EQ := (thenQ (F64_k2 R) (F64_q1 R))
def F64_q4 (R : Rt) : EQ := (blockQ 0 (F64_q3 R))
def F64_q5 (R : Rt) (J1 : (Int × Int) -> World -> Prop) : EQ := (thenQ (fun E _ w => dInt .i64 (E 3) fun n3 => dInt .i64 (E 4) fun n4 => J1 (n3, n4) w) (F64_q4 R))
def F64_2 (R : Rt) (J1 : (Int × Int) -> World -> Prop) (l0 : SV) (n3 n4 : Int) (ds : Ds) (w : World) : Prop :=
 Br (decide (n4 < (l0.len : Int))) (
 ∃ a2 : Addr, l0.a = some a2 /\ 0 ≤ n4 /\ n4 < (l0.len : Int) /\
 ∃ s19 : ByteArray, w.cell? ((a2.add (n4.toNat * 3)).add 2) = some (.string s19) /\
 J1 ((IntKind.i64.wrap (n3 + (s19.size : Int))), (IntKind.i64.wrap (n4 + 1))) w) (
 F64_1 R n3 ds w)
def F64_3 (R : Rt) (l0 : SV) (n3 n4 : Int) (ds : Ds) (w : World) : Prop :=
 loopT (fun (J1 : (Int × Int) -> World -> Prop) (s : Int × Int) (w : World) => F64_2 R J1 l0 s.1 s.2 ds w) (n3, n4) w
abbrev F64_4 (R : Rt) (l0 : SV) (n3 n4 : Int) (ds : Ds) (w : World) : Prop := F64_3 R l0 n3 n4 ds w
def F64_k6 (R : Rt) : EP := (fun E ds w => dSl (E 0) fun l0 => dInt .i64 (E 3) fun n3 => dInt .i64 (E 4) fun n4 => F64_4 R l0 n3 n4 ds w)
def F64_5 (R : Rt) (l0 : SV) (ds : Ds) (w : World) : Prop :=
 F64_4 R l0 (IntKind.i64.wrap ((8 : Int) * (l0.len : Int))) 0 ds w
theorem c64_l : flat (bodyOf f64) = [c64_0, c64_1, c64_2, c64_3, c64_4, c64_5] := by kernel_rfl
theorem c64_3_l : flat (innerC c64_3) = [c64_3_0] := by kernel_rfl
theorem c64_3_0_l : flat (innerC c64_3_0) = [c64_3_0_0, c64_3_0_1, c64_3_0_2, c64_3_0_3] := by kernel_rfl
theorem F64_1_ok (R : Rt) (n3 : Int) (ds : Ds) (w : World) (E : Env) (e3 : E 3 = .int .i64 n3) (h : F64_1 R n3 ds w) :
    TrL prog f64.ntmps [c64_4, c64_5] (F64_q1 R) E ds w :=
  TrL_leaf (X := F64_1 R n3 ds w) (setAll_cons e3 setAll_nil) (by kernel_rfl) (by kernel_rfl) h
theorem F64_2_ok (R : Rt) (J1 : (Int × Int) -> World -> Prop) (l0 : SV) (n3 n4 : Int) (ds : Ds) (w : World) (E : Env) (e0 : E 0 = .slice l0.a l0.len l0.cap) (e3 : E 3 = .int .i64 n3) (e4 : E 4 = .int .i64 n4) (h : F64_2 R J1 l0 n3 n4 ds w) :
    TrL prog f64.ntmps [c64_3_0_0, c64_3_0_1, c64_3_0_2, c64_3_0_3] (F64_q5 R J1) E ds w :=
  TrL_leaf (X := F64_2 R J1 l0 n3 n4 ds w) (setAll_cons e0 (setAll_cons e3 (setAll_cons e4 setAll_nil))) (by kernel_rfl) (by kernel_rfl) h
theorem F64_3_ok (R : Rt) (l0 : SV) (n3 n4 : Int) (ds : Ds) (w : World) (E : Env) (e0 : E 0 = .slice l0.a l0.len l0.cap) (e3 : E 3 = .int .i64 n3) (e4 : E 4 = .int .i64 n4) (h : F64_3 R l0 n3 n4 ds w) :
    TrL prog f64.ntmps [c64_3_0] (F64_q4 R) E ds w :=
  TrL_one (Tr_loop' (c := innerC c64_3_0) (σ := Int × Int) (enc := (fun (s : Int × Int) (E : Env) => E 3 = .int .i64 s.1 /\ E 4 = .int .i64 s.2)) (D := (fun E K => dInt .i64 (E 3) fun n3 => dInt .i64 (E 4) fun n4 => K (n3, n4))) (F := (fun (J1 : (Int × Int) -> World -> Prop) (s : Int × Int) (w : World) => F64_2 R J1 l0 s.1 s.2 ds w)) (s0 := (n3, n4)) (by kernel_rfl) c64_3_0_l ⟨e3, e4⟩ (by kernel_rfl) (fun E K hD => by obtain ⟨n3, e3, hD⟩ := dInt_elim hD; obtain ⟨n4, e4, hD⟩ := dInt_elim hD; exact ⟨(n3, n4), ⟨e3, e4⟩, hD⟩)
      (fun J1 s E' w' he ha hF => by
      obtain ⟨e3', e4'⟩ := he
      exact F64_2_ok R J1 l0 s.1 s.2 ds w' E' ((ha 0 (by kernel_rfl)).trans e0) e3' e4' hF) h)
theorem F64_4_ok (R : Rt) (l0 : SV) (n3 n4 : Int) (ds : Ds) (w : World) (E : Env) (e0 : E 0 = .slice l0.a l0.len l0.cap) (e3 : E 3 = .int .i64 n3) (e4 : E 4 = .int .i64 n4) (h : F64_4 R l0 n3 n4 ds w) :
    TrL prog f64.ntmps [c64_3, c64_4, c64_5] (F64_q1 R) E ds w :=
  TrL_head (K := (F64_k2 R)) (Tr_block' (c := innerC c64_3) (by kernel_rfl) c64_3_l (F64_3_ok R l0 n3 n4 ds w E e0 e3 e4 h))
    (fun E' ds' w' hD => by
      obtain ⟨n3, e3, hD⟩ := dInt_elim hD; exact F64_1_ok R n3 ds' w' E' e3 hD)
theorem F64_5_ok (R : Rt) (l0 : SV) (ds : Ds) (w : World) (E : Env) (e0 : E 0 = .slice l0.a l0.len l0.cap) (h : F64_5 R l0 ds w) :
    TrL prog f64.ntmps [c64_0, c64_1, c64_2, c64_3, c64_4, c64_5] (F64_q1 R) E ds w :=
  TrL_piece (pre := [c64_0, c64_1, c64_2]) (K := (F64_k6 R)) (X := F64_5 R l0 ds w) (setAll_cons e0 setAll_nil) (by kernel_rfl) (by kernel_rfl)
    (fun E' ds' w' hD => by
      obtain ⟨l0, e0, hD⟩ := dSl_elim hD; obtain ⟨n3, e3, hD⟩ := dInt_elim hD; obtain ⟨n4, e4, hD⟩ := dInt_elim hD; exact F64_4_ok R l0 n3 n4 ds' w' E' e0 e3 e4 hD) h
theorem F64_calls (l0 : SV) (w : World) (R : Rt) (h : F64_5 R l0 [] w) : Calls prog 64 #[.slice l0.a l0.len l0.cap] w R :=
  calls_of_L (l := [c64_0, c64_1, c64_2, c64_3, c64_4, c64_5]) func64 (by kernel_rfl) (by rw [ntmps64]; exact Nat.le_of_ble_eq_true (by kernel_rfl)) c64_l
    (F64_5_ok R l0 [] w _ rfl h)
end Go.Proofs.YtecmfdfhpldmmaaGreatDoor

/- Shallow texts of functions, printed by program, each checked by the kernel against the loaded code. No condition. -/
set_option maxRecDepth 100000
set_option linter.unusedVariables false
namespace Go.Proofs.YtecmfdfhpldmmaaGreatDoor
open Go.Sh
open Tryz
@[reducible] noncomputable def cI16 (f : Func) (i : Nat) : Code := itemAt (flat (bodyOf f)) i
@[reducible] noncomputable def cJ16 (c : Code) (i : Nat) : Code := itemAt (flat (innerC c)) i
noncomputable def c5_0 := cI16 f5 0
noncomputable def c5_1 := cI16 f5 1
noncomputable def c5_2 := cI16 f5 2
noncomputable def c5_3 := cI16 f5 3
noncomputable def c5_4 := cI16 f5 4
noncomputable def c5_5 := cI16 f5 5
noncomputable def c5_6 := cI16 f5 6
noncomputable def c5_7 := cI16 f5 7
noncomputable def c5_8 := cI16 f5 8
def F5_q1 (R : Rt) : EQ := endQ prog f5.results.toList R
def F5_1 (R : Rt) (l0 : SV) (s1 : ByteArray) (ds : Ds) (w : World) : Prop :=
 Calls prog 24 #[.agg #[.int .i64 0, .slice l0.a l0.len l0.cap, .slice none 0 0]] w fun e w1 =>
 ∃ n17 : Int, e = .returned (.int .i64 n17) /\
 Br (decide ((IntKind.i64.wrap ((s1.size : Int) + n17)) > 2000000)) (
 Calls prog 12 #[] w1 fun e w2 =>
 ∃ b20 : Bool, e = .returned (.bool b20) /\
 runD prog ds w2 fun w3 =>
 R (.returned (.bool b20)) w3) (
 Calls prog 25 #[.slice l0.a l0.len l0.cap] w1 fun e w4 =>
 ∃ b23_0_0 : Bool, ∃ l23_0_1 : SV, ∃ n23_1 : Int, e = .returned (.tuple #[.agg #[.bool b23_0_0, .slice l23_0_1.a l23_0_1.len l23_0_1.cap], .int .i64 n23_1]) /\
 alE (.cells #[.bool false, .slice none 0 0] 46) w4 fun r5 w5 =>
 stA prog 46 (⟨r5, 0, none⟩ : Addr) #[.bool b23_0_0, .slice l23_0_1.a l23_0_1.len l23_0_1.cap] w5 fun w6 =>
 Calls prog 26 #[.slice l0.a l0.len l0.cap] w6 fun e w7 =>
 ∃ b28_0_0 : Bool, ∃ l28_0_1 : SV, ∃ n28_1 : Int, e = .returned (.tuple #[.agg #[.bool b28_0_0, .slice l28_0_1.a l28_0_1.len l28_0_1.cap], .int .i64 n28_1]) /\
 alE (.cells #[.bool false, .slice none 0 0] 46) w7 fun r7 w8 =>
 stA prog 46 (⟨r7, 0, none⟩ : Addr) #[.bool b28_0_0, .slice l28_0_1.a l28_0_1.len l28_0_1.cap] w8 fun w9 =>
 Calls prog 27 #[.slice l0.a l0.len l0.cap, .string s1] w9 fun e w10 =>
 ∃ n34_0 : Int, ∃ b34_1 : Bool, e = .returned (.tuple #[.int .i64 n34_0, .bool b34_1]) /\
 Calls prog 28 #[.slice l0.a l0.len l0.cap, .string s1] w10 fun e w11 =>
 ∃ n40_0 : Int, ∃ b40_1 : Bool, e = .returned (.tuple #[.int .i64 n40_0, .bool b40_1]) /\
 ∃ b43_0 : Bool, w11.cell? ((⟨r5, 0, none⟩ : Addr).add 0) = some (.bool b43_0) /\
 ∃ l43_1 : SV, w11.cell? ((⟨r5, 0, none⟩ : Addr).add 1) = some (.slice l43_1.a l43_1.len l43_1.cap) /\
 ∃ b44_0 : Bool, w11.cell? ((⟨r7, 0, none⟩ : Addr).add 0) = some (.bool b44_0) /\
 ∃ l44_1 : SV, w11.cell? ((⟨r7, 0, none⟩ : Addr).add 1) = some (.slice l44_1.a l44_1.len l44_1.cap) /\
 Calls prog 29 #[.agg #[.bool b43_0, .slice l43_1.a l43_1.len l43_1.cap], .agg #[.bool b44_0, .slice l44_1.a l44_1.len l44_1.cap]] w11 fun e w12 =>
 ∃ b45 : Bool, e = .returned (.bool b45) /\
 Br b45 (
 Br (n23_1 == n28_1) (
 Br (n34_0 == n40_0) (
 Br (b34_1 == b40_1) (
 Calls prog 12 #[] w12 fun e w13 =>
 ∃ b62 : Bool, e = .returned (.bool b62) /\
 runD prog ds w13 fun w14 =>
 R (.returned (.bool b62)) w14) (
 runD prog ds w12 fun w15 =>
 R (.returned (.bool false)) w15)) (
 runD prog ds w12 fun w16 =>
 R (.returned (.bool false)) w16)) (
 runD prog ds w12 fun w17 =>
 R (.returned (.bool false)) w17)) (
 runD prog ds w12 fun w18 =>
 R (.returned (.bool false)) w18))
theorem c5_l : flat (bodyOf f5) = [c5_0, c5_1, c5_2, c5_3, c5_4, c5_5, c5_6, c5_7, c5_8] := by kernel_rfl
theorem F5_1_ok (R : Rt) (l0 : SV) (s1 : ByteArray) (ds : Ds) (w : World) (E : Env) (e0 : E 0 = .slice l0.a l0.len l0.cap) (e1 : E 1 = .string s1) (h : F5_1 R l0 s1 ds w) :
    TrL prog f5.ntmps [c5_0, c5_1, c5_2, c5_3, c5_4, c5_5, c5_6, c5_7, c5_8] (F5_q1 R) E ds w :=
  TrL_leaf (X := F5_1 R l0 s1 ds w) (setAll_cons e0 (setAll_cons e1 setAll_nil)) (by kernel_rfl) (by kernel_rfl) h
theorem F5_calls (l0 : SV) (s1 : ByteArray) (w : World) (R : Rt) (h : F5_1 R l0 s1 [] w) : Calls prog 5 #[.slice l0.a l0.len l0.cap, .string s1] w R :=
  calls_of_L (l := [c5_0, c5_1, c5_2, c5_3, c5_4, c5_5, c5_6, c5_7, c5_8]) func5 (by kernel_rfl) (by rw [ntmps5]; exact Nat.le_of_ble_eq_true (by kernel_rfl)) c5_l
    (F5_1_ok R l0 s1 [] w _ rfl rfl h)
noncomputable def c25_0 := cI16 f25 0
noncomputable def c25_1 := cI16 f25 1
noncomputable def c25_2 := cI16 f25 2
noncomputable def c25_3 := cI16 f25 3
noncomputable def c25_4 := cI16 f25 4
noncomputable def c25_5 := cI16 f25 5
noncomputable def c25_6 := cI16 f25 6
noncomputable def c25_7 := cI16 f25 7
noncomputable def c25_8 := cI16 f25 8
noncomputable def c25_6_0 := cJ16 c25_6 0
noncomputable def c25_6_0_0 := cJ16 c25_6_0 0
noncomputable def c25_6_0_1 := cJ16 c25_6_0 1
noncomputable def c25_6_0_2 := cJ16 c25_6_0 2
noncomputable def c25_6_0_3 := cJ16 c25_6_0 3
def F25_q1 (R : Rt) : EQ := endQ prog f25.results.toList R
def F25_1 (R : Rt) (p2 p5 : Option Addr) (ds : Ds) (w : World) : Prop :=
 ptrE p5 fun a1 =>
 ∃ b28_0 : Bool, w.cell? (a1.add 0) = some (.bool b28_0) /\
 ∃ l28_1 : SV, w.cell? (a1.add 1) = some (.slice l28_1.a l28_1.len l28_1.cap) /\
 ptrE p2 fun a2 =>
 stA prog 46 a2 #[.bool b28_0, .slice l28_1.a l28_1.len l28_1.cap] w fun w3 =>
 runD prog ds w3 fun w4 =>
 ptrE p2 fun a5 =>
 ∃ bR0_0 : Bool, w4.cell? (a5.add 0) = some (.bool bR0_0) /\
 ∃ lR0_1 : SV, w4.cell? (a5.add 1) = some (.slice lR0_1.a lR0_1.len lR0_1.cap) /\
 R (.returned (.tuple #[.agg #[.bool bR0_0, .slice lR0_1.a lR0_1.len lR0_1.cap], .int .i64 0])) w4
def F25_k2 (R : Rt) : EP := (fun E ds w => dPtr (E 2) fun p2 => dPtr (E 5) fun p5 => F25_1 R p2 p5 ds w)
def F25_q3 (R : Rt) : EQ := (thenQ (F25_k2 R) (F25_q1 R))
def F25_q4 (R : Rt) : EQ := (blockQ 0 (F25_q3 R))
def F25_q5 (R : Rt) (J1 : (Int) -> World -> Prop) : EQ := (thenQ (fun E _ w => dInt .i64 (E 16) fun n16 => J1 n16 w) (F25_q4 R))
def F25_2 (R : Rt) (J1 : (Int) -> World -> Prop) (p2 p5 : Option Addr) (l14 : SV) (n15 n16 : Int) (ds : Ds) (w : World) : Prop :=
 Br (decide (n16 < n15)) (
 ∃ a6 : Addr, l14.a = some a6 /\ 0 ≤ n16 /\ n16 < (l14.len : Int) /\
 ∃ s19_0 : ByteArray, w.cell? ((a6.add (n16.toNat * 4)).add 0) = some (.string s19_0) /\
 ∃ n19_1 : Int, w.cell? ((a6.add (n16.toNat * 4)).add 1) = some (.int .i64 n19_1) /\
 ∃ n19_2 : Int, w.cell? ((a6.add (n16.toNat * 4)).add 2) = some (.int .i64 n19_2) /\
 ∃ b19_3 : Bool, w.cell? ((a6.add (n16.toNat * 4)).add 3) = some (.bool b19_3) /\
 alE (.cells #[.string (⟨#[]⟩ : ByteArray), .int .i64 0, .int .i64 0, .bool false] 23) w fun r7 w7 =>
 stA prog 23 (⟨r7, 0, none⟩ : Addr) #[.string s19_0, .int .i64 n19_1, .int .i64 n19_2, .bool b19_3] w7 fun w8 =>
 dwE w8 fun w9 =>
 ∃ S1 : World -> Prop, S1 w9 /\
 ptrE p5 fun a10 =>
 ∃ l21 : SV, (∀ w', S1 w' -> w'.cell? (a10.add 1) = some (.slice l21.a l21.len l21.cap)) /\
 ∃ s22_0 : ByteArray, (∀ w', S1 w' -> w'.cell? ((⟨r7, 0, none⟩ : Addr).add 0) = some (.string s22_0)) /\
 ∃ n22_1 : Int, (∀ w', S1 w' -> w'.cell? ((⟨r7, 0, none⟩ : Addr).add 1) = some (.int .i64 n22_1)) /\
 ∃ n22_2 : Int, (∀ w', S1 w' -> w'.cell? ((⟨r7, 0, none⟩ : Addr).add 2) = some (.int .i64 n22_2)) /\
 ∃ b22_3 : Bool, (∀ w', S1 w' -> w'.cell? ((⟨r7, 0, none⟩ : Addr).add 3) = some (.bool b22_3)) /\
 Calls prog 50 #[.agg #[.string s22_0, .int .i64 n22_1, .int .i64 n22_2, .bool b22_3]] w9 fun e w11 =>
 ∃ n23_0 : Int, ∃ n23_1 : Int, ∃ s23_2 : ByteArray, e = .returned (.agg #[.int .i64 n23_0, .int .i64 n23_1, .string s23_2]) /\
 S1 w11 /\
 alE (.cells #[.int .i64 n23_0, .int .i64 n23_1, .string s23_2] 25) w11 fun r24 w12 =>
 S1 w12 /\
 ∃ l25 : SV, ∃ w13 : World, (Builtin.append_ #[44, 44] 44 #[.slice l21.a l21.len l21.cap, .slice (some ⟨r24, 0, none⟩) 1 1]).run prog w12 = .ok (.slice l25.a l25.len l25.cap) w13 /\
 ptrE p5 fun a14 =>
 st1 (a14.add 1) (.slice l25.a l25.len l25.cap) w13 fun w15 =>
 J1 (IntKind.i64.wrap (n16 + 1)) w15) (
 F25_1 R p2 p5 ds w)
def F25_3 (R : Rt) (p2 p5 : Option Addr) (l14 : SV) (n15 n16 : Int) (ds : Ds) (w : World) : Prop :=
 loopT (fun (J1 : (Int) -> World -> Prop) (s : Int) (w : World) => F25_2 R J1 p2 p5 l14 n15 s ds w) n16 w
abbrev F25_4 (R : Rt) (p2 p5 : Option Addr) (l14 : SV) (n15 n16 : Int) (ds : Ds) (w : World) : Prop := F25_3 R p2 p5 l14 n15 n16 ds w
def F25_k6 (R : Rt) : EP := (fun E ds w => dPtr (E 2) fun p2 => dPtr (E 5) fun p5 => dSl (E 14) fun l14 => dInt .i64 (E 15) fun n15 => dInt .i64 (E 16) fun n16 => F25_4 R p2 p5 l14 n15 n16 ds w)
def F25_5 (R : Rt) (l0 : SV) (ds : Ds) (w : World) : Prop :=
 alE (.cells #[.bool false, .slice none 0 0] 46) w fun r2 w16 =>
 Calls prog 36 #[.slice l0.a l0.len l0.cap] w16 fun e w17 =>
 ∃ n9 : Int, e = .returned (.int .i64 n9) /\
 Br (n9 != 0) (
 stA prog 46 (⟨r2, 0, none⟩ : Addr) #[.bool false, .slice none 0 0] w17 fun w18 =>
 runD prog ds w18 fun w19 =>
 ∃ bR0_0 : Bool, w19.cell? ((⟨r2, 0, none⟩ : Addr).add 0) = some (.bool bR0_0) /\
 ∃ lR0_1 : SV, w19.cell? ((⟨r2, 0, none⟩ : Addr).add 1) = some (.slice lR0_1.a lR0_1.len lR0_1.cap) /\
 R (.returned (.tuple #[.agg #[.bool bR0_0, .slice lR0_1.a lR0_1.len lR0_1.cap], .int .i64 n9])) w19) (
 alE (.cells #[.bool false, .slice none 0 0] 46) w17 fun r5 w20 =>
 F25_4 R (some (⟨r2, 0, none⟩ : Addr)) (some (⟨r5, 0, none⟩ : Addr)) l0 (l0.len : Int) 0 ds w20)
theorem c25_l : flat (bodyOf f25) = [c25_0, c25_1, c25_2, c25_3, c25_4, c25_5, c25_6, c25_7, c25_8] := by kernel_rfl
theorem c25_6_l : flat (innerC c25_6) = [c25_6_0] := by kernel_rfl
theorem c25_6_0_l : flat (innerC c25_6_0) = [c25_6_0_0, c25_6_0_1, c25_6_0_2, c25_6_0_3] := by kernel_rfl
theorem F25_1_ok (R : Rt) (p2 p5 : Option Addr) (ds : Ds) (w : World) (E : Env) (e2 : E 2 = .pointer p2) (e5 : E 5 = .pointer p5) (h : F25_1 R p2 p5 ds w) :
    TrL prog f25.ntmps [c25_7, c25_8] (F25_q1 R) E ds w :=
  TrL_leaf (X := F25_1 R p2 p5 ds w) (setAll_cons e2 (setAll_cons e5 setAll_nil)) (by kernel_rfl) (by kernel_rfl) h
theorem F25_2_ok (R : Rt) (J1 : (Int) -> World -> Prop) (p2 p5 : Option Addr) (l14 : SV) (n15 n16 : Int) (ds : Ds) (w : World) (E : Env) (e2 : E 2 = .pointer p2) (e5 : E 5 = .pointer p5) (e14 : E 14 = .slice l14.a l14.len l14.cap) (e15 : E 15 = .int .i64 n15) (e16 : E 16 = .int .i64 n16) (h : F25_2 R J1 p2 p5 l14 n15 n16 ds w) :
    TrL prog f25.ntmps [c25_6_0_0, c25_6_0_1, c25_6_0_2, c25_6_0_3] (F25_q5 R J1) E ds w :=
  TrL_leaf (X := F25_2 R J1 p2 p5 l14 n15 n16 ds w) (setAll_cons e2 (setAll_cons e5 (setAll_cons e14 (setAll_cons e15 (setAll_cons e16 setAll_nil))))) (by kernel_rfl) (by kernel_rfl) h
theorem F25_3_ok (R : Rt) (p2 p5 : Option Addr) (l14 : SV) (n15 n16 : Int) (ds : Ds) (w : World) (E : Env) (e2 : E 2 = .pointer p2) (e5 : E 5 = .pointer p5) (e14 : E 14 = .slice l14.a l14.len l14.cap) (e15 : E 15 = .int .i64 n15) (e16 : E 16 = .int .i64 n16) (h : F25_3 R p2 p5 l14 n15 n16 ds w) :
    TrL prog f25.ntmps [c25_6_0] (F25_q4 R) E ds w :=
  TrL_one (Tr_loop' (c := innerC c25_6_0) (σ := Int) (enc := (fun (s : Int) (E : Env) => E 16 = .int .i64 s)) (D := (fun E K => dInt .i64 (E 16) fun n16 => K n16)) (F := (fun (J1 : (Int) -> World -> Prop) (s : Int) (w : World) => F25_2 R J1 p2 p5 l14 n15 s ds w)) (s0 := n16) (by kernel_rfl) c25_6_0_l e16 (by kernel_rfl) (fun E K hD => by obtain ⟨n16, e16, hD⟩ := dInt_elim hD; exact ⟨n16, e16, hD⟩)
      (fun J1 s E' w' he ha hF => by
      have e16' := he
      exact F25_2_ok R J1 p2 p5 l14 n15 s ds w' E' ((ha 2 (by kernel_rfl)).trans e2) ((ha 5 (by kernel_rfl)).trans e5) ((ha 14 (by kernel_rfl)).trans e14) ((ha 15 (by kernel_rfl)).trans e15) e16' hF) h)
theorem F25_4_ok (R : Rt) (p2 p5 : Option Addr) (l14 : SV) (n15 n16 : Int) (ds : Ds) (w : World) (E : Env) (e2 : E 2 = .pointer p2) (e5 : E 5 = .pointer p5) (e14 : E 14 = .slice l14.a l14.len l14.cap) (e15 : E 15 = .int .i64 n15) (e16 : E 16 = .int .i64 n16) (h : F25_4 R p2 p5 l14 n15 n16 ds w) :
    TrL prog f25.ntmps [c25_6, c25_7, c25_8] (F25_q1 R) E ds w :=
  TrL_head (K := (F25_k2 R)) (Tr_block' (c := innerC c25_6) (by kernel_rfl) c25_6_l (F25_3_ok R p2 p5 l14 n15 n16 ds w E e2 e5 e14 e15 e16 h))
    (fun E' ds' w' hD => by
      obtain ⟨p2, e2, hD⟩ := dPtr_elim hD; obtain ⟨p5, e5, hD⟩ := dPtr_elim hD; exact F25_1_ok R p2 p5 ds' w' E' e2 e5 hD)
theorem F25_5_ok (R : Rt) (l0 : SV) (ds : Ds) (w : World) (E : Env) (e0 : E 0 = .slice l0.a l0.len l0.cap) (h : F25_5 R l0 ds w) :
    TrL prog f25.ntmps [c25_0, c25_1, c25_2, c25_3, c25_4, c25_5, c25_6, c25_7, c25_8] (F25_q1 R) E ds w :=
  TrL_piece (pre := [c25_0, c25_1, c25_2, c25_3, c25_4, c25_5]) (K := (F25_k6 R)) (X := F25_5 R l0 ds w) (setAll_cons e0 setAll_nil) (by kernel_rfl) (by kernel_rfl)
    (fun E' ds' w' hD => by
      obtain ⟨p2, e2, hD⟩ := dPtr_elim hD; obtain ⟨p5, e5, hD⟩ := dPtr_elim hD; obtain ⟨l14, e14, hD⟩ := dSl_elim hD; obtain ⟨n15, e15, hD⟩ := dInt_elim hD; obtain ⟨n16, e16, hD⟩ := dInt_elim hD; exact F25_4_ok R p2 p5 l14 n15 n16 ds' w' E' e2 e5 e14 e15 e16 hD) h
theorem F25_calls (l0 : SV) (w : World) (R : Rt) (h : F25_5 R l0 [] w) : Calls prog 25 #[.slice l0.a l0.len l0.cap] w R :=
  calls_of_L (l := [c25_0, c25_1, c25_2, c25_3, c25_4, c25_5, c25_6, c25_7, c25_8]) func25 (by kernel_rfl) (by rw [ntmps25]; exact Nat.le_of_ble_eq_true (by kernel_rfl)) c25_l
    (F25_5_ok R l0 [] w _ rfl h)
noncomputable def c26_0 := cI16 f26 0
noncomputable def c26_1 := cI16 f26 1
noncomputable def c26_2 := cI16 f26 2
noncomputable def c26_3 := cI16 f26 3
noncomputable def c26_4 := cI16 f26 4
noncomputable def c26_5 := cI16 f26 5
def F26_q1 (R : Rt) : EQ := endQ prog f26.results.toList R
def F26_1 (R : Rt) (l0 : SV) (ds : Ds) (w : World) : Prop :=
 alE (.cells #[.bool false, .slice none 0 0] 46) w fun r2 w1 =>
 Calls prog 37 #[.slice l0.a l0.len l0.cap] w1 fun e w2 =>
 ∃ n6 : Int, e = .returned (.int .i64 n6) /\
 Br (n6 != 0) (
 stA prog 46 (⟨r2, 0, none⟩ : Addr) #[.bool false, .slice none 0 0] w2 fun w3 =>
 runD prog ds w3 fun w4 =>
 ∃ bR0_0 : Bool, w4.cell? ((⟨r2, 0, none⟩ : Addr).add 0) = some (.bool bR0_0) /\
 ∃ lR0_1 : SV, w4.cell? ((⟨r2, 0, none⟩ : Addr).add 1) = some (.slice lR0_1.a lR0_1.len lR0_1.cap) /\
 R (.returned (.tuple #[.agg #[.bool bR0_0, .slice lR0_1.a lR0_1.len lR0_1.cap], .int .i64 n6])) w4) (
 Calls prog 65 #[.slice l0.a l0.len l0.cap] w2 fun e w5 =>
 ∃ b12_0 : Bool, ∃ l12_1 : SV, e = .returned (.agg #[.bool b12_0, .slice l12_1.a l12_1.len l12_1.cap]) /\
 stA prog 46 (⟨r2, 0, none⟩ : Addr) #[.bool b12_0, .slice l12_1.a l12_1.len l12_1.cap] w5 fun w6 =>
 runD prog ds w6 fun w7 =>
 ∃ bR0_0 : Bool, w7.cell? ((⟨r2, 0, none⟩ : Addr).add 0) = some (.bool bR0_0) /\
 ∃ lR0_1 : SV, w7.cell? ((⟨r2, 0, none⟩ : Addr).add 1) = some (.slice lR0_1.a lR0_1.len lR0_1.cap) /\
 R (.returned (.tuple #[.agg #[.bool bR0_0, .slice lR0_1.a lR0_1.len lR0_1.cap], .int .i64 0])) w7)
theorem c26_l : flat (bodyOf f26) = [c26_0, c26_1, c26_2, c26_3, c26_4, c26_5] := by kernel_rfl
theorem F26_1_ok (R : Rt) (l0 : SV) (ds : Ds) (w : World) (E : Env) (e0 : E 0 = .slice l0.a l0.len l0.cap) (h : F26_1 R l0 ds w) :
    TrL prog f26.ntmps [c26_0, c26_1, c26_2, c26_3, c26_4, c26_5] (F26_q1 R) E ds w :=
  TrL_leaf (X := F26_1 R l0 ds w) (setAll_cons e0 setAll_nil) (by kernel_rfl) (by kernel_rfl) h
theorem F26_calls (l0 : SV) (w : World) (R : Rt) (h : F26_1 R l0 [] w) : Calls prog 26 #[.slice l0.a l0.len l0.cap] w R :=
  calls_of_L (l := [c26_0, c26_1, c26_2, c26_3, c26_4, c26_5]) func26 (by kernel_rfl) (by rw [ntmps26]; exact Nat.le_of_ble_eq_true (by kernel_rfl)) c26_l
    (F26_1_ok R l0 [] w _ rfl h)
noncomputable def c65_0 := cI16 f65 0
noncomputable def c65_1 := cI16 f65 1
noncomputable def c65_2 := cI16 f65 2
noncomputable def c65_3 := cI16 f65 3
noncomputable def c65_4 := cI16 f65 4
noncomputable def c65_5 := cI16 f65 5
noncomputable def c65_3_0 := cJ16 c65_3 0
noncomputable def c65_3_0_0 := cJ16 c65_3_0 0
noncomputable def c65_3_0_1 := cJ16 c65_3_0 1
noncomputable def c65_3_0_2 := cJ16 c65_3_0 2
noncomputable def c65_3_0_3 := cJ16 c65_3_0 3
def F65_q1 (R : Rt) : EQ := endQ prog f65.results.toList R
def F65_1 (R : Rt) (p2 p3 : Option Addr) (ds : Ds) (w : World) : Prop :=
 ptrE p3 fun a1 =>
 ∃ b21_0 : Bool, w.cell? (a1.add 0) = some (.bool b21_0) /\
 ∃ l21_1 : SV, w.cell? (a1.add 1) = some (.slice l21_1.a l21_1.len l21_1.cap) /\
 ptrE p2 fun a2 =>
 stA prog 46 a2 #[.bool b21_0, .slice l21_1.a l21_1.len l21_1.cap] w fun w3 =>
 runD prog ds w3 fun w4 =>
 ptrE p2 fun a5 =>
 ∃ bR0_0 : Bool, w4.cell? (a5.add 0) = some (.bool bR0_0) /\
 ∃ lR0_1 : SV, w4.cell? (a5.add 1) = some (.slice lR0_1.a lR0_1.len lR0_1.cap) /\
 R (.returned (.agg #[.bool bR0_0, .slice lR0_1.a lR0_1.len lR0_1.cap])) w4
def F65_k2 (R : Rt) : EP := (fun E ds w => dPtr (E 2) fun p2 => dPtr (E 3) fun p3 => F65_1 R p2 p3 ds w)
def F65_q3 (R : Rt) : EQ := (thenQ (F65_k2 R) (F65_q1 R))
def F65_q4 (R : Rt) : EQ := (blockQ 0 (F65_q3 R))
def F65_q5 (R : Rt) (J1 : (Int) -> World -> Prop) : EQ := (thenQ (fun E _ w => dInt .i64 (E 4) fun n4 => J1 n4 w) (F65_q4 R))
def F65_2 (R : Rt) (J1 : (Int) -> World -> Prop) (l0 : SV) (p2 p3 : Option Addr) (n4 : Int) (ds : Ds) (w : World) : Prop :=
 Br (decide (n4 < (l0.len : Int))) (
 dwE w fun w6 =>
 ∃ S1 : World -> Prop, S1 w6 /\
 ptrE p3 fun a7 =>
 ∃ l12 : SV, (∀ w', S1 w' -> w'.cell? (a7.add 1) = some (.slice l12.a l12.len l12.cap)) /\
 ∃ a8 : Addr, l0.a = some a8 /\ 0 ≤ n4 /\ n4 < (l0.len : Int) /\
 ∃ s16_0 : ByteArray, (∀ w', S1 w' -> w'.cell? ((a8.add (n4.toNat * 4)).add 0) = some (.string s16_0)) /\
 ∃ n16_1 : Int, (∀ w', S1 w' -> w'.cell? ((a8.add (n4.toNat * 4)).add 1) = some (.int .i64 n16_1)) /\
 ∃ n16_2 : Int, (∀ w', S1 w' -> w'.cell? ((a8.add (n4.toNat * 4)).add 2) = some (.int .i64 n16_2)) /\
 ∃ b16_3 : Bool, (∀ w', S1 w' -> w'.cell? ((a8.add (n4.toNat * 4)).add 3) = some (.bool b16_3)) /\
 Calls prog 87 #[.agg #[.string s16_0, .int .i64 n16_1, .int .i64 n16_2, .bool b16_3]] w6 fun e w9 =>
 ∃ n17_0 : Int, ∃ n17_1 : Int, ∃ s17_2 : ByteArray, e = .returned (.agg #[.int .i64 n17_0, .int .i64 n17_1, .string s17_2]) /\
 S1 w9 /\
 alE (.cells #[.int .i64 n17_0, .int .i64 n17_1, .string s17_2] 25) w9 fun r18 w10 =>
 S1 w10 /\
 ∃ l19 : SV, ∃ w11 : World, (Builtin.append_ #[44, 44] 44 #[.slice l12.a l12.len l12.cap, .slice (some ⟨r18, 0, none⟩) 1 1]).run prog w10 = .ok (.slice l19.a l19.len l19.cap) w11 /\
 ptrE p3 fun a12 =>
 st1 (a12.add 1) (.slice l19.a l19.len l19.cap) w11 fun w13 =>
 J1 (IntKind.i64.wrap (n4 + 1)) w13) (
 F65_1 R p2 p3 ds w)
def F65_3 (R : Rt) (l0 : SV) (p2 p3 : Option Addr) (n4 : Int) (ds : Ds) (w : World) : Prop :=
 loopT (fun (J1 : (Int) -> World -> Prop) (s : Int) (w : World) => F65_2 R J1 l0 p2 p3 s ds w) n4 w
abbrev F65_4 (R : Rt) (l0 : SV) (p2 p3 : Option Addr) (n4 : Int) (ds : Ds) (w : World) : Prop := F65_3 R l0 p2 p3 n4 ds w
def F65_k6 (R : Rt) : EP := (fun E ds w => dSl (E 0) fun l0 => dPtr (E 2) fun p2 => dPtr (E 3) fun p3 => dInt .i64 (E 4) fun n4 => F65_4 R l0 p2 p3 n4 ds w)
def F65_5 (R : Rt) (l0 : SV) (ds : Ds) (w : World) : Prop :=
 alE (.cells #[.bool false, .slice none 0 0] 46) w fun r2 w14 =>
 alE (.cells #[.bool false, .slice none 0 0] 46) w14 fun r3 w15 =>
 F65_4 R l0 (some (⟨r2, 0, none⟩ : Addr)) (some (⟨r3, 0, none⟩ : Addr)) 0 ds w15
theorem c65_l : flat (bodyOf f65) = [c65_0, c65_1, c65_2, c65_3, c65_4, c65_5] := by kernel_rfl
theorem c65_3_l : flat (innerC c65_3) = [c65_3_0] := by kernel_rfl
theorem c65_3_0_l : flat (innerC c65_3_0) = [c65_3_0_0, c65_3_0_1, c65_3_0_2, c65_3_0_3] := by kernel_rfl
theorem F65_1_ok (R : Rt) (p2 p3 : Option Addr) (ds : Ds) (w : World) (E : Env) (e2 : E 2 = .pointer p2) (e3 : E 3 = .pointer p3) (h : F65_1 R p2 p3 ds w) :
    TrL prog f65.ntmps [c65_4, c65_5] (F65_q1 R) E ds w :=
  TrL_leaf (X := F65_1 R p2 p3 ds w) (setAll_cons e2 (setAll_cons e3 setAll_nil)) (by kernel_rfl) (by kernel_rfl) h
theorem F65_2_ok (R : Rt) (J1 : (Int) -> World -> Prop) (l0 : SV) (p2 p3 : Option Addr) (n4 : Int) (ds : Ds) (w : World) (E : Env) (e0 : E 0 = .slice l0.a l0.len l0.cap) (e2 : E 2 = .pointer p2) (e3 : E 3 = .pointer p3) (e4 : E 4 = .int .i64 n4) (h : F65_2 R J1 l0 p2 p3 n4 ds w) :
    TrL prog f65.ntmps [c65_3_0_0, c65_3_0_1, c65_3_0_2, c65_3_0_3] (F65_q5 R J1) E ds w :=
  TrL_leaf (X := F65_2 R J1 l0 p2 p3 n4 ds w) (setAll_cons e0 (setAll_cons e2 (setAll_cons e3 (setAll_cons e4 setAll_nil)))) (by kernel_rfl) (by kernel_rfl) h
theorem F65_3_ok (R : Rt) (l0 : SV) (p2 p3 : Option Addr) (n4 : Int) (ds : Ds) (w : World) (E : Env) (e0 : E 0 = .slice l0.a l0.len l0.cap) (e2 : E 2 = .pointer p2) (e3 : E 3 = .pointer p3) (e4 : E 4 = .int .i64 n4) (h : F65_3 R l0 p2 p3 n4 ds w) :
    TrL prog f65.ntmps [c65_3_0] (F65_q4 R) E ds w :=
  TrL_one (Tr_loop' (c := innerC c65_3_0) (σ := Int) (enc := (fun (s : Int) (E : Env) => E 4 = .int .i64 s)) (D := (fun E K => dInt .i64 (E 4) fun n4 => K n4)) (F := (fun (J1 : (Int) -> World -> Prop) (s : Int) (w : World) => F65_2 R J1 l0 p2 p3 s ds w)) (s0 := n4) (by kernel_rfl) c65_3_0_l e4 (by kernel_rfl) (fun E K hD => by obtain ⟨n4, e4, hD⟩ := dInt_elim hD; exact ⟨n4, e4, hD⟩)
      (fun J1 s E' w' he ha hF => by
      have e4' := he
      exact F65_2_ok R J1 l0 p2 p3 s ds w' E' ((ha 0 (by kernel_rfl)).trans e0) ((ha 2 (by kernel_rfl)).trans e2) ((ha 3 (by kernel_rfl)).trans e3) e4' hF) h)
theorem F65_4_ok (R : Rt) (l0 : SV) (p2 p3 : Option Addr) (n4 : Int) (ds : Ds) (w : World) (E : Env) (e0 : E 0 = .slice l0.a l0.len l0.cap) (e2 : E 2 = .pointer p2) (e3 : E 3 = .pointer p3) (e4 : E 4 = .int .i64 n4) (h : F65_4 R l0 p2 p3 n4 ds w) :
    TrL prog f65.ntmps [c65_3, c65_4, c65_5] (F65_q1 R) E ds w :=
  TrL_head (K := (F65_k2 R)) (Tr_block' (c := innerC c65_3) (by kernel_rfl) c65_3_l (F65_3_ok R l0 p2 p3 n4 ds w E e0 e2 e3 e4 h))
    (fun E' ds' w' hD => by
      obtain ⟨p2, e2, hD⟩ := dPtr_elim hD; obtain ⟨p3, e3, hD⟩ := dPtr_elim hD; exact F65_1_ok R p2 p3 ds' w' E' e2 e3 hD)
theorem F65_5_ok (R : Rt) (l0 : SV) (ds : Ds) (w : World) (E : Env) (e0 : E 0 = .slice l0.a l0.len l0.cap) (h : F65_5 R l0 ds w) :
    TrL prog f65.ntmps [c65_0, c65_1, c65_2, c65_3, c65_4, c65_5] (F65_q1 R) E ds w :=
  TrL_piece (pre := [c65_0, c65_1, c65_2]) (K := (F65_k6 R)) (X := F65_5 R l0 ds w) (setAll_cons e0 setAll_nil) (by kernel_rfl) (by kernel_rfl)
    (fun E' ds' w' hD => by
      obtain ⟨l0, e0, hD⟩ := dSl_elim hD; obtain ⟨p2, e2, hD⟩ := dPtr_elim hD; obtain ⟨p3, e3, hD⟩ := dPtr_elim hD; obtain ⟨n4, e4, hD⟩ := dInt_elim hD; exact F65_4_ok R l0 p2 p3 n4 ds' w' E' e0 e2 e3 e4 hD) h
theorem F65_calls (l0 : SV) (w : World) (R : Rt) (h : F65_5 R l0 [] w) : Calls prog 65 #[.slice l0.a l0.len l0.cap] w R :=
  calls_of_L (l := [c65_0, c65_1, c65_2, c65_3, c65_4, c65_5]) func65 (by kernel_rfl) (by rw [ntmps65]; exact Nat.le_of_ble_eq_true (by kernel_rfl)) c65_l
    (F65_5_ok R l0 [] w _ rfl h)
noncomputable def c29_0 := cI16 f29 0
noncomputable def c29_1 := cI16 f29 1
noncomputable def c29_2 := cI16 f29 2
def F29_q1 (R : Rt) : EQ := endQ prog f29.results.toList R
def F29_1 (R : Rt) (b0_0 : Bool) (l0_1 : SV) (b1_0 : Bool) (l1_1 : SV) (ds : Ds) (w : World) : Prop :=
 alE (.cells #[.bool b0_0, .slice l0_1.a l0_1.len l0_1.cap] 46) w fun r2 w1 =>
 alE (.cells #[.bool b1_0, .slice l1_1.a l1_1.len l1_1.cap] 46) w1 fun r3 w2 =>
 ∃ b6 : Bool, w2.cell? (⟨r2, 0, none⟩ : Addr) = some (.bool b6) /\
 ∃ b8 : Bool, w2.cell? (⟨r3, 0, none⟩ : Addr) = some (.bool b8) /\
 Br (b6 == b8) (
 ∃ l12 : SV, w2.cell? ((⟨r2, 0, none⟩ : Addr).add 1) = some (.slice l12.a l12.len l12.cap) /\
 ∃ l14 : SV, w2.cell? ((⟨r3, 0, none⟩ : Addr).add 1) = some (.slice l14.a l14.len l14.cap) /\
 Calls prog 68 #[.slice l12.a l12.len l12.cap, .slice l14.a l14.len l14.cap] w2 fun e w3 =>
 ∃ b15 : Bool, e = .returned (.bool b15) /\
 runD prog ds w3 fun w4 =>
 R (.returned (.bool b15)) w4) (
 runD prog ds w2 fun w5 =>
 R (.returned (.bool false)) w5)
theorem c29_l : flat (bodyOf f29) = [c29_0, c29_1, c29_2] := by kernel_rfl
theorem F29_1_ok (R : Rt) (b0_0 : Bool) (l0_1 : SV) (b1_0 : Bool) (l1_1 : SV) (ds : Ds) (w : World) (E : Env) (e0 : E 0 = .agg #[.bool b0_0, .slice l0_1.a l0_1.len l0_1.cap]) (e1 : E 1 = .agg #[.bool b1_0, .slice l1_1.a l1_1.len l1_1.cap]) (h : F29_1 R b0_0 l0_1 b1_0 l1_1 ds w) :
    TrL prog f29.ntmps [c29_0, c29_1, c29_2] (F29_q1 R) E ds w :=
  TrL_leaf (X := F29_1 R b0_0 l0_1 b1_0 l1_1 ds w) (setAll_cons e0 (setAll_cons e1 setAll_nil)) (by kernel_rfl) (by kernel_rfl) h
theorem F29_calls (b0_0 : Bool) (l0_1 : SV) (b1_0 : Bool) (l1_1 : SV) (w : World) (R : Rt) (h : F29_1 R b0_0 l0_1 b1_0 l1_1 [] w) : Calls prog 29 #[.agg #[.bool b0_0, .slice l0_1.a l0_1.len l0_1.cap], .agg #[.bool b1_0, .slice l1_1.a l1_1.len l1_1.cap]] w R :=
  calls_of_L (l := [c29_0, c29_1, c29_2]) func29 (by kernel_rfl) (by rw [ntmps29]; exact Nat.le_of_ble_eq_true (by kernel_rfl)) c29_l
    (F29_1_ok R b0_0 l0_1 b1_0 l1_1 [] w _ rfl rfl h)
noncomputable def c68_0 := cI16 f68 0
noncomputable def c68_1 := cI16 f68 1
noncomputable def c68_2 := cI16 f68 2
noncomputable def c68_3 := cI16 f68 3
noncomputable def c68_4 := cI16 f68 4
noncomputable def c68_5 := cI16 f68 5
noncomputable def c68_6 := cI16 f68 6
noncomputable def c68_4_0 := cJ16 c68_4 0
noncomputable def c68_4_0_0 := cJ16 c68_4_0 0
noncomputable def c68_4_0_1 := cJ16 c68_4_0 1
noncomputable def c68_4_0_2 := cJ16 c68_4_0 2
noncomputable def c68_4_0_3 := cJ16 c68_4_0 3
def F68_q1 (R : Rt) : EQ := endQ prog f68.results.toList R
def F68_1 (R : Rt) (ds : Ds) (w : World) : Prop :=
 runD prog ds w fun w1 =>
 R (.returned (.bool true)) w1
def F68_k2 (R : Rt) : EP := (fun E ds w => F68_1 R ds w)
def F68_q3 (R : Rt) : EQ := (thenQ (F68_k2 R) (F68_q1 R))
def F68_q4 (R : Rt) : EQ := (blockQ 0 (F68_q3 R))
def F68_q5 (R : Rt) (J1 : (Int) -> World -> Prop) : EQ := (thenQ (fun E _ w => dInt .i64 (E 5) fun n5 => J1 n5 w) (F68_q4 R))
def F68_2 (R : Rt) (J1 : (Int) -> World -> Prop) (l0 l1 : SV) (n5 : Int) (ds : Ds) (w : World) : Prop :=
 Br (decide (n5 < (l0.len : Int))) (
 dwE w fun w2 =>
 ∃ a3 : Addr, l0.a = some a3 /\ 0 ≤ n5 /\ n5 < (l0.len : Int) /\
 ∃ n20_0 : Int, w2.cell? ((a3.add (n5.toNat * 3)).add 0) = some (.int .i64 n20_0) /\
 ∃ n20_1 : Int, w2.cell? ((a3.add (n5.toNat * 3)).add 1) = some (.int .i64 n20_1) /\
 ∃ s20_2 : ByteArray, w2.cell? ((a3.add (n5.toNat * 3)).add 2) = some (.string s20_2) /\
 ∃ a4 : Addr, l1.a = some a4 /\ 0 ≤ n5 /\ n5 < (l1.len : Int) /\
 ∃ n24_0 : Int, w2.cell? ((a4.add (n5.toNat * 3)).add 0) = some (.int .i64 n24_0) /\
 ∃ n24_1 : Int, w2.cell? ((a4.add (n5.toNat * 3)).add 1) = some (.int .i64 n24_1) /\
 ∃ s24_2 : ByteArray, w2.cell? ((a4.add (n5.toNat * 3)).add 2) = some (.string s24_2) /\
 Calls prog 15 #[.agg #[.int .i64 n20_0, .int .i64 n20_1, .string s20_2], .agg #[.int .i64 n24_0, .int .i64 n24_1, .string s24_2]] w2 fun e w5 =>
 ∃ b25 : Bool, e = .returned (.bool b25) /\
 Br (!b25) (
 runD prog ds w5 fun w6 =>
 R (.returned (.bool false)) w6) (
 J1 (IntKind.i64.wrap (n5 + 1)) w5)) (
 F68_1 R ds w)
def F68_3 (R : Rt) (l0 l1 : SV) (n5 : Int) (ds : Ds) (w : World) : Prop :=
 loopT (fun (J1 : (Int) -> World -> Prop) (s : Int) (w : World) => F68_2 R J1 l0 l1 s ds w) n5 w
abbrev F68_4 (R : Rt) (l0 l1 : SV) (n5 : Int) (ds : Ds) (w : World) : Prop := F68_3 R l0 l1 n5 ds w
def F68_k6 (R : Rt) : EP := (fun E ds w => dSl (E 0) fun l0 => dSl (E 1) fun l1 => dInt .i64 (E 5) fun n5 => F68_4 R l0 l1 n5 ds w)
def F68_5 (R : Rt) (l0 l1 : SV) (ds : Ds) (w : World) : Prop :=
 Br ((l0.len : Int) != (l1.len : Int)) (
 runD prog ds w fun w7 =>
 R (.returned (.bool false)) w7) (
 F68_4 R l0 l1 0 ds w)
theorem c68_l : flat (bodyOf f68) = [c68_0, c68_1, c68_2, c68_3, c68_4, c68_5, c68_6] := by kernel_rfl
theorem c68_4_l : flat (innerC c68_4) = [c68_4_0] := by kernel_rfl
theorem c68_4_0_l : flat (innerC c68_4_0) = [c68_4_0_0, c68_4_0_1, c68_4_0_2, c68_4_0_3] := by kernel_rfl
theorem F68_1_ok (R : Rt) (ds : Ds) (w : World) (E : Env) (h : F68_1 R ds w) :
    TrL prog f68.ntmps [c68_5, c68_6] (F68_q1 R) E ds w :=
  TrL_leaf (X := F68_1 R ds w) setAll_nil (by kernel_rfl) (by kernel_rfl) h
theorem F68_2_ok (R : Rt) (J1 : (Int) -> World -> Prop) (l0 l1 : SV) (n5 : Int) (ds : Ds) (w : World) (E : Env) (e0 : E 0 = .slice l0.a l0.len l0.cap) (e1 : E 1 = .slice l1.a l1.len l1.cap) (e5 : E 5 = .int .i64 n5) (h : F68_2 R J1 l0 l1 n5 ds w) :
    TrL prog f68.ntmps [c68_4_0_0, c68_4_0_1, c68_4_0_2, c68_4_0_3] (F68_q5 R J1) E ds w :=
  TrL_leaf (X := F68_2 R J1 l0 l1 n5 ds w) (setAll_cons e0 (setAll_cons e1 (setAll_cons e5 setAll_nil))) (by kernel_rfl) (by kernel_rfl) h
theorem F68_3_ok (R : Rt) (l0 l1 : SV) (n5 : Int) (ds : Ds) (w : World) (E : Env) (e0 : E 0 = .slice l0.a l0.len l0.cap) (e1 : E 1 = .slice l1.a l1.len l1.cap) (e5 : E 5 = .int .i64 n5) (h : F68_3 R l0 l1 n5 ds w) :
    TrL prog f68.ntmps [c68_4_0] (F68_q4 R) E ds w :=
  TrL_one (Tr_loop' (c := innerC c68_4_0) (σ := Int) (enc := (fun (s : Int) (E : Env) => E 5 = .int .i64 s)) (D := (fun E K => dInt .i64 (E 5) fun n5 => K n5)) (F := (fun (J1 : (Int) -> World -> Prop) (s : Int) (w : World) => F68_2 R J1 l0 l1 s ds w)) (s0 := n5) (by kernel_rfl) c68_4_0_l e5 (by kernel_rfl) (fun E K hD => by obtain ⟨n5, e5, hD⟩ := dInt_elim hD; exact ⟨n5, e5, hD⟩)
      (fun J1 s E' w' he ha hF => by
      have e5' := he
      exact F68_2_ok R J1 l0 l1 s ds w' E' ((ha 0 (by kernel_rfl)).trans e0) ((ha 1 (by kernel_rfl)).trans e1) e5' hF) h)
theorem F68_4_ok (R : Rt) (l0 l1 : SV) (n5 : Int) (ds : Ds) (w : World) (E : Env) (e0 : E 0 = .slice l0.a l0.len l0.cap) (e1 : E 1 = .slice l1.a l1.len l1.cap) (e5 : E 5 = .int .i64 n5) (h : F68_4 R l0 l1 n5 ds w) :
    TrL prog f68.ntmps [c68_4, c68_5, c68_6] (F68_q1 R) E ds w :=
  TrL_head (K := (F68_k2 R)) (Tr_block' (c := innerC c68_4) (by kernel_rfl) c68_4_l (F68_3_ok R l0 l1 n5 ds w E e0 e1 e5 h))
    (fun E' ds' w' hD => by
      exact F68_1_ok R ds' w' E'  hD)
theorem F68_5_ok (R : Rt) (l0 l1 : SV) (ds : Ds) (w : World) (E : Env) (e0 : E 0 = .slice l0.a l0.len l0.cap) (e1 : E 1 = .slice l1.a l1.len l1.cap) (h : F68_5 R l0 l1 ds w) :
    TrL prog f68.ntmps [c68_0, c68_1, c68_2, c68_3, c68_4, c68_5, c68_6] (F68_q1 R) E ds w :=
  TrL_piece (pre := [c68_0, c68_1, c68_2, c68_3]) (K := (F68_k6 R)) (X := F68_5 R l0 l1 ds w) (setAll_cons e0 (setAll_cons e1 setAll_nil)) (by kernel_rfl) (by kernel_rfl)
    (fun E' ds' w' hD => by
      obtain ⟨l0, e0, hD⟩ := dSl_elim hD; obtain ⟨l1, e1, hD⟩ := dSl_elim hD; obtain ⟨n5, e5, hD⟩ := dInt_elim hD; exact F68_4_ok R l0 l1 n5 ds' w' E' e0 e1 e5 hD) h
theorem F68_calls (l0 l1 : SV) (w : World) (R : Rt) (h : F68_5 R l0 l1 [] w) : Calls prog 68 #[.slice l0.a l0.len l0.cap, .slice l1.a l1.len l1.cap] w R :=
  calls_of_L (l := [c68_0, c68_1, c68_2, c68_3, c68_4, c68_5, c68_6]) func68 (by kernel_rfl) (by rw [ntmps68]; exact Nat.le_of_ble_eq_true (by kernel_rfl)) c68_l
    (F68_5_ok R l0 l1 [] w _ rfl rfl h)
end Go.Proofs.YtecmfdfhpldmmaaGreatDoor

/- Shallow texts of functions, printed by program, each checked by the kernel against the loaded code. No condition. -/
set_option maxRecDepth 100000
set_option linter.unusedVariables false
namespace Go.Proofs.YtecmfdfhpldmmaaGreatDoor
open Go.Sh
open Tryz
@[reducible] noncomputable def cI17 (f : Func) (i : Nat) : Code := itemAt (flat (bodyOf f)) i
@[reducible] noncomputable def cJ17 (c : Code) (i : Nat) : Code := itemAt (flat (innerC c)) i
noncomputable def c118_0 := cI17 f118 0
noncomputable def c118_1 := cI17 f118 1
noncomputable def c118_2 := cI17 f118 2
def F118_q1 (R : Rt) : EQ := endQ prog f118.results.toList R
def F118_1 (R : Rt) (n0 : Int) (ds : Ds) (w : World) : Prop :=
 alE (.cells #[.int .i64 0, .int .i64 0, .string (⟨#[]⟩ : ByteArray)] 25) w fun r2 w1 =>
 stA prog 25 (⟨r2, 0, none⟩ : Addr) #[.int .i64 2, .int .i64 n0, .string (⟨#[]⟩ : ByteArray)] w1 fun w2 =>
 runD prog ds w2 fun w3 =>
 ∃ nR0_0 : Int, w3.cell? ((⟨r2, 0, none⟩ : Addr).add 0) = some (.int .i64 nR0_0) /\
 ∃ nR0_1 : Int, w3.cell? ((⟨r2, 0, none⟩ : Addr).add 1) = some (.int .i64 nR0_1) /\
 ∃ sR0_2 : ByteArray, w3.cell? ((⟨r2, 0, none⟩ : Addr).add 2) = some (.string sR0_2) /\
 R (.returned (.agg #[.int .i64 nR0_0, .int .i64 nR0_1, .string sR0_2])) w3
theorem c118_l : flat (bodyOf f118) = [c118_0, c118_1, c118_2] := by kernel_rfl
theorem F118_1_ok (R : Rt) (n0 : Int) (ds : Ds) (w : World) (E : Env) (e0 : E 0 = .int .i64 n0) (h : F118_1 R n0 ds w) :
    TrL prog f118.ntmps [c118_0, c118_1, c118_2] (F118_q1 R) E ds w :=
  TrL_leaf (X := F118_1 R n0 ds w) (setAll_cons e0 setAll_nil) (by kernel_rfl) (by kernel_rfl) h
theorem F118_calls (n0 : Int) (w : World) (R : Rt) (h : F118_1 R n0 [] w) : Calls prog 118 #[.int .i64 n0] w R :=
  calls_of_L (l := [c118_0, c118_1, c118_2]) func118 (by kernel_rfl) (by rw [ntmps118]; exact Nat.le_of_ble_eq_true (by kernel_rfl)) c118_l
    (F118_1_ok R n0 [] w _ rfl h)
end Go.Proofs.YtecmfdfhpldmmaaGreatDoor

/- Shallow texts of functions, printed by program, each checked by the kernel against the loaded code. No condition. -/
set_option maxRecDepth 100000
set_option linter.unusedVariables false
namespace Go.Proofs.YtecmfdfhpldmmaaGreatDoor
open Go.Sh
open Tryz
@[reducible] noncomputable def cI18 (f : Func) (i : Nat) : Code := itemAt (flat (bodyOf f)) i
@[reducible] noncomputable def cJ18 (c : Code) (i : Nat) : Code := itemAt (flat (innerC c)) i
noncomputable def c7_0 := cI18 f7 0
noncomputable def c7_1 := cI18 f7 1
noncomputable def c7_2 := cI18 f7 2
noncomputable def c7_3 := cI18 f7 3
noncomputable def c7_4 := cI18 f7 4
noncomputable def c7_5 := cI18 f7 5
noncomputable def c7_6 := cI18 f7 6
def F7_q1 (R : Rt) : EQ := endQ prog f7.results.toList R
def F7_1 (R : Rt) (n0_0 : Int) (l0_1 l0_2 : SV) (n1_0 : Int) (l1_1 l1_2 : SV) (ds : Ds) (w : World) : Prop :=
 alE (.cells #[.int .i64 n0_0, .slice l0_1.a l0_1.len l0_1.cap, .slice l0_2.a l0_2.len l0_2.cap] 35) w fun r2 w1 =>
 alE (.cells #[.int .i64 n1_0, .slice l1_1.a l1_1.len l1_1.cap, .slice l1_2.a l1_2.len l1_2.cap] 35) w1 fun r3 w2 =>
 ∃ n9_0 : Int, w2.cell? ((⟨r2, 0, none⟩ : Addr).add 0) = some (.int .i64 n9_0) /\
 ∃ l9_1 : SV, w2.cell? ((⟨r2, 0, none⟩ : Addr).add 1) = some (.slice l9_1.a l9_1.len l9_1.cap) /\
 ∃ l9_2 : SV, w2.cell? ((⟨r2, 0, none⟩ : Addr).add 2) = some (.slice l9_2.a l9_2.len l9_2.cap) /\
 Calls prog 16 #[.agg #[.int .i64 n9_0, .slice l9_1.a l9_1.len l9_1.cap, .slice l9_2.a l9_2.len l9_2.cap]] w2 fun e w3 =>
 ∃ b10 : Bool, e = .returned (.bool b10) /\
 Br b10 (
 Calls prog 12 #[] w3 fun e w4 =>
 ∃ b15 : Bool, e = .returned (.bool b15) /\
 runD prog ds w4 fun w5 =>
 R (.returned (.bool b15)) w5) (
 ∃ n12_0 : Int, w3.cell? ((⟨r3, 0, none⟩ : Addr).add 0) = some (.int .i64 n12_0) /\
 ∃ l12_1 : SV, w3.cell? ((⟨r3, 0, none⟩ : Addr).add 1) = some (.slice l12_1.a l12_1.len l12_1.cap) /\
 ∃ l12_2 : SV, w3.cell? ((⟨r3, 0, none⟩ : Addr).add 2) = some (.slice l12_2.a l12_2.len l12_2.cap) /\
 Calls prog 16 #[.agg #[.int .i64 n12_0, .slice l12_1.a l12_1.len l12_1.cap, .slice l12_2.a l12_2.len l12_2.cap]] w3 fun e w6 =>
 ∃ b13 : Bool, e = .returned (.bool b13) /\
 Br b13 (
 Calls prog 12 #[] w6 fun e w7 =>
 ∃ b15 : Bool, e = .returned (.bool b15) /\
 runD prog ds w7 fun w8 =>
 R (.returned (.bool b15)) w8) (
 ∃ n17_0 : Int, w6.cell? ((⟨r2, 0, none⟩ : Addr).add 0) = some (.int .i64 n17_0) /\
 ∃ l17_1 : SV, w6.cell? ((⟨r2, 0, none⟩ : Addr).add 1) = some (.slice l17_1.a l17_1.len l17_1.cap) /\
 ∃ l17_2 : SV, w6.cell? ((⟨r2, 0, none⟩ : Addr).add 2) = some (.slice l17_2.a l17_2.len l17_2.cap) /\
 ∃ n18_0 : Int, w6.cell? ((⟨r3, 0, none⟩ : Addr).add 0) = some (.int .i64 n18_0) /\
 ∃ l18_1 : SV, w6.cell? ((⟨r3, 0, none⟩ : Addr).add 1) = some (.slice l18_1.a l18_1.len l18_1.cap) /\
 ∃ l18_2 : SV, w6.cell? ((⟨r3, 0, none⟩ : Addr).add 2) = some (.slice l18_2.a l18_2.len l18_2.cap) /\
 Calls prog 39 #[.agg #[.int .i64 n17_0, .slice l17_1.a l17_1.len l17_1.cap, .slice l17_2.a l17_2.len l17_2.cap], .agg #[.int .i64 n18_0, .slice l18_1.a l18_1.len l18_1.cap, .slice l18_2.a l18_2.len l18_2.cap]] w6 fun e w9 =>
 ∃ l19_0 : SV, ∃ n19_1 : Int, e = .returned (.tuple #[.slice l19_0.a l19_0.len l19_0.cap, .int .i64 n19_1]) /\
 ∃ n23_0 : Int, w9.cell? ((⟨r2, 0, none⟩ : Addr).add 0) = some (.int .i64 n23_0) /\
 ∃ l23_1 : SV, w9.cell? ((⟨r2, 0, none⟩ : Addr).add 1) = some (.slice l23_1.a l23_1.len l23_1.cap) /\
 ∃ l23_2 : SV, w9.cell? ((⟨r2, 0, none⟩ : Addr).add 2) = some (.slice l23_2.a l23_2.len l23_2.cap) /\
 ∃ n24_0 : Int, w9.cell? ((⟨r3, 0, none⟩ : Addr).add 0) = some (.int .i64 n24_0) /\
 ∃ l24_1 : SV, w9.cell? ((⟨r3, 0, none⟩ : Addr).add 1) = some (.slice l24_1.a l24_1.len l24_1.cap) /\
 ∃ l24_2 : SV, w9.cell? ((⟨r3, 0, none⟩ : Addr).add 2) = some (.slice l24_2.a l24_2.len l24_2.cap) /\
 Calls prog 40 #[.agg #[.int .i64 n23_0, .slice l23_1.a l23_1.len l23_1.cap, .slice l23_2.a l23_2.len l23_2.cap], .agg #[.int .i64 n24_0, .slice l24_1.a l24_1.len l24_1.cap, .slice l24_2.a l24_2.len l24_2.cap]] w9 fun e w10 =>
 ∃ l25_0 : SV, ∃ n25_1 : Int, e = .returned (.tuple #[.slice l25_0.a l25_0.len l25_0.cap, .int .i64 n25_1]) /\
 Calls prog 38 #[.slice l19_0.a l19_0.len l19_0.cap, .slice l25_0.a l25_0.len l25_0.cap] w10 fun e w11 =>
 ∃ b30 : Bool, e = .returned (.bool b30) /\
 Br b30 (
 Br (n19_1 == n25_1) (
 Calls prog 12 #[] w11 fun e w12 =>
 ∃ b37 : Bool, e = .returned (.bool b37) /\
 runD prog ds w12 fun w13 =>
 R (.returned (.bool b37)) w13) (
 runD prog ds w11 fun w14 =>
 R (.returned (.bool false)) w14)) (
 runD prog ds w11 fun w15 =>
 R (.returned (.bool false)) w15)))
theorem c7_l : flat (bodyOf f7) = [c7_0, c7_1, c7_2, c7_3, c7_4, c7_5, c7_6] := by kernel_rfl
theorem F7_1_ok (R : Rt) (n0_0 : Int) (l0_1 l0_2 : SV) (n1_0 : Int) (l1_1 l1_2 : SV) (ds : Ds) (w : World) (E : Env) (e0 : E 0 = .agg #[.int .i64 n0_0, .slice l0_1.a l0_1.len l0_1.cap, .slice l0_2.a l0_2.len l0_2.cap]) (e1 : E 1 = .agg #[.int .i64 n1_0, .slice l1_1.a l1_1.len l1_1.cap, .slice l1_2.a l1_2.len l1_2.cap]) (h : F7_1 R n0_0 l0_1 l0_2 n1_0 l1_1 l1_2 ds w) :
    TrL prog f7.ntmps [c7_0, c7_1, c7_2, c7_3, c7_4, c7_5, c7_6] (F7_q1 R) E ds w :=
  TrL_leaf (X := F7_1 R n0_0 l0_1 l0_2 n1_0 l1_1 l1_2 ds w) (setAll_cons e0 (setAll_cons e1 setAll_nil)) (by kernel_rfl) (by kernel_rfl) h
theorem F7_calls (n0_0 : Int) (l0_1 l0_2 : SV) (n1_0 : Int) (l1_1 l1_2 : SV) (w : World) (R : Rt) (h : F7_1 R n0_0 l0_1 l0_2 n1_0 l1_1 l1_2 [] w) : Calls prog 7 #[.agg #[.int .i64 n0_0, .slice l0_1.a l0_1.len l0_1.cap, .slice l0_2.a l0_2.len l0_2.cap], .agg #[.int .i64 n1_0, .slice l1_1.a l1_1.len l1_1.cap, .slice l1_2.a l1_2.len l1_2.cap]] w R :=
  calls_of_L (l := [c7_0, c7_1, c7_2, c7_3, c7_4, c7_5, c7_6]) func7 (by kernel_rfl) (by rw [ntmps7]; exact Nat.le_of_ble_eq_true (by kernel_rfl)) c7_l
    (F7_1_ok R n0_0 l0_1 l0_2 n1_0 l1_1 l1_2 [] w _ rfl rfl h)
noncomputable def c39_0 := cI18 f39 0
noncomputable def c39_1 := cI18 f39 1
noncomputable def c39_2 := cI18 f39 2
noncomputable def c39_3 := cI18 f39 3
noncomputable def c39_4 := cI18 f39 4
noncomputable def c39_5 := cI18 f39 5
noncomputable def c39_6 := cI18 f39 6
noncomputable def c39_7 := cI18 f39 7
noncomputable def c39_8 := cI18 f39 8
noncomputable def c39_9 := cI18 f39 9
noncomputable def c39_10 := cI18 f39 10
noncomputable def c39_11 := cI18 f39 11
noncomputable def c39_12 := cI18 f39 12
noncomputable def c39_13 := cI18 f39 13
noncomputable def c39_11_0 := cJ18 c39_11 0
noncomputable def c39_11_0_0 := cJ18 c39_11_0 0
noncomputable def c39_11_0_1 := cJ18 c39_11_0 1
noncomputable def c39_11_0_2 := cJ18 c39_11_0 2
noncomputable def c39_11_0_3 := cJ18 c39_11_0 3
def F39_q1 (R : Rt) : EQ := endQ prog f39.results.toList R
def F39_1 (R : Rt) (l8 : SV) (ds : Ds) (w : World) : Prop :=
 runD prog ds w fun w1 =>
 R (.returned (.tuple #[.slice l8.a l8.len l8.cap, .int .i64 0])) w1
def F39_k2 (R : Rt) : EP := (fun E ds w => dSl (E 8) fun l8 => F39_1 R l8 ds w)
def F39_q3 (R : Rt) : EQ := (thenQ (F39_k2 R) (F39_q1 R))
def F39_q4 (R : Rt) : EQ := (blockQ 0 (F39_q3 R))
def F39_q5 (R : Rt) (J1 : (SV × Int) -> World -> Prop) : EQ := (thenQ (fun E _ w => dSl (E 8) fun l8 => dInt .i64 (E 40) fun n40 => J1 (l8, n40) w) (F39_q4 R))
def F39_2 (R : Rt) (J1 : (SV × Int) -> World -> Prop) (p2 p3 : Option Addr) (l8 : SV) (n39 n40 : Int) (ds : Ds) (w : World) : Prop :=
 J1 (l8, (IntKind.i64.wrap (n40 + 1))) w
def F39_k6 (R : Rt) (J1 : (SV × Int) -> World -> Prop) : EP := (fun E ds w => dPtr (E 2) fun p2 => dPtr (E 3) fun p3 => dSl (E 8) fun l8 => dInt .i64 (E 39) fun n39 => dInt .i64 (E 40) fun n40 => F39_2 R J1 p2 p3 l8 n39 n40 ds w)
def F39_3 (R : Rt) (J1 : (SV × Int) -> World -> Prop) (p2 p3 : Option Addr) (l8 : SV) (n39 n40 : Int) (ds : Ds) (w : World) : Prop :=
 Br (decide (n40 < n39)) (
 dwE w fun w2 =>
 ptrE p2 fun a3 =>
 ∃ l45 : SV, w2.cell? (a3.add 2) = some (.slice l45.a l45.len l45.cap) /\
 Br (decide (n40 ≥ (l45.len : Int))) (
 alE (.cells #[.int .i64 (IntKind.i64.wrap (n40 + 1))] 3) w2 fun r89 w4 =>
 ∃ l90 : SV, ∃ w5 : World, (Builtin.append_ #[55, 55] 55 #[.slice l8.a l8.len l8.cap, .slice (some ⟨r89, 0, none⟩) 1 1]).run prog w4 = .ok (.slice l90.a l90.len l90.cap) w5 /\
 F39_2 R J1 p2 p3 l90 n39 n40 ds w5) (
 ptrE p3 fun a6 =>
 ∃ l51 : SV, w2.cell? (a6.add 2) = some (.slice l51.a l51.len l51.cap) /\
 Br (decide (n40 ≥ (l51.len : Int))) (
 alE (.cells #[.int .i64 (IntKind.i64.wrap (n40 + 1))] 3) w2 fun r89 w7 =>
 ∃ l90 : SV, ∃ w8 : World, (Builtin.append_ #[55, 55] 55 #[.slice l8.a l8.len l8.cap, .slice (some ⟨r89, 0, none⟩) 1 1]).run prog w7 = .ok (.slice l90.a l90.len l90.cap) w8 /\
 F39_2 R J1 p2 p3 l90 n39 n40 ds w8) (
 ptrE p2 fun a9 =>
 ∃ l57 : SV, w2.cell? (a9.add 2) = some (.slice l57.a l57.len l57.cap) /\
 ∃ a10 : Addr, l57.a = some a10 /\ 0 ≤ n40 /\ n40 < (l57.len : Int) /\
 ∃ b61 : Bool, w2.cell? (a10.add (n40.toNat * 2)) = some (.bool b61) /\
 ptrE p3 fun a11 =>
 ∃ l63 : SV, w2.cell? (a11.add 2) = some (.slice l63.a l63.len l63.cap) /\
 ∃ a12 : Addr, l63.a = some a12 /\ 0 ≤ n40 /\ n40 < (l63.len : Int) /\
 ∃ b67 : Bool, w2.cell? (a12.add (n40.toNat * 2)) = some (.bool b67) /\
 ∃ b68 : Bool, (∀ w, (eqS .neq 4 (.tmp 61) (.tmp 67) (.bool b61) (.bool b67)).run prog w = .ok (.bool b68) w) /\
 Br b68 (
 alE (.cells #[.int .i64 (IntKind.i64.wrap (n40 + 1))] 3) w2 fun r89 w13 =>
 ∃ l90 : SV, ∃ w14 : World, (Builtin.append_ #[55, 55] 55 #[.slice l8.a l8.len l8.cap, .slice (some ⟨r89, 0, none⟩) 1 1]).run prog w13 = .ok (.slice l90.a l90.len l90.cap) w14 /\
 F39_2 R J1 p2 p3 l90 n39 n40 ds w14) (
 ptrE p2 fun a15 =>
 ∃ l72 : SV, w2.cell? (a15.add 2) = some (.slice l72.a l72.len l72.cap) /\
 ∃ a16 : Addr, l72.a = some a16 /\ 0 ≤ n40 /\ n40 < (l72.len : Int) /\
 ∃ l76 : SV, w2.cell? ((a16.add (n40.toNat * 2)).add 1) = some (.slice l76.a l76.len l76.cap) /\
 ptrE p3 fun a17 =>
 ∃ l78 : SV, w2.cell? (a17.add 2) = some (.slice l78.a l78.len l78.cap) /\
 ∃ a18 : Addr, l78.a = some a18 /\ 0 ≤ n40 /\ n40 < (l78.len : Int) /\
 ∃ l82 : SV, w2.cell? ((a18.add (n40.toNat * 2)).add 1) = some (.slice l82.a l82.len l82.cap) /\
 Calls prog 78 #[.slice l76.a l76.len l76.cap, .slice l82.a l82.len l82.cap] w2 fun e w19 =>
 ∃ b83 : Bool, e = .returned (.bool b83) /\
 Br (!b83) (
 alE (.cells #[.int .i64 (IntKind.i64.wrap (n40 + 1))] 3) w19 fun r89 w20 =>
 ∃ l90 : SV, ∃ w21 : World, (Builtin.append_ #[55, 55] 55 #[.slice l8.a l8.len l8.cap, .slice (some ⟨r89, 0, none⟩) 1 1]).run prog w20 = .ok (.slice l90.a l90.len l90.cap) w21 /\
 F39_2 R J1 p2 p3 l90 n39 n40 ds w21) (
 F39_2 R J1 p2 p3 l8 n39 n40 ds w19))))) (
 F39_1 R l8 ds w)
def F39_4 (R : Rt) (p2 p3 : Option Addr) (l8 : SV) (n39 n40 : Int) (ds : Ds) (w : World) : Prop :=
 loopT (fun (J1 : (SV × Int) -> World -> Prop) (s : SV × Int) (w : World) => F39_3 R J1 p2 p3 s.1 n39 s.2 ds w) (l8, n40) w
abbrev F39_5 (R : Rt) (p2 p3 : Option Addr) (l8 : SV) (n39 n40 : Int) (ds : Ds) (w : World) : Prop := F39_4 R p2 p3 l8 n39 n40 ds w
def F39_k7 (R : Rt) : EP := (fun E ds w => dPtr (E 2) fun p2 => dPtr (E 3) fun p3 => dSl (E 8) fun l8 => dInt .i64 (E 39) fun n39 => dInt .i64 (E 40) fun n40 => F39_5 R p2 p3 l8 n39 n40 ds w)
def F39_6 (R : Rt) (n0_0 : Int) (l0_1 l0_2 : SV) (n1_0 : Int) (l1_1 l1_2 : SV) (ds : Ds) (w : World) : Prop :=
 alE (.cells #[.int .i64 n0_0, .slice l0_1.a l0_1.len l0_1.cap, .slice l0_2.a l0_2.len l0_2.cap] 35) w fun r2 w22 =>
 alE (.cells #[.int .i64 n1_0, .slice l1_1.a l1_1.len l1_1.cap, .slice l1_2.a l1_2.len l1_2.cap] 35) w22 fun r3 w23 =>
 ∃ n10_0 : Int, w23.cell? ((⟨r2, 0, none⟩ : Addr).add 0) = some (.int .i64 n10_0) /\
 ∃ l10_1 : SV, w23.cell? ((⟨r2, 0, none⟩ : Addr).add 1) = some (.slice l10_1.a l10_1.len l10_1.cap) /\
 ∃ l10_2 : SV, w23.cell? ((⟨r2, 0, none⟩ : Addr).add 2) = some (.slice l10_2.a l10_2.len l10_2.cap) /\
 Calls prog 34 #[.agg #[.int .i64 n10_0, .slice l10_1.a l10_1.len l10_1.cap, .slice l10_2.a l10_2.len l10_2.cap]] w23 fun e w24 =>
 ∃ n11 : Int, e = .returned (.int .i64 n11) /\
 Br (n11 != 0) (
 runD prog ds w24 fun w25 =>
 R (.returned (.tuple #[.slice none 0 0, .int .i64 n11])) w25) (
 ∃ n15_0 : Int, w24.cell? ((⟨r3, 0, none⟩ : Addr).add 0) = some (.int .i64 n15_0) /\
 ∃ l15_1 : SV, w24.cell? ((⟨r3, 0, none⟩ : Addr).add 1) = some (.slice l15_1.a l15_1.len l15_1.cap) /\
 ∃ l15_2 : SV, w24.cell? ((⟨r3, 0, none⟩ : Addr).add 2) = some (.slice l15_2.a l15_2.len l15_2.cap) /\
 Calls prog 34 #[.agg #[.int .i64 n15_0, .slice l15_1.a l15_1.len l15_1.cap, .slice l15_2.a l15_2.len l15_2.cap]] w24 fun e w26 =>
 ∃ n16 : Int, e = .returned (.int .i64 n16) /\
 Br (n16 != 0) (
 runD prog ds w26 fun w27 =>
 R (.returned (.tuple #[.slice none 0 0, .int .i64 n16])) w27) (
 ∃ n21 : Int, w26.cell? (⟨r2, 0, none⟩ : Addr) = some (.int .i64 n21) /\
 ∃ n23 : Int, w26.cell? (⟨r3, 0, none⟩ : Addr) = some (.int .i64 n23) /\
 Br (n21 != n23) (
 runD prog ds w26 fun w28 =>
 R (.returned (.tuple #[.slice none 0 0, .int .i64 10])) w28) (
 ∃ l27 : SV, w26.cell? ((⟨r2, 0, none⟩ : Addr).add 1) = some (.slice l27.a l27.len l27.cap) /\
 ∃ l29 : SV, w26.cell? ((⟨r3, 0, none⟩ : Addr).add 1) = some (.slice l29.a l29.len l29.cap) /\
 Calls prog 77 #[.slice l27.a l27.len l27.cap, .slice l29.a l29.len l29.cap] w26 fun e w29 =>
 ∃ b30 : Bool, e = .returned (.bool b30) /\
 Br (!b30) (
 runD prog ds w29 fun w30 =>
 R (.returned (.tuple #[.slice none 0 0, .int .i64 10])) w30) (
 ∃ l34 : SV, w29.cell? ((⟨r2, 0, none⟩ : Addr).add 2) = some (.slice l34.a l34.len l34.cap) /\
 ∃ l37 : SV, w29.cell? ((⟨r3, 0, none⟩ : Addr).add 2) = some (.slice l37.a l37.len l37.cap) /\
 ∃ n39 : Int, ∃ w31 : World, (Builtin.max_ #[3, 3] 3 #[.int .i64 (l34.len : Int), .int .i64 (l37.len : Int)]).run prog w29 = .ok (.int .i64 n39) w31 /\
 F39_5 R (some (⟨r2, 0, none⟩ : Addr)) (some (⟨r3, 0, none⟩ : Addr)) ⟨none, 0, 0⟩ n39 0 ds w31))))
theorem c39_l : flat (bodyOf f39) = [c39_0, c39_1, c39_2, c39_3, c39_4, c39_5, c39_6, c39_7, c39_8, c39_9, c39_10, c39_11, c39_12, c39_13] := by kernel_rfl
theorem c39_11_l : flat (innerC c39_11) = [c39_11_0] := by kernel_rfl
theorem c39_11_0_l : flat (innerC c39_11_0) = [c39_11_0_0, c39_11_0_1, c39_11_0_2, c39_11_0_3] := by kernel_rfl
theorem F39_1_ok (R : Rt) (l8 : SV) (ds : Ds) (w : World) (E : Env) (e8 : E 8 = .slice l8.a l8.len l8.cap) (h : F39_1 R l8 ds w) :
    TrL prog f39.ntmps [c39_12, c39_13] (F39_q1 R) E ds w :=
  TrL_leaf (X := F39_1 R l8 ds w) (setAll_cons e8 setAll_nil) (by kernel_rfl) (by kernel_rfl) h
theorem F39_2_ok (R : Rt) (J1 : (SV × Int) -> World -> Prop) (p2 p3 : Option Addr) (l8 : SV) (n39 n40 : Int) (ds : Ds) (w : World) (E : Env) (e2 : E 2 = .pointer p2) (e3 : E 3 = .pointer p3) (e8 : E 8 = .slice l8.a l8.len l8.cap) (e39 : E 39 = .int .i64 n39) (e40 : E 40 = .int .i64 n40) (h : F39_2 R J1 p2 p3 l8 n39 n40 ds w) :
    TrL prog f39.ntmps [c39_11_0_3] (F39_q5 R J1) E ds w :=
  TrL_leaf (X := F39_2 R J1 p2 p3 l8 n39 n40 ds w) (setAll_cons e2 (setAll_cons e3 (setAll_cons e8 (setAll_cons e39 (setAll_cons e40 setAll_nil))))) (by kernel_rfl) (by kernel_rfl) h
theorem F39_3_ok (R : Rt) (J1 : (SV × Int) -> World -> Prop) (p2 p3 : Option Addr) (l8 : SV) (n39 n40 : Int) (ds : Ds) (w : World) (E : Env) (e2 : E 2 = .pointer p2) (e3 : E 3 = .pointer p3) (e8 : E 8 = .slice l8.a l8.len l8.cap) (e39 : E 39 = .int .i64 n39) (e40 : E 40 = .int .i64 n40) (h : F39_3 R J1 p2 p3 l8 n39 n40 ds w) :
    TrL prog f39.ntmps [c39_11_0_0, c39_11_0_1, c39_11_0_2, c39_11_0_3] (F39_q5 R J1) E ds w :=
  TrL_piece (pre := [c39_11_0_0, c39_11_0_1, c39_11_0_2]) (K := (F39_k6 R J1)) (X := F39_3 R J1 p2 p3 l8 n39 n40 ds w) (setAll_cons e2 (setAll_cons e3 (setAll_cons e8 (setAll_cons e39 (setAll_cons e40 setAll_nil))))) (by kernel_rfl) (by kernel_rfl)
    (fun E' ds' w' hD => by
      obtain ⟨p2, e2, hD⟩ := dPtr_elim hD; obtain ⟨p3, e3, hD⟩ := dPtr_elim hD; obtain ⟨l8, e8, hD⟩ := dSl_elim hD; obtain ⟨n39, e39, hD⟩ := dInt_elim hD; obtain ⟨n40, e40, hD⟩ := dInt_elim hD; exact F39_2_ok R J1 p2 p3 l8 n39 n40 ds' w' E' e2 e3 e8 e39 e40 hD) h
theorem F39_4_ok (R : Rt) (p2 p3 : Option Addr) (l8 : SV) (n39 n40 : Int) (ds : Ds) (w : World) (E : Env) (e2 : E 2 = .pointer p2) (e3 : E 3 = .pointer p3) (e8 : E 8 = .slice l8.a l8.len l8.cap) (e39 : E 39 = .int .i64 n39) (e40 : E 40 = .int .i64 n40) (h : F39_4 R p2 p3 l8 n39 n40 ds w) :
    TrL prog f39.ntmps [c39_11_0] (F39_q4 R) E ds w :=
  TrL_one (Tr_loop' (c := innerC c39_11_0) (σ := SV × Int) (enc := (fun (s : SV × Int) (E : Env) => E 8 = .slice s.1.a s.1.len s.1.cap /\ E 40 = .int .i64 s.2)) (D := (fun E K => dSl (E 8) fun l8 => dInt .i64 (E 40) fun n40 => K (l8, n40))) (F := (fun (J1 : (SV × Int) -> World -> Prop) (s : SV × Int) (w : World) => F39_3 R J1 p2 p3 s.1 n39 s.2 ds w)) (s0 := (l8, n40)) (by kernel_rfl) c39_11_0_l ⟨e8, e40⟩ (by kernel_rfl) (fun E K hD => by obtain ⟨l8, e8, hD⟩ := dSl_elim hD; obtain ⟨n40, e40, hD⟩ := dInt_elim hD; exact ⟨(l8, n40), ⟨e8, e40⟩, hD⟩)
      (fun J1 s E' w' he ha hF => by
      obtain ⟨e8', e40'⟩ := he
      exact F39_3_ok R J1 p2 p3 s.1 n39 s.2 ds w' E' ((ha 2 (by kernel_rfl)).trans e2) ((ha 3 (by kernel_rfl)).trans e3) e8' ((ha 39 (by kernel_rfl)).trans e39) e40' hF) h)
theorem F39_5_ok (R : Rt) (p2 p3 : Option Addr) (l8 : SV) (n39 n40 : Int) (ds : Ds) (w : World) (E : Env) (e2 : E 2 = .pointer p2) (e3 : E 3 = .pointer p3) (e8 : E 8 = .slice l8.a l8.len l8.cap) (e39 : E 39 = .int .i64 n39) (e40 : E 40 = .int .i64 n40) (h : F39_5 R p2 p3 l8 n39 n40 ds w) :
    TrL prog f39.ntmps [c39_11, c39_12, c39_13] (F39_q1 R) E ds w :=
  TrL_head (K := (F39_k2 R)) (Tr_block' (c := innerC c39_11) (by kernel_rfl) c39_11_l (F39_4_ok R p2 p3 l8 n39 n40 ds w E e2 e3 e8 e39 e40 h))
    (fun E' ds' w' hD => by
      obtain ⟨l8, e8, hD⟩ := dSl_elim hD; exact F39_1_ok R l8 ds' w' E' e8 hD)
theorem F39_6_ok (R : Rt) (n0_0 : Int) (l0_1 l0_2 : SV) (n1_0 : Int) (l1_1 l1_2 : SV) (ds : Ds) (w : World) (E : Env) (e0 : E 0 = .agg #[.int .i64 n0_0, .slice l0_1.a l0_1.len l0_1.cap, .slice l0_2.a l0_2.len l0_2.cap]) (e1 : E 1 = .agg #[.int .i64 n1_0, .slice l1_1.a l1_1.len l1_1.cap, .slice l1_2.a l1_2.len l1_2.cap]) (h : F39_6 R n0_0 l0_1 l0_2 n1_0 l1_1 l1_2 ds w) :
    TrL prog f39.ntmps [c39_0, c39_1, c39_2, c39_3, c39_4, c39_5, c39_6, c39_7, c39_8, c39_9, c39_10, c39_11, c39_12, c39_13] (F39_q1 R) E ds w :=
  TrL_piece (pre := [c39_0, c39_1, c39_2, c39_3, c39_4, c39_5, c39_6, c39_7, c39_8, c39_9, c39_10]) (K := (F39_k7 R)) (X := F39_6 R n0_0 l0_1 l0_2 n1_0 l1_1 l1_2 ds w) (setAll_cons e0 (setAll_cons e1 setAll_nil)) (by kernel_rfl) (by kernel_rfl)
    (fun E' ds' w' hD => by
      obtain ⟨p2, e2, hD⟩ := dPtr_elim hD; obtain ⟨p3, e3, hD⟩ := dPtr_elim hD; obtain ⟨l8, e8, hD⟩ := dSl_elim hD; obtain ⟨n39, e39, hD⟩ := dInt_elim hD; obtain ⟨n40, e40, hD⟩ := dInt_elim hD; exact F39_5_ok R p2 p3 l8 n39 n40 ds' w' E' e2 e3 e8 e39 e40 hD) h
theorem F39_calls (n0_0 : Int) (l0_1 l0_2 : SV) (n1_0 : Int) (l1_1 l1_2 : SV) (w : World) (R : Rt) (h : F39_6 R n0_0 l0_1 l0_2 n1_0 l1_1 l1_2 [] w) : Calls prog 39 #[.agg #[.int .i64 n0_0, .slice l0_1.a l0_1.len l0_1.cap, .slice l0_2.a l0_2.len l0_2.cap], .agg #[.int .i64 n1_0, .slice l1_1.a l1_1.len l1_1.cap, .slice l1_2.a l1_2.len l1_2.cap]] w R :=
  calls_of_L (l := [c39_0, c39_1, c39_2, c39_3, c39_4, c39_5, c39_6, c39_7, c39_8, c39_9, c39_10, c39_11, c39_12, c39_13]) func39 (by kernel_rfl) (by rw [ntmps39]; exact Nat.le_of_ble_eq_true (by kernel_rfl)) c39_l
    (F39_6_ok R n0_0 l0_1 l0_2 n1_0 l1_1 l1_2 [] w _ rfl rfl h)
noncomputable def c40_0 := cI18 f40 0
noncomputable def c40_1 := cI18 f40 1
noncomputable def c40_2 := cI18 f40 2
noncomputable def c40_3 := cI18 f40 3
noncomputable def c40_4 := cI18 f40 4
noncomputable def c40_5 := cI18 f40 5
noncomputable def c40_6 := cI18 f40 6
noncomputable def c40_7 := cI18 f40 7
noncomputable def c40_8 := cI18 f40 8
noncomputable def c40_9 := cI18 f40 9
noncomputable def c40_10 := cI18 f40 10
noncomputable def c40_11 := cI18 f40 11
noncomputable def c40_12 := cI18 f40 12
noncomputable def c40_13 := cI18 f40 13
noncomputable def c40_11_0 := cJ18 c40_11 0
noncomputable def c40_11_0_0 := cJ18 c40_11_0 0
noncomputable def c40_11_0_1 := cJ18 c40_11_0 1
noncomputable def c40_11_0_2 := cJ18 c40_11_0 2
noncomputable def c40_11_0_3 := cJ18 c40_11_0 3
def F40_q1 (R : Rt) : EQ := endQ prog f40.results.toList R
def F40_1 (R : Rt) (l8 : SV) (ds : Ds) (w : World) : Prop :=
 runD prog ds w fun w1 =>
 R (.returned (.tuple #[.slice l8.a l8.len l8.cap, .int .i64 0])) w1
def F40_k2 (R : Rt) : EP := (fun E ds w => dSl (E 8) fun l8 => F40_1 R l8 ds w)
def F40_q3 (R : Rt) : EQ := (thenQ (F40_k2 R) (F40_q1 R))
def F40_q4 (R : Rt) : EQ := (blockQ 0 (F40_q3 R))
def F40_q5 (R : Rt) (J1 : (SV × Int) -> World -> Prop) : EQ := (thenQ (fun E _ w => dSl (E 8) fun l8 => dInt .i64 (E 9) fun n9 => J1 (l8, n9) w) (F40_q4 R))
def F40_2 (R : Rt) (J1 : (SV × Int) -> World -> Prop) (p2 p3 : Option Addr) (l8 : SV) (n9 : Int) (ds : Ds) (w : World) : Prop :=
 dwE w fun w2 =>
 ptrE p2 fun a3 =>
 ∃ l49 : SV, w2.cell? (a3.add 2) = some (.slice l49.a l49.len l49.cap) /\
 Br (decide (n9 ≥ (l49.len : Int))) (
 alE (.cells #[.int .i64 (IntKind.i64.wrap (n9 + 1))] 3) w2 fun r76 w4 =>
 ∃ l77 : SV, ∃ w5 : World, (Builtin.append_ #[55, 55] 55 #[.slice l8.a l8.len l8.cap, .slice (some ⟨r76, 0, none⟩) 1 1]).run prog w4 = .ok (.slice l77.a l77.len l77.cap) w5 /\
 J1 (l77, (IntKind.i64.wrap (n9 + 1))) w5) (
 ptrE p3 fun a6 =>
 ∃ l55 : SV, w2.cell? (a6.add 2) = some (.slice l55.a l55.len l55.cap) /\
 Br (decide (n9 ≥ (l55.len : Int))) (
 alE (.cells #[.int .i64 (IntKind.i64.wrap (n9 + 1))] 3) w2 fun r76 w7 =>
 ∃ l77 : SV, ∃ w8 : World, (Builtin.append_ #[55, 55] 55 #[.slice l8.a l8.len l8.cap, .slice (some ⟨r76, 0, none⟩) 1 1]).run prog w7 = .ok (.slice l77.a l77.len l77.cap) w8 /\
 J1 (l77, (IntKind.i64.wrap (n9 + 1))) w8) (
 ptrE p2 fun a9 =>
 ∃ l61 : SV, w2.cell? (a9.add 2) = some (.slice l61.a l61.len l61.cap) /\
 ∃ a10 : Addr, l61.a = some a10 /\ 0 ≤ n9 /\ n9 < (l61.len : Int) /\
 ∃ b64_0 : Bool, w2.cell? ((a10.add (n9.toNat * 2)).add 0) = some (.bool b64_0) /\
 ∃ l64_1 : SV, w2.cell? ((a10.add (n9.toNat * 2)).add 1) = some (.slice l64_1.a l64_1.len l64_1.cap) /\
 ptrE p3 fun a11 =>
 ∃ l66 : SV, w2.cell? (a11.add 2) = some (.slice l66.a l66.len l66.cap) /\
 ∃ a12 : Addr, l66.a = some a12 /\ 0 ≤ n9 /\ n9 < (l66.len : Int) /\
 ∃ b69_0 : Bool, w2.cell? ((a12.add (n9.toNat * 2)).add 0) = some (.bool b69_0) /\
 ∃ l69_1 : SV, w2.cell? ((a12.add (n9.toNat * 2)).add 1) = some (.slice l69_1.a l69_1.len l69_1.cap) /\
 Calls prog 29 #[.agg #[.bool b64_0, .slice l64_1.a l64_1.len l64_1.cap], .agg #[.bool b69_0, .slice l69_1.a l69_1.len l69_1.cap]] w2 fun e w13 =>
 ∃ b70 : Bool, e = .returned (.bool b70) /\
 Br (!b70) (
 alE (.cells #[.int .i64 (IntKind.i64.wrap (n9 + 1))] 3) w13 fun r76 w14 =>
 ∃ l77 : SV, ∃ w15 : World, (Builtin.append_ #[55, 55] 55 #[.slice l8.a l8.len l8.cap, .slice (some ⟨r76, 0, none⟩) 1 1]).run prog w14 = .ok (.slice l77.a l77.len l77.cap) w15 /\
 J1 (l77, (IntKind.i64.wrap (n9 + 1))) w15) (
 J1 (l8, (IntKind.i64.wrap (n9 + 1))) w13)))
def F40_k6 (R : Rt) (J1 : (SV × Int) -> World -> Prop) : EP := (fun E ds w => dPtr (E 2) fun p2 => dPtr (E 3) fun p3 => dSl (E 8) fun l8 => dInt .i64 (E 9) fun n9 => F40_2 R J1 p2 p3 l8 n9 ds w)
def F40_3 (R : Rt) (J1 : (SV × Int) -> World -> Prop) (p2 p3 : Option Addr) (l8 : SV) (n9 : Int) (ds : Ds) (w : World) : Prop :=
 ptrE p2 fun a16 =>
 ∃ l35 : SV, w.cell? (a16.add 2) = some (.slice l35.a l35.len l35.cap) /\
 Br (decide (n9 < (l35.len : Int))) (
 F40_2 R J1 p2 p3 l8 n9 ds w) (
 ptrE p3 fun a17 =>
 ∃ l41 : SV, w.cell? (a17.add 2) = some (.slice l41.a l41.len l41.cap) /\
 Br (decide (n9 < (l41.len : Int))) (
 F40_2 R J1 p2 p3 l8 n9 ds w) (
 F40_1 R l8 ds w))
def F40_4 (R : Rt) (p2 p3 : Option Addr) (l8 : SV) (n9 : Int) (ds : Ds) (w : World) : Prop :=
 loopT (fun (J1 : (SV × Int) -> World -> Prop) (s : SV × Int) (w : World) => F40_3 R J1 p2 p3 s.1 s.2 ds w) (l8, n9) w
abbrev F40_5 (R : Rt) (p2 p3 : Option Addr) (l8 : SV) (n9 : Int) (ds : Ds) (w : World) : Prop := F40_4 R p2 p3 l8 n9 ds w
def F40_k7 (R : Rt) : EP := (fun E ds w => dPtr (E 2) fun p2 => dPtr (E 3) fun p3 => dSl (E 8) fun l8 => dInt .i64 (E 9) fun n9 => F40_5 R p2 p3 l8 n9 ds w)
def F40_6 (R : Rt) (n0_0 : Int) (l0_1 l0_2 : SV) (n1_0 : Int) (l1_1 l1_2 : SV) (ds : Ds) (w : World) : Prop :=
 alE (.cells #[.int .i64 n0_0, .slice l0_1.a l0_1.len l0_1.cap, .slice l0_2.a l0_2.len l0_2.cap] 35) w fun r2 w18 =>
 alE (.cells #[.int .i64 n1_0, .slice l1_1.a l1_1.len l1_1.cap, .slice l1_2.a l1_2.len l1_2.cap] 35) w18 fun r3 w19 =>
 ∃ n10_0 : Int, w19.cell? ((⟨r2, 0, none⟩ : Addr).add 0) = some (.int .i64 n10_0) /\
 ∃ l10_1 : SV, w19.cell? ((⟨r2, 0, none⟩ : Addr).add 1) = some (.slice l10_1.a l10_1.len l10_1.cap) /\
 ∃ l10_2 : SV, w19.cell? ((⟨r2, 0, none⟩ : Addr).add 2) = some (.slice l10_2.a l10_2.len l10_2.cap) /\
 Calls prog 35 #[.agg #[.int .i64 n10_0, .slice l10_1.a l10_1.len l10_1.cap, .slice l10_2.a l10_2.len l10_2.cap]] w19 fun e w20 =>
 ∃ n11 : Int, e = .returned (.int .i64 n11) /\
 Br (n11 != 0) (
 runD prog ds w20 fun w21 =>
 R (.returned (.tuple #[.slice none 0 0, .int .i64 n11])) w21) (
 ∃ n15_0 : Int, w20.cell? ((⟨r3, 0, none⟩ : Addr).add 0) = some (.int .i64 n15_0) /\
 ∃ l15_1 : SV, w20.cell? ((⟨r3, 0, none⟩ : Addr).add 1) = some (.slice l15_1.a l15_1.len l15_1.cap) /\
 ∃ l15_2 : SV, w20.cell? ((⟨r3, 0, none⟩ : Addr).add 2) = some (.slice l15_2.a l15_2.len l15_2.cap) /\
 Calls prog 35 #[.agg #[.int .i64 n15_0, .slice l15_1.a l15_1.len l15_1.cap, .slice l15_2.a l15_2.len l15_2.cap]] w20 fun e w22 =>
 ∃ n16 : Int, e = .returned (.int .i64 n16) /\
 Br (n16 != 0) (
 runD prog ds w22 fun w23 =>
 R (.returned (.tuple #[.slice none 0 0, .int .i64 n16])) w23) (
 ∃ n21 : Int, w22.cell? (⟨r2, 0, none⟩ : Addr) = some (.int .i64 n21) /\
 ∃ n23 : Int, w22.cell? (⟨r3, 0, none⟩ : Addr) = some (.int .i64 n23) /\
 Br (n21 != n23) (
 runD prog ds w22 fun w24 =>
 R (.returned (.tuple #[.slice none 0 0, .int .i64 10])) w24) (
 ∃ l27 : SV, w22.cell? ((⟨r2, 0, none⟩ : Addr).add 1) = some (.slice l27.a l27.len l27.cap) /\
 ∃ l29 : SV, w22.cell? ((⟨r3, 0, none⟩ : Addr).add 1) = some (.slice l29.a l29.len l29.cap) /\
 Calls prog 79 #[.slice l27.a l27.len l27.cap, .slice l29.a l29.len l29.cap] w22 fun e w25 =>
 ∃ b30 : Bool, e = .returned (.bool b30) /\
 Br (!b30) (
 runD prog ds w25 fun w26 =>
 R (.returned (.tuple #[.slice none 0 0, .int .i64 10])) w26) (
 F40_5 R (some (⟨r2, 0, none⟩ : Addr)) (some (⟨r3, 0, none⟩ : Addr)) ⟨none, 0, 0⟩ 0 ds w25))))
theorem c40_l : flat (bodyOf f40) = [c40_0, c40_1, c40_2, c40_3, c40_4, c40_5, c40_6, c40_7, c40_8, c40_9, c40_10, c40_11, c40_12, c40_13] := by kernel_rfl
theorem c40_11_l : flat (innerC c40_11) = [c40_11_0] := by kernel_rfl
theorem c40_11_0_l : flat (innerC c40_11_0) = [c40_11_0_0, c40_11_0_1, c40_11_0_2, c40_11_0_3] := by kernel_rfl
theorem F40_1_ok (R : Rt) (l8 : SV) (ds : Ds) (w : World) (E : Env) (e8 : E 8 = .slice l8.a l8.len l8.cap) (h : F40_1 R l8 ds w) :
    TrL prog f40.ntmps [c40_12, c40_13] (F40_q1 R) E ds w :=
  TrL_leaf (X := F40_1 R l8 ds w) (setAll_cons e8 setAll_nil) (by kernel_rfl) (by kernel_rfl) h
theorem F40_2_ok (R : Rt) (J1 : (SV × Int) -> World -> Prop) (p2 p3 : Option Addr) (l8 : SV) (n9 : Int) (ds : Ds) (w : World) (E : Env) (e2 : E 2 = .pointer p2) (e3 : E 3 = .pointer p3) (e8 : E 8 = .slice l8.a l8.len l8.cap) (e9 : E 9 = .int .i64 n9) (h : F40_2 R J1 p2 p3 l8 n9 ds w) :
    TrL prog f40.ntmps [c40_11_0_2, c40_11_0_3] (F40_q5 R J1) E ds w :=
  TrL_leaf (X := F40_2 R J1 p2 p3 l8 n9 ds w) (setAll_cons e2 (setAll_cons e3 (setAll_cons e8 (setAll_cons e9 setAll_nil)))) (by kernel_rfl) (by kernel_rfl) h
theorem F40_3_ok (R : Rt) (J1 : (SV × Int) -> World -> Prop) (p2 p3 : Option Addr) (l8 : SV) (n9 : Int) (ds : Ds) (w : World) (E : Env) (e2 : E 2 = .pointer p2) (e3 : E 3 = .pointer p3) (e8 : E 8 = .slice l8.a l8.len l8.cap) (e9 : E 9 = .int .i64 n9) (h : F40_3 R J1 p2 p3 l8 n9 ds w) :
    TrL prog f40.ntmps [c40_11_0_0, c40_11_0_1, c40_11_0_2, c40_11_0_3] (F40_q5 R J1) E ds w :=
  TrL_piece (pre := [c40_11_0_0, c40_11_0_1]) (K := (F40_k6 R J1)) (X := F40_3 R J1 p2 p3 l8 n9 ds w) (setAll_cons e2 (setAll_cons e3 (setAll_cons e8 (setAll_cons e9 setAll_nil)))) (by kernel_rfl) (by kernel_rfl)
    (fun E' ds' w' hD => by
      obtain ⟨p2, e2, hD⟩ := dPtr_elim hD; obtain ⟨p3, e3, hD⟩ := dPtr_elim hD; obtain ⟨l8, e8, hD⟩ := dSl_elim hD; obtain ⟨n9, e9, hD⟩ := dInt_elim hD; exact F40_2_ok R J1 p2 p3 l8 n9 ds' w' E' e2 e3 e8 e9 hD) h
theorem F40_4_ok (R : Rt) (p2 p3 : Option Addr) (l8 : SV) (n9 : Int) (ds : Ds) (w : World) (E : Env) (e2 : E 2 = .pointer p2) (e3 : E 3 = .pointer p3) (e8 : E 8 = .slice l8.a l8.len l8.cap) (e9 : E 9 = .int .i64 n9) (h : F40_4 R p2 p3 l8 n9 ds w) :
    TrL prog f40.ntmps [c40_11_0] (F40_q4 R) E ds w :=
  TrL_one (Tr_loop' (c := innerC c40_11_0) (σ := SV × Int) (enc := (fun (s : SV × Int) (E : Env) => E 8 = .slice s.1.a s.1.len s.1.cap /\ E 9 = .int .i64 s.2)) (D := (fun E K => dSl (E 8) fun l8 => dInt .i64 (E 9) fun n9 => K (l8, n9))) (F := (fun (J1 : (SV × Int) -> World -> Prop) (s : SV × Int) (w : World) => F40_3 R J1 p2 p3 s.1 s.2 ds w)) (s0 := (l8, n9)) (by kernel_rfl) c40_11_0_l ⟨e8, e9⟩ (by kernel_rfl) (fun E K hD => by obtain ⟨l8, e8, hD⟩ := dSl_elim hD; obtain ⟨n9, e9, hD⟩ := dInt_elim hD; exact ⟨(l8, n9), ⟨e8, e9⟩, hD⟩)
      (fun J1 s E' w' he ha hF => by
      obtain ⟨e8', e9'⟩ := he
      exact F40_3_ok R J1 p2 p3 s.1 s.2 ds w' E' ((ha 2 (by kernel_rfl)).trans e2) ((ha 3 (by kernel_rfl)).trans e3) e8' e9' hF) h)
theorem F40_5_ok (R : Rt) (p2 p3 : Option Addr) (l8 : SV) (n9 : Int) (ds : Ds) (w : World) (E : Env) (e2 : E 2 = .pointer p2) (e3 : E 3 = .pointer p3) (e8 : E 8 = .slice l8.a l8.len l8.cap) (e9 : E 9 = .int .i64 n9) (h : F40_5 R p2 p3 l8 n9 ds w) :
    TrL prog f40.ntmps [c40_11, c40_12, c40_13] (F40_q1 R) E ds w :=
  TrL_head (K := (F40_k2 R)) (Tr_block' (c := innerC c40_11) (by kernel_rfl) c40_11_l (F40_4_ok R p2 p3 l8 n9 ds w E e2 e3 e8 e9 h))
    (fun E' ds' w' hD => by
      obtain ⟨l8, e8, hD⟩ := dSl_elim hD; exact F40_1_ok R l8 ds' w' E' e8 hD)
theorem F40_6_ok (R : Rt) (n0_0 : Int) (l0_1 l0_2 : SV) (n1_0 : Int) (l1_1 l1_2 : SV) (ds : Ds) (w : World) (E : Env) (e0 : E 0 = .agg #[.int .i64 n0_0, .slice l0_1.a l0_1.len l0_1.cap, .slice l0_2.a l0_2.len l0_2.cap]) (e1 : E 1 = .agg #[.int .i64 n1_0, .slice l1_1.a l1_1.len l1_1.cap, .slice l1_2.a l1_2.len l1_2.cap]) (h : F40_6 R n0_0 l0_1 l0_2 n1_0 l1_1 l1_2 ds w) :
    TrL prog f40.ntmps [c40_0, c40_1, c40_2, c40_3, c40_4, c40_5, c40_6, c40_7, c40_8, c40_9, c40_10, c40_11, c40_12, c40_13] (F40_q1 R) E ds w :=
  TrL_piece (pre := [c40_0, c40_1, c40_2, c40_3, c40_4, c40_5, c40_6, c40_7, c40_8, c40_9, c40_10]) (K := (F40_k7 R)) (X := F40_6 R n0_0 l0_1 l0_2 n1_0 l1_1 l1_2 ds w) (setAll_cons e0 (setAll_cons e1 setAll_nil)) (by kernel_rfl) (by kernel_rfl)
    (fun E' ds' w' hD => by
      obtain ⟨p2, e2, hD⟩ := dPtr_elim hD; obtain ⟨p3, e3, hD⟩ := dPtr_elim hD; obtain ⟨l8, e8, hD⟩ := dSl_elim hD; obtain ⟨n9, e9, hD⟩ := dInt_elim hD; exact F40_5_ok R p2 p3 l8 n9 ds' w' E' e2 e3 e8 e9 hD) h
theorem F40_calls (n0_0 : Int) (l0_1 l0_2 : SV) (n1_0 : Int) (l1_1 l1_2 : SV) (w : World) (R : Rt) (h : F40_6 R n0_0 l0_1 l0_2 n1_0 l1_1 l1_2 [] w) : Calls prog 40 #[.agg #[.int .i64 n0_0, .slice l0_1.a l0_1.len l0_1.cap, .slice l0_2.a l0_2.len l0_2.cap], .agg #[.int .i64 n1_0, .slice l1_1.a l1_1.len l1_1.cap, .slice l1_2.a l1_2.len l1_2.cap]] w R :=
  calls_of_L (l := [c40_0, c40_1, c40_2, c40_3, c40_4, c40_5, c40_6, c40_7, c40_8, c40_9, c40_10, c40_11, c40_12, c40_13]) func40 (by kernel_rfl) (by rw [ntmps40]; exact Nat.le_of_ble_eq_true (by kernel_rfl)) c40_l
    (F40_6_ok R n0_0 l0_1 l0_2 n1_0 l1_1 l1_2 [] w _ rfl rfl h)
noncomputable def c77_0 := cI18 f77 0
noncomputable def c77_1 := cI18 f77 1
noncomputable def c77_2 := cI18 f77 2
noncomputable def c77_3 := cI18 f77 3
noncomputable def c77_4 := cI18 f77 4
noncomputable def c77_5 := cI18 f77 5
noncomputable def c77_6 := cI18 f77 6
noncomputable def c77_4_0 := cJ18 c77_4 0
noncomputable def c77_4_0_0 := cJ18 c77_4_0 0
noncomputable def c77_4_0_1 := cJ18 c77_4_0 1
noncomputable def c77_4_0_2 := cJ18 c77_4_0 2
noncomputable def c77_4_0_3 := cJ18 c77_4_0 3
def F77_q1 (R : Rt) : EQ := endQ prog f77.results.toList R
def F77_1 (R : Rt) (ds : Ds) (w : World) : Prop :=
 runD prog ds w fun w1 =>
 R (.returned (.bool true)) w1
def F77_k2 (R : Rt) : EP := (fun E ds w => F77_1 R ds w)
def F77_q3 (R : Rt) : EQ := (thenQ (F77_k2 R) (F77_q1 R))
def F77_q4 (R : Rt) : EQ := (blockQ 0 (F77_q3 R))
def F77_q5 (R : Rt) (J1 : (Int) -> World -> Prop) : EQ := (thenQ (fun E _ w => dInt .i64 (E 13) fun n13 => J1 n13 w) (F77_q4 R))
def F77_2 (R : Rt) (J1 : (Int) -> World -> Prop) (l0 l1 : SV) (n12 n13 : Int) (ds : Ds) (w : World) : Prop :=
 Br (decide (n13 < n12)) (
 dwE w fun w2 =>
 ∃ a3 : Addr, l0.a = some a3 /\ 0 ≤ n13 /\ n13 < (l0.len : Int) /\
 ∃ s19_0 : ByteArray, w2.cell? ((a3.add (n13.toNat * 4)).add 0) = some (.string s19_0) /\
 ∃ n19_1 : Int, w2.cell? ((a3.add (n13.toNat * 4)).add 1) = some (.int .i64 n19_1) /\
 ∃ n19_2 : Int, w2.cell? ((a3.add (n13.toNat * 4)).add 2) = some (.int .i64 n19_2) /\
 ∃ b19_3 : Bool, w2.cell? ((a3.add (n13.toNat * 4)).add 3) = some (.bool b19_3) /\
 ∃ a4 : Addr, l1.a = some a4 /\ 0 ≤ n13 /\ n13 < (l1.len : Int) /\
 ∃ s23_0 : ByteArray, w2.cell? ((a4.add (n13.toNat * 4)).add 0) = some (.string s23_0) /\
 ∃ n23_1 : Int, w2.cell? ((a4.add (n13.toNat * 4)).add 1) = some (.int .i64 n23_1) /\
 ∃ n23_2 : Int, w2.cell? ((a4.add (n13.toNat * 4)).add 2) = some (.int .i64 n23_2) /\
 ∃ b23_3 : Bool, w2.cell? ((a4.add (n13.toNat * 4)).add 3) = some (.bool b23_3) /\
 ∃ b24 : Bool, (∀ w, (eqS .neq 23 (.tmp 19) (.tmp 23) (.agg #[.string s19_0, .int .i64 n19_1, .int .i64 n19_2, .bool b19_3]) (.agg #[.string s23_0, .int .i64 n23_1, .int .i64 n23_2, .bool b23_3])).run prog w = .ok (.bool b24) w) /\
 Br b24 (
 runD prog ds w2 fun w5 =>
 R (.returned (.bool false)) w5) (
 J1 (IntKind.i64.wrap (n13 + 1)) w2)) (
 F77_1 R ds w)
def F77_3 (R : Rt) (l0 l1 : SV) (n12 n13 : Int) (ds : Ds) (w : World) : Prop :=
 loopT (fun (J1 : (Int) -> World -> Prop) (s : Int) (w : World) => F77_2 R J1 l0 l1 n12 s ds w) n13 w
abbrev F77_4 (R : Rt) (l0 l1 : SV) (n12 n13 : Int) (ds : Ds) (w : World) : Prop := F77_3 R l0 l1 n12 n13 ds w
def F77_k6 (R : Rt) : EP := (fun E ds w => dSl (E 0) fun l0 => dSl (E 1) fun l1 => dInt .i64 (E 12) fun n12 => dInt .i64 (E 13) fun n13 => F77_4 R l0 l1 n12 n13 ds w)
def F77_5 (R : Rt) (l0 l1 : SV) (ds : Ds) (w : World) : Prop :=
 Br ((l0.len : Int) != (l1.len : Int)) (
 runD prog ds w fun w6 =>
 R (.returned (.bool false)) w6) (
 F77_4 R l0 l1 (l0.len : Int) 0 ds w)
theorem c77_l : flat (bodyOf f77) = [c77_0, c77_1, c77_2, c77_3, c77_4, c77_5, c77_6] := by kernel_rfl
theorem c77_4_l : flat (innerC c77_4) = [c77_4_0] := by kernel_rfl
theorem c77_4_0_l : flat (innerC c77_4_0) = [c77_4_0_0, c77_4_0_1, c77_4_0_2, c77_4_0_3] := by kernel_rfl
theorem F77_1_ok (R : Rt) (ds : Ds) (w : World) (E : Env) (h : F77_1 R ds w) :
    TrL prog f77.ntmps [c77_5, c77_6] (F77_q1 R) E ds w :=
  TrL_leaf (X := F77_1 R ds w) setAll_nil (by kernel_rfl) (by kernel_rfl) h
theorem F77_2_ok (R : Rt) (J1 : (Int) -> World -> Prop) (l0 l1 : SV) (n12 n13 : Int) (ds : Ds) (w : World) (E : Env) (e0 : E 0 = .slice l0.a l0.len l0.cap) (e1 : E 1 = .slice l1.a l1.len l1.cap) (e12 : E 12 = .int .i64 n12) (e13 : E 13 = .int .i64 n13) (h : F77_2 R J1 l0 l1 n12 n13 ds w) :
    TrL prog f77.ntmps [c77_4_0_0, c77_4_0_1, c77_4_0_2, c77_4_0_3] (F77_q5 R J1) E ds w :=
  TrL_leaf (X := F77_2 R J1 l0 l1 n12 n13 ds w) (setAll_cons e0 (setAll_cons e1 (setAll_cons e12 (setAll_cons e13 setAll_nil)))) (by kernel_rfl) (by kernel_rfl) h
theorem F77_3_ok (R : Rt) (l0 l1 : SV) (n12 n13 : Int) (ds : Ds) (w : World) (E : Env) (e0 : E 0 = .slice l0.a l0.len l0.cap) (e1 : E 1 = .slice l1.a l1.len l1.cap) (e12 : E 12 = .int .i64 n12) (e13 : E 13 = .int .i64 n13) (h : F77_3 R l0 l1 n12 n13 ds w) :
    TrL prog f77.ntmps [c77_4_0] (F77_q4 R) E ds w :=
  TrL_one (Tr_loop' (c := innerC c77_4_0) (σ := Int) (enc := (fun (s : Int) (E : Env) => E 13 = .int .i64 s)) (D := (fun E K => dInt .i64 (E 13) fun n13 => K n13)) (F := (fun (J1 : (Int) -> World -> Prop) (s : Int) (w : World) => F77_2 R J1 l0 l1 n12 s ds w)) (s0 := n13) (by kernel_rfl) c77_4_0_l e13 (by kernel_rfl) (fun E K hD => by obtain ⟨n13, e13, hD⟩ := dInt_elim hD; exact ⟨n13, e13, hD⟩)
      (fun J1 s E' w' he ha hF => by
      have e13' := he
      exact F77_2_ok R J1 l0 l1 n12 s ds w' E' ((ha 0 (by kernel_rfl)).trans e0) ((ha 1 (by kernel_rfl)).trans e1) ((ha 12 (by kernel_rfl)).trans e12) e13' hF) h)
theorem F77_4_ok (R : Rt) (l0 l1 : SV) (n12 n13 : Int) (ds : Ds) (w : World) (E : Env) (e0 : E 0 = .slice l0.a l0.len l0.cap) (e1 : E 1 = .slice l1.a l1.len l1.cap) (e12 : E 12 = .int .i64 n12) (e13 : E 13 = .int .i64 n13) (h : F77_4 R l0 l1 n12 n13 ds w) :
    TrL prog f77.ntmps [c77_4, c77_5, c77_6] (F77_q1 R) E ds w :=
  TrL_head (K := (F77_k2 R)) (Tr_block' (c := innerC c77_4) (by kernel_rfl) c77_4_l (F77_3_ok R l0 l1 n12 n13 ds w E e0 e1 e12 e13 h))
    (fun E' ds' w' hD => by
      exact F77_1_ok R ds' w' E'  hD)
theorem F77_5_ok (R : Rt) (l0 l1 : SV) (ds : Ds) (w : World) (E : Env) (e0 : E 0 = .slice l0.a l0.len l0.cap) (e1 : E 1 = .slice l1.a l1.len l1.cap) (h : F77_5 R l0 l1 ds w) :
    TrL prog f77.ntmps [c77_0, c77_1, c77_2, c77_3, c77_4, c77_5, c77_6] (F77_q1 R) E ds w :=
  TrL_piece (pre := [c77_0, c77_1, c77_2, c77_3]) (K := (F77_k6 R)) (X := F77_5 R l0 l1 ds w) (setAll_cons e0 (setAll_cons e1 setAll_nil)) (by kernel_rfl) (by kernel_rfl)
    (fun E' ds' w' hD => by
      obtain ⟨l0, e0, hD⟩ := dSl_elim hD; obtain ⟨l1, e1, hD⟩ := dSl_elim hD; obtain ⟨n12, e12, hD⟩ := dInt_elim hD; obtain ⟨n13, e13, hD⟩ := dInt_elim hD; exact F77_4_ok R l0 l1 n12 n13 ds' w' E' e0 e1 e12 e13 hD) h
theorem F77_calls (l0 l1 : SV) (w : World) (R : Rt) (h : F77_5 R l0 l1 [] w) : Calls prog 77 #[.slice l0.a l0.len l0.cap, .slice l1.a l1.len l1.cap] w R :=
  calls_of_L (l := [c77_0, c77_1, c77_2, c77_3, c77_4, c77_5, c77_6]) func77 (by kernel_rfl) (by rw [ntmps77]; exact Nat.le_of_ble_eq_true (by kernel_rfl)) c77_l
    (F77_5_ok R l0 l1 [] w _ rfl rfl h)
noncomputable def c78_0 := cI18 f78 0
noncomputable def c78_1 := cI18 f78 1
noncomputable def c78_2 := cI18 f78 2
noncomputable def c78_3 := cI18 f78 3
noncomputable def c78_4 := cI18 f78 4
noncomputable def c78_5 := cI18 f78 5
noncomputable def c78_6 := cI18 f78 6
noncomputable def c78_4_0 := cJ18 c78_4 0
noncomputable def c78_4_0_0 := cJ18 c78_4_0 0
noncomputable def c78_4_0_1 := cJ18 c78_4_0 1
noncomputable def c78_4_0_2 := cJ18 c78_4_0 2
noncomputable def c78_4_0_3 := cJ18 c78_4_0 3
def F78_q1 (R : Rt) : EQ := endQ prog f78.results.toList R
def F78_1 (R : Rt) (ds : Ds) (w : World) : Prop :=
 runD prog ds w fun w1 =>
 R (.returned (.bool true)) w1
def F78_k2 (R : Rt) : EP := (fun E ds w => F78_1 R ds w)
def F78_q3 (R : Rt) : EQ := (thenQ (F78_k2 R) (F78_q1 R))
def F78_q4 (R : Rt) : EQ := (blockQ 0 (F78_q3 R))
def F78_q5 (R : Rt) (J1 : (Int) -> World -> Prop) : EQ := (thenQ (fun E _ w => dInt .i64 (E 13) fun n13 => J1 n13 w) (F78_q4 R))
def F78_2 (R : Rt) (J1 : (Int) -> World -> Prop) (l0 l1 : SV) (n12 n13 : Int) (ds : Ds) (w : World) : Prop :=
 Br (decide (n13 < n12)) (
 dwE w fun w2 =>
 ∃ a3 : Addr, l0.a = some a3 /\ 0 ≤ n13 /\ n13 < (l0.len : Int) /\
 ∃ n19_0 : Int, w2.cell? ((a3.add (n13.toNat * 3)).add 0) = some (.int .i64 n19_0) /\
 ∃ n19_1 : Int, w2.cell? ((a3.add (n13.toNat * 3)).add 1) = some (.int .i64 n19_1) /\
 ∃ s19_2 : ByteArray, w2.cell? ((a3.add (n13.toNat * 3)).add 2) = some (.string s19_2) /\
 ∃ a4 : Addr, l1.a = some a4 /\ 0 ≤ n13 /\ n13 < (l1.len : Int) /\
 ∃ n23_0 : Int, w2.cell? ((a4.add (n13.toNat * 3)).add 0) = some (.int .i64 n23_0) /\
 ∃ n23_1 : Int, w2.cell? ((a4.add (n13.toNat * 3)).add 1) = some (.int .i64 n23_1) /\
 ∃ s23_2 : ByteArray, w2.cell? ((a4.add (n13.toNat * 3)).add 2) = some (.string s23_2) /\
 ∃ b24 : Bool, (∀ w, (eqS .neq 25 (.tmp 19) (.tmp 23) (.agg #[.int .i64 n19_0, .int .i64 n19_1, .string s19_2]) (.agg #[.int .i64 n23_0, .int .i64 n23_1, .string s23_2])).run prog w = .ok (.bool b24) w) /\
 Br b24 (
 runD prog ds w2 fun w5 =>
 R (.returned (.bool false)) w5) (
 J1 (IntKind.i64.wrap (n13 + 1)) w2)) (
 F78_1 R ds w)
def F78_3 (R : Rt) (l0 l1 : SV) (n12 n13 : Int) (ds : Ds) (w : World) : Prop :=
 loopT (fun (J1 : (Int) -> World -> Prop) (s : Int) (w : World) => F78_2 R J1 l0 l1 n12 s ds w) n13 w
abbrev F78_4 (R : Rt) (l0 l1 : SV) (n12 n13 : Int) (ds : Ds) (w : World) : Prop := F78_3 R l0 l1 n12 n13 ds w
def F78_k6 (R : Rt) : EP := (fun E ds w => dSl (E 0) fun l0 => dSl (E 1) fun l1 => dInt .i64 (E 12) fun n12 => dInt .i64 (E 13) fun n13 => F78_4 R l0 l1 n12 n13 ds w)
def F78_5 (R : Rt) (l0 l1 : SV) (ds : Ds) (w : World) : Prop :=
 Br ((l0.len : Int) != (l1.len : Int)) (
 runD prog ds w fun w6 =>
 R (.returned (.bool false)) w6) (
 F78_4 R l0 l1 (l0.len : Int) 0 ds w)
theorem c78_l : flat (bodyOf f78) = [c78_0, c78_1, c78_2, c78_3, c78_4, c78_5, c78_6] := by kernel_rfl
theorem c78_4_l : flat (innerC c78_4) = [c78_4_0] := by kernel_rfl
theorem c78_4_0_l : flat (innerC c78_4_0) = [c78_4_0_0, c78_4_0_1, c78_4_0_2, c78_4_0_3] := by kernel_rfl
theorem F78_1_ok (R : Rt) (ds : Ds) (w : World) (E : Env) (h : F78_1 R ds w) :
    TrL prog f78.ntmps [c78_5, c78_6] (F78_q1 R) E ds w :=
  TrL_leaf (X := F78_1 R ds w) setAll_nil (by kernel_rfl) (by kernel_rfl) h
theorem F78_2_ok (R : Rt) (J1 : (Int) -> World -> Prop) (l0 l1 : SV) (n12 n13 : Int) (ds : Ds) (w : World) (E : Env) (e0 : E 0 = .slice l0.a l0.len l0.cap) (e1 : E 1 = .slice l1.a l1.len l1.cap) (e12 : E 12 = .int .i64 n12) (e13 : E 13 = .int .i64 n13) (h : F78_2 R J1 l0 l1 n12 n13 ds w) :
    TrL prog f78.ntmps [c78_4_0_0, c78_4_0_1, c78_4_0_2, c78_4_0_3] (F78_q5 R J1) E ds w :=
  TrL_leaf (X := F78_2 R J1 l0 l1 n12 n13 ds w) (setAll_cons e0 (setAll_cons e1 (setAll_cons e12 (setAll_cons e13 setAll_nil)))) (by kernel_rfl) (by kernel_rfl) h
theorem F78_3_ok (R : Rt) (l0 l1 : SV) (n12 n13 : Int) (ds : Ds) (w : World) (E : Env) (e0 : E 0 = .slice l0.a l0.len l0.cap) (e1 : E 1 = .slice l1.a l1.len l1.cap) (e12 : E 12 = .int .i64 n12) (e13 : E 13 = .int .i64 n13) (h : F78_3 R l0 l1 n12 n13 ds w) :
    TrL prog f78.ntmps [c78_4_0] (F78_q4 R) E ds w :=
  TrL_one (Tr_loop' (c := innerC c78_4_0) (σ := Int) (enc := (fun (s : Int) (E : Env) => E 13 = .int .i64 s)) (D := (fun E K => dInt .i64 (E 13) fun n13 => K n13)) (F := (fun (J1 : (Int) -> World -> Prop) (s : Int) (w : World) => F78_2 R J1 l0 l1 n12 s ds w)) (s0 := n13) (by kernel_rfl) c78_4_0_l e13 (by kernel_rfl) (fun E K hD => by obtain ⟨n13, e13, hD⟩ := dInt_elim hD; exact ⟨n13, e13, hD⟩)
      (fun J1 s E' w' he ha hF => by
      have e13' := he
      exact F78_2_ok R J1 l0 l1 n12 s ds w' E' ((ha 0 (by kernel_rfl)).trans e0) ((ha 1 (by kernel_rfl)).trans e1) ((ha 12 (by kernel_rfl)).trans e12) e13' hF) h)
theorem F78_4_ok (R : Rt) (l0 l1 : SV) (n12 n13 : Int) (ds : Ds) (w : World) (E : Env) (e0 : E 0 = .slice l0.a l0.len l0.cap) (e1 : E 1 = .slice l1.a l1.len l1.cap) (e12 : E 12 = .int .i64 n12) (e13 : E 13 = .int .i64 n13) (h : F78_4 R l0 l1 n12 n13 ds w) :
    TrL prog f78.ntmps [c78_4, c78_5, c78_6] (F78_q1 R) E ds w :=
  TrL_head (K := (F78_k2 R)) (Tr_block' (c := innerC c78_4) (by kernel_rfl) c78_4_l (F78_3_ok R l0 l1 n12 n13 ds w E e0 e1 e12 e13 h))
    (fun E' ds' w' hD => by
      exact F78_1_ok R ds' w' E'  hD)
theorem F78_5_ok (R : Rt) (l0 l1 : SV) (ds : Ds) (w : World) (E : Env) (e0 : E 0 = .slice l0.a l0.len l0.cap) (e1 : E 1 = .slice l1.a l1.len l1.cap) (h : F78_5 R l0 l1 ds w) :
    TrL prog f78.ntmps [c78_0, c78_1, c78_2, c78_3, c78_4, c78_5, c78_6] (F78_q1 R) E ds w :=
  TrL_piece (pre := [c78_0, c78_1, c78_2, c78_3]) (K := (F78_k6 R)) (X := F78_5 R l0 l1 ds w) (setAll_cons e0 (setAll_cons e1 setAll_nil)) (by kernel_rfl) (by kernel_rfl)
    (fun E' ds' w' hD => by
      obtain ⟨l0, e0, hD⟩ := dSl_elim hD; obtain ⟨l1, e1, hD⟩ := dSl_elim hD; obtain ⟨n12, e12, hD⟩ := dInt_elim hD; obtain ⟨n13, e13, hD⟩ := dInt_elim hD; exact F78_4_ok R l0 l1 n12 n13 ds' w' E' e0 e1 e12 e13 hD) h
theorem F78_calls (l0 l1 : SV) (w : World) (R : Rt) (h : F78_5 R l0 l1 [] w) : Calls prog 78 #[.slice l0.a l0.len l0.cap, .slice l1.a l1.len l1.cap] w R :=
  calls_of_L (l := [c78_0, c78_1, c78_2, c78_3, c78_4, c78_5, c78_6]) func78 (by kernel_rfl) (by rw [ntmps78]; exact Nat.le_of_ble_eq_true (by kernel_rfl)) c78_l
    (F78_5_ok R l0 l1 [] w _ rfl rfl h)
noncomputable def c79_0 := cI18 f79 0
noncomputable def c79_1 := cI18 f79 1
noncomputable def c79_2 := cI18 f79 2
noncomputable def c79_3 := cI18 f79 3
noncomputable def c79_4 := cI18 f79 4
noncomputable def c79_5 := cI18 f79 5
noncomputable def c79_6 := cI18 f79 6
noncomputable def c79_4_0 := cJ18 c79_4 0
noncomputable def c79_4_0_0 := cJ18 c79_4_0 0
noncomputable def c79_4_0_1 := cJ18 c79_4_0 1
noncomputable def c79_4_0_2 := cJ18 c79_4_0 2
noncomputable def c79_4_0_3 := cJ18 c79_4_0 3
def F79_q1 (R : Rt) : EQ := endQ prog f79.results.toList R
def F79_1 (R : Rt) (ds : Ds) (w : World) : Prop :=
 runD prog ds w fun w1 =>
 R (.returned (.bool true)) w1
def F79_k2 (R : Rt) : EP := (fun E ds w => F79_1 R ds w)
def F79_q3 (R : Rt) : EQ := (thenQ (F79_k2 R) (F79_q1 R))
def F79_q4 (R : Rt) : EQ := (blockQ 0 (F79_q3 R))
def F79_q5 (R : Rt) (J1 : (Int) -> World -> Prop) : EQ := (thenQ (fun E _ w => dInt .i64 (E 5) fun n5 => J1 n5 w) (F79_q4 R))
def F79_2 (R : Rt) (J1 : (Int) -> World -> Prop) (l0 l1 : SV) (n5 : Int) (ds : Ds) (w : World) : Prop :=
 Br (decide (n5 < (l0.len : Int))) (
 dwE w fun w2 =>
 ∃ a3 : Addr, l0.a = some a3 /\ 0 ≤ n5 /\ n5 < (l0.len : Int) /\
 ∃ s20_0 : ByteArray, w2.cell? ((a3.add (n5.toNat * 4)).add 0) = some (.string s20_0) /\
 ∃ n20_1 : Int, w2.cell? ((a3.add (n5.toNat * 4)).add 1) = some (.int .i64 n20_1) /\
 ∃ n20_2 : Int, w2.cell? ((a3.add (n5.toNat * 4)).add 2) = some (.int .i64 n20_2) /\
 ∃ b20_3 : Bool, w2.cell? ((a3.add (n5.toNat * 4)).add 3) = some (.bool b20_3) /\
 ∃ a4 : Addr, l1.a = some a4 /\ 0 ≤ n5 /\ n5 < (l1.len : Int) /\
 ∃ s24_0 : ByteArray, w2.cell? ((a4.add (n5.toNat * 4)).add 0) = some (.string s24_0) /\
 ∃ n24_1 : Int, w2.cell? ((a4.add (n5.toNat * 4)).add 1) = some (.int .i64 n24_1) /\
 ∃ n24_2 : Int, w2.cell? ((a4.add (n5.toNat * 4)).add 2) = some (.int .i64 n24_2) /\
 ∃ b24_3 : Bool, w2.cell? ((a4.add (n5.toNat * 4)).add 3) = some (.bool b24_3) /\
 ∃ b25 : Bool, (∀ w, (eqS .neq 23 (.tmp 20) (.tmp 24) (.agg #[.string s20_0, .int .i64 n20_1, .int .i64 n20_2, .bool b20_3]) (.agg #[.string s24_0, .int .i64 n24_1, .int .i64 n24_2, .bool b24_3])).run prog w = .ok (.bool b25) w) /\
 Br b25 (
 runD prog ds w2 fun w5 =>
 R (.returned (.bool false)) w5) (
 J1 (IntKind.i64.wrap (n5 + 1)) w2)) (
 F79_1 R ds w)
def F79_3 (R : Rt) (l0 l1 : SV) (n5 : Int) (ds : Ds) (w : World) : Prop :=
 loopT (fun (J1 : (Int) -> World -> Prop) (s : Int) (w : World) => F79_2 R J1 l0 l1 s ds w) n5 w
abbrev F79_4 (R : Rt) (l0 l1 : SV) (n5 : Int) (ds : Ds) (w : World) : Prop := F79_3 R l0 l1 n5 ds w
def F79_k6 (R : Rt) : EP := (fun E ds w => dSl (E 0) fun l0 => dSl (E 1) fun l1 => dInt .i64 (E 5) fun n5 => F79_4 R l0 l1 n5 ds w)
def F79_5 (R : Rt) (l0 l1 : SV) (ds : Ds) (w : World) : Prop :=
 Br ((l0.len : Int) != (l1.len : Int)) (
 runD prog ds w fun w6 =>
 R (.returned (.bool false)) w6) (
 F79_4 R l0 l1 0 ds w)
theorem c79_l : flat (bodyOf f79) = [c79_0, c79_1, c79_2, c79_3, c79_4, c79_5, c79_6] := by kernel_rfl
theorem c79_4_l : flat (innerC c79_4) = [c79_4_0] := by kernel_rfl
theorem c79_4_0_l : flat (innerC c79_4_0) = [c79_4_0_0, c79_4_0_1, c79_4_0_2, c79_4_0_3] := by kernel_rfl
theorem F79_1_ok (R : Rt) (ds : Ds) (w : World) (E : Env) (h : F79_1 R ds w) :
    TrL prog f79.ntmps [c79_5, c79_6] (F79_q1 R) E ds w :=
  TrL_leaf (X := F79_1 R ds w) setAll_nil (by kernel_rfl) (by kernel_rfl) h
theorem F79_2_ok (R : Rt) (J1 : (Int) -> World -> Prop) (l0 l1 : SV) (n5 : Int) (ds : Ds) (w : World) (E : Env) (e0 : E 0 = .slice l0.a l0.len l0.cap) (e1 : E 1 = .slice l1.a l1.len l1.cap) (e5 : E 5 = .int .i64 n5) (h : F79_2 R J1 l0 l1 n5 ds w) :
    TrL prog f79.ntmps [c79_4_0_0, c79_4_0_1, c79_4_0_2, c79_4_0_3] (F79_q5 R J1) E ds w :=
  TrL_leaf (X := F79_2 R J1 l0 l1 n5 ds w) (setAll_cons e0 (setAll_cons e1 (setAll_cons e5 setAll_nil))) (by kernel_rfl) (by kernel_rfl) h
theorem F79_3_ok (R : Rt) (l0 l1 : SV) (n5 : Int) (ds : Ds) (w : World) (E : Env) (e0 : E 0 = .slice l0.a l0.len l0.cap) (e1 : E 1 = .slice l1.a l1.len l1.cap) (e5 : E 5 = .int .i64 n5) (h : F79_3 R l0 l1 n5 ds w) :
    TrL prog f79.ntmps [c79_4_0] (F79_q4 R) E ds w :=
  TrL_one (Tr_loop' (c := innerC c79_4_0) (σ := Int) (enc := (fun (s : Int) (E : Env) => E 5 = .int .i64 s)) (D := (fun E K => dInt .i64 (E 5) fun n5 => K n5)) (F := (fun (J1 : (Int) -> World -> Prop) (s : Int) (w : World) => F79_2 R J1 l0 l1 s ds w)) (s0 := n5) (by kernel_rfl) c79_4_0_l e5 (by kernel_rfl) (fun E K hD => by obtain ⟨n5, e5, hD⟩ := dInt_elim hD; exact ⟨n5, e5, hD⟩)
      (fun J1 s E' w' he ha hF => by
      have e5' := he
      exact F79_2_ok R J1 l0 l1 s ds w' E' ((ha 0 (by kernel_rfl)).trans e0) ((ha 1 (by kernel_rfl)).trans e1) e5' hF) h)
theorem F79_4_ok (R : Rt) (l0 l1 : SV) (n5 : Int) (ds : Ds) (w : World) (E : Env) (e0 : E 0 = .slice l0.a l0.len l0.cap) (e1 : E 1 = .slice l1.a l1.len l1.cap) (e5 : E 5 = .int .i64 n5) (h : F79_4 R l0 l1 n5 ds w) :
    TrL prog f79.ntmps [c79_4, c79_5, c79_6] (F79_q1 R) E ds w :=
  TrL_head (K := (F79_k2 R)) (Tr_block' (c := innerC c79_4) (by kernel_rfl) c79_4_l (F79_3_ok R l0 l1 n5 ds w E e0 e1 e5 h))
    (fun E' ds' w' hD => by
      exact F79_1_ok R ds' w' E'  hD)
theorem F79_5_ok (R : Rt) (l0 l1 : SV) (ds : Ds) (w : World) (E : Env) (e0 : E 0 = .slice l0.a l0.len l0.cap) (e1 : E 1 = .slice l1.a l1.len l1.cap) (h : F79_5 R l0 l1 ds w) :
    TrL prog f79.ntmps [c79_0, c79_1, c79_2, c79_3, c79_4, c79_5, c79_6] (F79_q1 R) E ds w :=
  TrL_piece (pre := [c79_0, c79_1, c79_2, c79_3]) (K := (F79_k6 R)) (X := F79_5 R l0 l1 ds w) (setAll_cons e0 (setAll_cons e1 setAll_nil)) (by kernel_rfl) (by kernel_rfl)
    (fun E' ds' w' hD => by
      obtain ⟨l0, e0, hD⟩ := dSl_elim hD; obtain ⟨l1, e1, hD⟩ := dSl_elim hD; obtain ⟨n5, e5, hD⟩ := dInt_elim hD; exact F79_4_ok R l0 l1 n5 ds' w' E' e0 e1 e5 hD) h
theorem F79_calls (l0 l1 : SV) (w : World) (R : Rt) (h : F79_5 R l0 l1 [] w) : Calls prog 79 #[.slice l0.a l0.len l0.cap, .slice l1.a l1.len l1.cap] w R :=
  calls_of_L (l := [c79_0, c79_1, c79_2, c79_3, c79_4, c79_5, c79_6]) func79 (by kernel_rfl) (by rw [ntmps79]; exact Nat.le_of_ble_eq_true (by kernel_rfl)) c79_l
    (F79_5_ok R l0 l1 [] w _ rfl rfl h)
end Go.Proofs.YtecmfdfhpldmmaaGreatDoor

/- Shallow texts of functions, printed by program, each checked by the kernel against the loaded code. No condition. -/
set_option maxRecDepth 100000
set_option linter.unusedVariables false
namespace Go.Proofs.YtecmfdfhpldmmaaGreatDoor
open Go.Sh
open Tryz
@[reducible] noncomputable def cI19 (f : Func) (i : Nat) : Code := itemAt (flat (bodyOf f)) i
@[reducible] noncomputable def cJ19 (c : Code) (i : Nat) : Code := itemAt (flat (innerC c)) i
noncomputable def c125_0 := cI19 f125 0
noncomputable def c125_1 := cI19 f125 1
noncomputable def c125_2 := cI19 f125 2
def F125_q1 (R : Rt) : EQ := endQ prog f125.results.toList R
def F125_1 (R : Rt) (s0_0 : ByteArray) (n0_1 n0_2 : Int) (b0_3 : Bool) (n1_0 n1_1 : Int) (s1_2 : ByteArray) (ds : Ds) (w : World) : Prop :=
 alE (.cells #[.string s0_0, .int .i64 n0_1, .int .i64 n0_2, .bool b0_3] 23) w fun r2 w1 =>
 alE (.cells #[.int .i64 n1_0, .int .i64 n1_1, .string s1_2] 25) w1 fun r3 w2 =>
 ∃ n6 : Int, w2.cell? ((⟨r3, 0, none⟩ : Addr).add 1) = some (.int .i64 n6) /\
 ∃ n8 : Int, w2.cell? ((⟨r3, 0, none⟩ : Addr).add 1) = some (.int .i64 n8) /\
 0 ≤ (IntKind.i64.wrap (n8 + 1)) /\ (IntKind.i64.wrap (n8 + 1)).toNat ≤ (⟨#[70, 84]⟩ : ByteArray).size /\ 0 ≤ n6 /\ n6.toNat ≤ (IntKind.i64.wrap (n8 + 1)).toNat /\
 runD prog ds w2 fun w3 =>
 R (.returned (.string ((⟨#[70, 84]⟩ : ByteArray).extract n6.toNat ((IntKind.i64.wrap (n8 + 1)).toNat)))) w3
theorem c125_l : flat (bodyOf f125) = [c125_0, c125_1, c125_2] := by kernel_rfl
theorem F125_1_ok (R : Rt) (s0_0 : ByteArray) (n0_1 n0_2 : Int) (b0_3 : Bool) (n1_0 n1_1 : Int) (s1_2 : ByteArray) (ds : Ds) (w : World) (E : Env) (e0 : E 0 = .agg #[.string s0_0, .int .i64 n0_1, .int .i64 n0_2, .bool b0_3]) (e1 : E 1 = .agg #[.int .i64 n1_0, .int .i64 n1_1, .string s1_2]) (h : F125_1 R s0_0 n0_1 n0_2 b0_3 n1_0 n1_1 s1_2 ds w) :
    TrL prog f125.ntmps [c125_0, c125_1, c125_2] (F125_q1 R) E ds w :=
  TrL_leaf (X := F125_1 R s0_0 n0_1 n0_2 b0_3 n1_0 n1_1 s1_2 ds w) (setAll_cons e0 (setAll_cons e1 setAll_nil)) (by kernel_rfl) (by kernel_rfl) h
theorem F125_calls (s0_0 : ByteArray) (n0_1 n0_2 : Int) (b0_3 : Bool) (n1_0 n1_1 : Int) (s1_2 : ByteArray) (w : World) (R : Rt) (h : F125_1 R s0_0 n0_1 n0_2 b0_3 n1_0 n1_1 s1_2 [] w) : Calls prog 125 #[.agg #[.string s0_0, .int .i64 n0_1, .int .i64 n0_2, .bool b0_3], .agg #[.int .i64 n1_0, .int .i64 n1_1, .string s1_2]] w R :=
  calls_of_L (l := [c125_0, c125_1, c125_2]) func125 (by kernel_rfl) (by rw [ntmps125]; exact Nat.le_of_ble_eq_true (by kernel_rfl)) c125_l
    (F125_1_ok R s0_0 n0_1 n0_2 b0_3 n1_0 n1_1 s1_2 [] w _ rfl rfl h)
noncomputable def c127_0 := cI19 f127 0
noncomputable def c127_1 := cI19 f127 1
noncomputable def c127_2 := cI19 f127 2
noncomputable def c127_3 := cI19 f127 3
def F127_q1 (R : Rt) : EQ := endQ prog f127.results.toList R
def F127_1 (R : Rt) (s0_0 : ByteArray) (n0_1 n0_2 : Int) (b0_3 : Bool) (n1_0 n1_1 : Int) (s1_2 : ByteArray) (ds : Ds) (w : World) : Prop :=
 alE (.cells #[.string s0_0, .int .i64 n0_1, .int .i64 n0_2, .bool b0_3] 23) w fun r2 w1 =>
 alE (.cells #[.int .i64 n1_0, .int .i64 n1_1, .string s1_2] 25) w1 fun r3 w2 =>
 ∃ n9 : Int, w2.cell? ((⟨r3, 0, none⟩ : Addr).add 1) = some (.int .i64 n9) /\
 ∃ n11 : Int, w2.cell? ((⟨r2, 0, none⟩ : Addr).add 2) = some (.int .i64 n11) /\
 Calls prog 53 #[.int .i64 n9, .int .i64 n11] w2 fun e w3 =>
 ∃ s12_0 : ByteArray, ∃ n12_1 : Int, e = .returned (.tuple #[.string s12_0, .int .i64 n12_1]) /\
 runD prog ds w3 fun w4 =>
 R (.returned (.string s12_0)) w4
theorem c127_l : flat (bodyOf f127) = [c127_0, c127_1, c127_2, c127_3] := by kernel_rfl
theorem F127_1_ok (R : Rt) (s0_0 : ByteArray) (n0_1 n0_2 : Int) (b0_3 : Bool) (n1_0 n1_1 : Int) (s1_2 : ByteArray) (ds : Ds) (w : World) (E : Env) (e0 : E 0 = .agg #[.string s0_0, .int .i64 n0_1, .int .i64 n0_2, .bool b0_3]) (e1 : E 1 = .agg #[.int .i64 n1_0, .int .i64 n1_1, .string s1_2]) (h : F127_1 R s0_0 n0_1 n0_2 b0_3 n1_0 n1_1 s1_2 ds w) :
    TrL prog f127.ntmps [c127_0, c127_1, c127_2, c127_3] (F127_q1 R) E ds w :=
  TrL_leaf (X := F127_1 R s0_0 n0_1 n0_2 b0_3 n1_0 n1_1 s1_2 ds w) (setAll_cons e0 (setAll_cons e1 setAll_nil)) (by kernel_rfl) (by kernel_rfl) h
theorem F127_calls (s0_0 : ByteArray) (n0_1 n0_2 : Int) (b0_3 : Bool) (n1_0 n1_1 : Int) (s1_2 : ByteArray) (w : World) (R : Rt) (h : F127_1 R s0_0 n0_1 n0_2 b0_3 n1_0 n1_1 s1_2 [] w) : Calls prog 127 #[.agg #[.string s0_0, .int .i64 n0_1, .int .i64 n0_2, .bool b0_3], .agg #[.int .i64 n1_0, .int .i64 n1_1, .string s1_2]] w R :=
  calls_of_L (l := [c127_0, c127_1, c127_2, c127_3]) func127 (by kernel_rfl) (by rw [ntmps127]; exact Nat.le_of_ble_eq_true (by kernel_rfl)) c127_l
    (F127_1_ok R s0_0 n0_1 n0_2 b0_3 n1_0 n1_1 s1_2 [] w _ rfl rfl h)
noncomputable def c129_0 := cI19 f129 0
noncomputable def c129_1 := cI19 f129 1
noncomputable def c129_2 := cI19 f129 2
noncomputable def c129_3 := cI19 f129 3
def F129_q1 (R : Rt) : EQ := endQ prog f129.results.toList R
def F129_1 (R : Rt) (s0_0 : ByteArray) (n0_1 n0_2 : Int) (b0_3 : Bool) (n1_0 n1_1 : Int) (s1_2 : ByteArray) (ds : Ds) (w : World) : Prop :=
 alE (.cells #[.string s0_0, .int .i64 n0_1, .int .i64 n0_2, .bool b0_3] 23) w fun r2 w1 =>
 alE (.cells #[.int .i64 n1_0, .int .i64 n1_1, .string s1_2] 25) w1 fun r3 w2 =>
 ∃ n9 : Int, w2.cell? ((⟨r3, 0, none⟩ : Addr).add 1) = some (.int .i64 n9) /\
 Calls prog 156 #[.int .i64 n9] w2 fun e w3 =>
 ∃ s10_0 : ByteArray, ∃ n10_1 : Int, e = .returned (.tuple #[.string s10_0, .int .i64 n10_1]) /\
 runD prog ds w3 fun w4 =>
 R (.returned (.string s10_0)) w4
theorem c129_l : flat (bodyOf f129) = [c129_0, c129_1, c129_2, c129_3] := by kernel_rfl
theorem F129_1_ok (R : Rt) (s0_0 : ByteArray) (n0_1 n0_2 : Int) (b0_3 : Bool) (n1_0 n1_1 : Int) (s1_2 : ByteArray) (ds : Ds) (w : World) (E : Env) (e0 : E 0 = .agg #[.string s0_0, .int .i64 n0_1, .int .i64 n0_2, .bool b0_3]) (e1 : E 1 = .agg #[.int .i64 n1_0, .int .i64 n1_1, .string s1_2]) (h : F129_1 R s0_0 n0_1 n0_2 b0_3 n1_0 n1_1 s1_2 ds w) :
    TrL prog f129.ntmps [c129_0, c129_1, c129_2, c129_3] (F129_q1 R) E ds w :=
  TrL_leaf (X := F129_1 R s0_0 n0_1 n0_2 b0_3 n1_0 n1_1 s1_2 ds w) (setAll_cons e0 (setAll_cons e1 setAll_nil)) (by kernel_rfl) (by kernel_rfl) h
theorem F129_calls (s0_0 : ByteArray) (n0_1 n0_2 : Int) (b0_3 : Bool) (n1_0 n1_1 : Int) (s1_2 : ByteArray) (w : World) (R : Rt) (h : F129_1 R s0_0 n0_1 n0_2 b0_3 n1_0 n1_1 s1_2 [] w) : Calls prog 129 #[.agg #[.string s0_0, .int .i64 n0_1, .int .i64 n0_2, .bool b0_3], .agg #[.int .i64 n1_0, .int .i64 n1_1, .string s1_2]] w R :=
  calls_of_L (l := [c129_0, c129_1, c129_2, c129_3]) func129 (by kernel_rfl) (by rw [ntmps129]; exact Nat.le_of_ble_eq_true (by kernel_rfl)) c129_l
    (F129_1_ok R s0_0 n0_1 n0_2 b0_3 n1_0 n1_1 s1_2 [] w _ rfl rfl h)
noncomputable def c133_0 := cI19 f133 0
noncomputable def c133_1 := cI19 f133 1
noncomputable def c133_2 := cI19 f133 2
noncomputable def c133_3 := cI19 f133 3
noncomputable def c133_4 := cI19 f133 4
def F133_q1 (R : Rt) : EQ := endQ prog f133.results.toList R
def F133_1 (R : Rt) (s0_0 : ByteArray) (n0_1 n0_2 : Int) (b0_3 : Bool) (n1_0 n1_1 : Int) (s1_2 : ByteArray) (ds : Ds) (w : World) : Prop :=
 alE (.cells #[.string s0_0, .int .i64 n0_1, .int .i64 n0_2, .bool b0_3] 23) w fun r2 w1 =>
 alE (.cells #[.int .i64 n1_0, .int .i64 n1_1, .string s1_2] 25) w1 fun r3 w2 =>
 ∃ n6 : Int, w2.cell? ((⟨r3, 0, none⟩ : Addr).add 1) = some (.int .i64 n6) /\
 Br (n6 == 0) (
 ∃ n9 : Int, w2.cell? ((⟨r2, 0, none⟩ : Addr).add 2) = some (.int .i64 n9) /\
 Calls prog 99 #[.string (⟨#[32]⟩ : ByteArray), .int .i64 n9] w2 fun e w3 =>
 ∃ s10 : ByteArray, e = .returned (.string s10) /\
 runD prog ds w3 fun w4 =>
 R (.returned (.string s10)) w4) (
 ∃ s11_0 : ByteArray, w2.cell? ((⟨r2, 0, none⟩ : Addr).add 0) = some (.string s11_0) /\
 ∃ n11_1 : Int, w2.cell? ((⟨r2, 0, none⟩ : Addr).add 1) = some (.int .i64 n11_1) /\
 ∃ n11_2 : Int, w2.cell? ((⟨r2, 0, none⟩ : Addr).add 2) = some (.int .i64 n11_2) /\
 ∃ b11_3 : Bool, w2.cell? ((⟨r2, 0, none⟩ : Addr).add 3) = some (.bool b11_3) /\
 ∃ n12_0 : Int, w2.cell? ((⟨r3, 0, none⟩ : Addr).add 0) = some (.int .i64 n12_0) /\
 ∃ n12_1 : Int, w2.cell? ((⟨r3, 0, none⟩ : Addr).add 1) = some (.int .i64 n12_1) /\
 ∃ s12_2 : ByteArray, w2.cell? ((⟨r3, 0, none⟩ : Addr).add 2) = some (.string s12_2) /\
 Calls prog 127 #[.agg #[.string s11_0, .int .i64 n11_1, .int .i64 n11_2, .bool b11_3], .agg #[.int .i64 n12_0, .int .i64 n12_1, .string s12_2]] w2 fun e w5 =>
 ∃ s13 : ByteArray, e = .returned (.string s13) /\
 runD prog ds w5 fun w6 =>
 R (.returned (.string s13)) w6)
theorem c133_l : flat (bodyOf f133) = [c133_0, c133_1, c133_2, c133_3, c133_4] := by kernel_rfl
theorem F133_1_ok (R : Rt) (s0_0 : ByteArray) (n0_1 n0_2 : Int) (b0_3 : Bool) (n1_0 n1_1 : Int) (s1_2 : ByteArray) (ds : Ds) (w : World) (E : Env) (e0 : E 0 = .agg #[.string s0_0, .int .i64 n0_1, .int .i64 n0_2, .bool b0_3]) (e1 : E 1 = .agg #[.int .i64 n1_0, .int .i64 n1_1, .string s1_2]) (h : F133_1 R s0_0 n0_1 n0_2 b0_3 n1_0 n1_1 s1_2 ds w) :
    TrL prog f133.ntmps [c133_0, c133_1, c133_2, c133_3, c133_4] (F133_q1 R) E ds w :=
  TrL_leaf (X := F133_1 R s0_0 n0_1 n0_2 b0_3 n1_0 n1_1 s1_2 ds w) (setAll_cons e0 (setAll_cons e1 setAll_nil)) (by kernel_rfl) (by kernel_rfl) h
theorem F133_calls (s0_0 : ByteArray) (n0_1 n0_2 : Int) (b0_3 : Bool) (n1_0 n1_1 : Int) (s1_2 : ByteArray) (w : World) (R : Rt) (h : F133_1 R s0_0 n0_1 n0_2 b0_3 n1_0 n1_1 s1_2 [] w) : Calls prog 133 #[.agg #[.string s0_0, .int .i64 n0_1, .int .i64 n0_2, .bool b0_3], .agg #[.int .i64 n1_0, .int .i64 n1_1, .string s1_2]] w R :=
  calls_of_L (l := [c133_0, c133_1, c133_2, c133_3, c133_4]) func133 (by kernel_rfl) (by rw [ntmps133]; exact Nat.le_of_ble_eq_true (by kernel_rfl)) c133_l
    (F133_1_ok R s0_0 n0_1 n0_2 b0_3 n1_0 n1_1 s1_2 [] w _ rfl rfl h)
noncomputable def c148_0 := cI19 f148 0
noncomputable def c148_1 := cI19 f148 1
noncomputable def c148_2 := cI19 f148 2
noncomputable def c148_3 := cI19 f148 3
noncomputable def c148_4 := cI19 f148 4
noncomputable def c148_5 := cI19 f148 5
noncomputable def c148_3_0 := cJ19 c148_3 0
noncomputable def c148_3_0_0 := cJ19 c148_3_0 0
noncomputable def c148_3_0_1 := cJ19 c148_3_0 1
noncomputable def c148_3_0_2 := cJ19 c148_3_0 2
noncomputable def c148_3_0_3 := cJ19 c148_3_0 3
def F148_q1 (R : Rt) : EQ := endQ prog f148.results.toList R
def F148_1 (R : Rt) (s5 : ByteArray) (ds : Ds) (w : World) : Prop :=
 runD prog ds w fun w1 =>
 R (.returned (.string s5)) w1
def F148_k2 (R : Rt) : EP := (fun E ds w => dStr (E 5) fun s5 => F148_1 R s5 ds w)
def F148_q3 (R : Rt) : EQ := (thenQ (F148_k2 R) (F148_q1 R))
def F148_q4 (R : Rt) : EQ := (blockQ 0 (F148_q3 R))
def F148_q5 (R : Rt) (J1 : (ByteArray × Int) -> World -> Prop) : EQ := (thenQ (fun E _ w => dStr (E 5) fun s5 => dInt .i64 (E 6) fun n6 => J1 (s5, n6) w) (F148_q4 R))
def F148_2 (R : Rt) (J1 : (ByteArray × Int) -> World -> Prop) (s0 : ByteArray) (n1 : Int) (s5 : ByteArray) (n6 : Int) (ds : Ds) (w : World) : Prop :=
 Br (decide (n6 < n1)) (
 ((s5.size + s0.size : Nat) : Int) ≤ 9223372036854775807 /\
 J1 ((s5 ++ s0), (IntKind.i64.wrap (n6 + 1))) w) (
 F148_1 R s5 ds w)
def F148_3 (R : Rt) (s0 : ByteArray) (n1 : Int) (s5 : ByteArray) (n6 : Int) (ds : Ds) (w : World) : Prop :=
 loopT (fun (J1 : (ByteArray × Int) -> World -> Prop) (s : ByteArray × Int) (w : World) => F148_2 R J1 s0 n1 s.1 s.2 ds w) (s5, n6) w
abbrev F148_4 (R : Rt) (s0 : ByteArray) (n1 : Int) (s5 : ByteArray) (n6 : Int) (ds : Ds) (w : World) : Prop := F148_3 R s0 n1 s5 n6 ds w
def F148_k6 (R : Rt) : EP := (fun E ds w => dStr (E 0) fun s0 => dInt .i64 (E 1) fun n1 => dStr (E 5) fun s5 => dInt .i64 (E 6) fun n6 => F148_4 R s0 n1 s5 n6 ds w)
def F148_5 (R : Rt) (s0 : ByteArray) (n1 : Int) (ds : Ds) (w : World) : Prop :=
 F148_4 R s0 n1 (⟨#[]⟩ : ByteArray) 0 ds w
theorem c148_l : flat (bodyOf f148) = [c148_0, c148_1, c148_2, c148_3, c148_4, c148_5] := by kernel_rfl
theorem c148_3_l : flat (innerC c148_3) = [c148_3_0] := by kernel_rfl
theorem c148_3_0_l : flat (innerC c148_3_0) = [c148_3_0_0, c148_3_0_1, c148_3_0_2, c148_3_0_3] := by kernel_rfl
theorem F148_1_ok (R : Rt) (s5 : ByteArray) (ds : Ds) (w : World) (E : Env) (e5 : E 5 = .string s5) (h : F148_1 R s5 ds w) :
    TrL prog f148.ntmps [c148_4, c148_5] (F148_q1 R) E ds w :=
  TrL_leaf (X := F148_1 R s5 ds w) (setAll_cons e5 setAll_nil) (by kernel_rfl) (by kernel_rfl) h
theorem F148_2_ok (R : Rt) (J1 : (ByteArray × Int) -> World -> Prop) (s0 : ByteArray) (n1 : Int) (s5 : ByteArray) (n6 : Int) (ds : Ds) (w : World) (E : Env) (e0 : E 0 = .string s0) (e1 : E 1 = .int .i64 n1) (e5 : E 5 = .string s5) (e6 : E 6 = .int .i64 n6) (h : F148_2 R J1 s0 n1 s5 n6 ds w) :
    TrL prog f148.ntmps [c148_3_0_0, c148_3_0_1, c148_3_0_2, c148_3_0_3] (F148_q5 R J1) E ds w :=
  TrL_leaf (X := F148_2 R J1 s0 n1 s5 n6 ds w) (setAll_cons e0 (setAll_cons e1 (setAll_cons e5 (setAll_cons e6 setAll_nil)))) (by kernel_rfl) (by kernel_rfl) h
theorem F148_3_ok (R : Rt) (s0 : ByteArray) (n1 : Int) (s5 : ByteArray) (n6 : Int) (ds : Ds) (w : World) (E : Env) (e0 : E 0 = .string s0) (e1 : E 1 = .int .i64 n1) (e5 : E 5 = .string s5) (e6 : E 6 = .int .i64 n6) (h : F148_3 R s0 n1 s5 n6 ds w) :
    TrL prog f148.ntmps [c148_3_0] (F148_q4 R) E ds w :=
  TrL_one (Tr_loop' (c := innerC c148_3_0) (σ := ByteArray × Int) (enc := (fun (s : ByteArray × Int) (E : Env) => E 5 = .string s.1 /\ E 6 = .int .i64 s.2)) (D := (fun E K => dStr (E 5) fun s5 => dInt .i64 (E 6) fun n6 => K (s5, n6))) (F := (fun (J1 : (ByteArray × Int) -> World -> Prop) (s : ByteArray × Int) (w : World) => F148_2 R J1 s0 n1 s.1 s.2 ds w)) (s0 := (s5, n6)) (by kernel_rfl) c148_3_0_l ⟨e5, e6⟩ (by kernel_rfl) (fun E K hD => by obtain ⟨s5, e5, hD⟩ := dStr_elim hD; obtain ⟨n6, e6, hD⟩ := dInt_elim hD; exact ⟨(s5, n6), ⟨e5, e6⟩, hD⟩)
      (fun J1 s E' w' he ha hF => by
      obtain ⟨e5', e6'⟩ := he
      exact F148_2_ok R J1 s0 n1 s.1 s.2 ds w' E' ((ha 0 (by kernel_rfl)).trans e0) ((ha 1 (by kernel_rfl)).trans e1) e5' e6' hF) h)
theorem F148_4_ok (R : Rt) (s0 : ByteArray) (n1 : Int) (s5 : ByteArray) (n6 : Int) (ds : Ds) (w : World) (E : Env) (e0 : E 0 = .string s0) (e1 : E 1 = .int .i64 n1) (e5 : E 5 = .string s5) (e6 : E 6 = .int .i64 n6) (h : F148_4 R s0 n1 s5 n6 ds w) :
    TrL prog f148.ntmps [c148_3, c148_4, c148_5] (F148_q1 R) E ds w :=
  TrL_head (K := (F148_k2 R)) (Tr_block' (c := innerC c148_3) (by kernel_rfl) c148_3_l (F148_3_ok R s0 n1 s5 n6 ds w E e0 e1 e5 e6 h))
    (fun E' ds' w' hD => by
      obtain ⟨s5, e5, hD⟩ := dStr_elim hD; exact F148_1_ok R s5 ds' w' E' e5 hD)
theorem F148_5_ok (R : Rt) (s0 : ByteArray) (n1 : Int) (ds : Ds) (w : World) (E : Env) (e0 : E 0 = .string s0) (e1 : E 1 = .int .i64 n1) (h : F148_5 R s0 n1 ds w) :
    TrL prog f148.ntmps [c148_0, c148_1, c148_2, c148_3, c148_4, c148_5] (F148_q1 R) E ds w :=
  TrL_piece (pre := [c148_0, c148_1, c148_2]) (K := (F148_k6 R)) (X := F148_5 R s0 n1 ds w) (setAll_cons e0 (setAll_cons e1 setAll_nil)) (by kernel_rfl) (by kernel_rfl)
    (fun E' ds' w' hD => by
      obtain ⟨s0, e0, hD⟩ := dStr_elim hD; obtain ⟨n1, e1, hD⟩ := dInt_elim hD; obtain ⟨s5, e5, hD⟩ := dStr_elim hD; obtain ⟨n6, e6, hD⟩ := dInt_elim hD; exact F148_4_ok R s0 n1 s5 n6 ds' w' E' e0 e1 e5 e6 hD) h
theorem F148_calls (s0 : ByteArray) (n1 : Int) (w : World) (R : Rt) (h : F148_5 R s0 n1 [] w) : Calls prog 148 #[.string s0, .int .i64 n1] w R :=
  calls_of_L (l := [c148_0, c148_1, c148_2, c148_3, c148_4, c148_5]) func148 (by kernel_rfl) (by rw [ntmps148]; exact Nat.le_of_ble_eq_true (by kernel_rfl)) c148_l
    (F148_5_ok R s0 n1 [] w _ rfl rfl h)
end Go.Proofs.YtecmfdfhpldmmaaGreatDoor

/- Shallow texts of functions, printed by program, each checked by the kernel against the loaded code. No condition. -/
set_option maxRecDepth 100000
set_option linter.unusedVariables false
namespace Go.Proofs.YtecmfdfhpldmmaaGreatDoor
open Go.Sh
open Tryz
@[reducible] noncomputable def cI20 (f : Func) (i : Nat) : Code := itemAt (flat (bodyOf f)) i
@[reducible] noncomputable def cJ20 (c : Code) (i : Nat) : Code := itemAt (flat (innerC c)) i
noncomputable def c108_0 := cI20 f108 0
noncomputable def c108_1 := cI20 f108 1
noncomputable def c108_2 := cI20 f108 2
noncomputable def c108_3 := cI20 f108 3
noncomputable def c108_4 := cI20 f108 4
def F108_q1 (R : Rt) : EQ := endQ prog f108.results.toList R
def F108_1 (R : Rt) (s0_0 : ByteArray) (n0_1 n0_2 : Int) (b0_3 : Bool) (n1_0 n1_1 : Int) (s1_2 : ByteArray) (ds : Ds) (w : World) : Prop :=
 alE (.cells #[.string s0_0, .int .i64 n0_1, .int .i64 n0_2, .bool b0_3] 23) w fun r2 w1 =>
 alE (.cells #[.int .i64 n1_0, .int .i64 n1_1, .string s1_2] 25) w1 fun r3 w2 =>
 ∃ n19 : Int, w2.cell? (⟨r3, 0, none⟩ : Addr) = some (.int .i64 n19) /\
 Br (n19 == 0) (
 ∃ n55 : Int, w2.cell? ((⟨r2, 0, none⟩ : Addr).add 2) = some (.int .i64 n55) /\
 Calls prog 148 #[.string (⟨#[32]⟩ : ByteArray), .int .i64 (IntKind.i64.wrap (n55 - (((⟨#[]⟩ : ByteArray).size : Nat) : Int)))] w2 fun e w3 =>
 ∃ s59 : ByteArray, e = .returned (.string s59) /\
 (((⟨#[]⟩ : ByteArray).size + s59.size : Nat) : Int) ≤ 9223372036854775807 /\
 runD prog ds w3 fun w4 =>
 R (.returned (.string ((⟨#[]⟩ : ByteArray) ++ s59))) w4) (
 ∃ n23 : Int, w2.cell? ((⟨r2, 0, none⟩ : Addr).add 1) = some (.int .i64 n23) /\
 Br (n23 == 1) (
 ∃ n26 : Int, w2.cell? ((⟨r3, 0, none⟩ : Addr).add 1) = some (.int .i64 n26) /\
 Br (n26 == 1) (
 ∃ n55 : Int, w2.cell? ((⟨r2, 0, none⟩ : Addr).add 2) = some (.int .i64 n55) /\
 Calls prog 148 #[.string (⟨#[32]⟩ : ByteArray), .int .i64 (IntKind.i64.wrap (n55 - (((⟨#[84]⟩ : ByteArray).size : Nat) : Int)))] w2 fun e w5 =>
 ∃ s59 : ByteArray, e = .returned (.string s59) /\
 (((⟨#[84]⟩ : ByteArray).size + s59.size : Nat) : Int) ≤ 9223372036854775807 /\
 runD prog ds w5 fun w6 =>
 R (.returned (.string ((⟨#[84]⟩ : ByteArray) ++ s59))) w6) (
 ∃ n55 : Int, w2.cell? ((⟨r2, 0, none⟩ : Addr).add 2) = some (.int .i64 n55) /\
 Calls prog 148 #[.string (⟨#[32]⟩ : ByteArray), .int .i64 (IntKind.i64.wrap (n55 - (((⟨#[70]⟩ : ByteArray).size : Nat) : Int)))] w2 fun e w7 =>
 ∃ s59 : ByteArray, e = .returned (.string s59) /\
 (((⟨#[70]⟩ : ByteArray).size + s59.size : Nat) : Int) ≤ 9223372036854775807 /\
 runD prog ds w7 fun w8 =>
 R (.returned (.string ((⟨#[70]⟩ : ByteArray) ++ s59))) w8)) (
 ∃ n30 : Int, w2.cell? ((⟨r2, 0, none⟩ : Addr).add 1) = some (.int .i64 n30) /\
 Br (n30 == 3) (
 ∃ n34 : Int, w2.cell? ((⟨r3, 0, none⟩ : Addr).add 1) = some (.int .i64 n34) /\
 Calls prog 121 #[.int .i64 n34] w2 fun e w9 =>
 ∃ s35_0 : ByteArray, ∃ n35_1 : Int, e = .returned (.tuple #[.string s35_0, .int .i64 n35_1]) /\
 ∃ n55 : Int, w9.cell? ((⟨r2, 0, none⟩ : Addr).add 2) = some (.int .i64 n55) /\
 Calls prog 148 #[.string (⟨#[32]⟩ : ByteArray), .int .i64 (IntKind.i64.wrap (n55 - (s35_0.size : Int)))] w9 fun e w10 =>
 ∃ s59 : ByteArray, e = .returned (.string s59) /\
 ((s35_0.size + s59.size : Nat) : Int) ≤ 9223372036854775807 /\
 runD prog ds w10 fun w11 =>
 R (.returned (.string (s35_0 ++ s59))) w11) (
 ∃ n40 : Int, w2.cell? ((⟨r2, 0, none⟩ : Addr).add 1) = some (.int .i64 n40) /\
 Br (n40 == 4) (
 ∃ s43 : ByteArray, w2.cell? ((⟨r3, 0, none⟩ : Addr).add 2) = some (.string s43) /\
 ∃ n55 : Int, w2.cell? ((⟨r2, 0, none⟩ : Addr).add 2) = some (.int .i64 n55) /\
 Calls prog 148 #[.string (⟨#[32]⟩ : ByteArray), .int .i64 (IntKind.i64.wrap (n55 - (s43.size : Int)))] w2 fun e w12 =>
 ∃ s59 : ByteArray, e = .returned (.string s59) /\
 ((s43.size + s59.size : Nat) : Int) ≤ 9223372036854775807 /\
 runD prog ds w12 fun w13 =>
 R (.returned (.string (s43 ++ s59))) w13) (
 ∃ n46 : Int, w2.cell? ((⟨r2, 0, none⟩ : Addr).add 1) = some (.int .i64 n46) /\
 Br (n46 == 5) (
 ∃ n50 : Int, w2.cell? ((⟨r3, 0, none⟩ : Addr).add 1) = some (.int .i64 n50) /\
 Br (n50 == 0) (
 ∃ n55 : Int, w2.cell? ((⟨r2, 0, none⟩ : Addr).add 2) = some (.int .i64 n55) /\
 Calls prog 148 #[.string (⟨#[32]⟩ : ByteArray), .int .i64 (IntKind.i64.wrap (n55 - (((⟨#[]⟩ : ByteArray).size : Nat) : Int)))] w2 fun e w14 =>
 ∃ s59 : ByteArray, e = .returned (.string s59) /\
 (((⟨#[]⟩ : ByteArray).size + s59.size : Nat) : Int) ≤ 9223372036854775807 /\
 runD prog ds w14 fun w15 =>
 R (.returned (.string ((⟨#[]⟩ : ByteArray) ++ s59))) w15) (
 ∃ n7 : Int, w2.cell? ((⟨r3, 0, none⟩ : Addr).add 1) = some (.int .i64 n7) /\
 Calls prog 119 #[.int .i64 n7] w2 fun e w16 =>
 ∃ s8 : ByteArray, e = .returned (.string s8) /\
 ∃ n10 : Int, w16.cell? ((⟨r2, 0, none⟩ : Addr).add 2) = some (.int .i64 n10) /\
 Calls prog 148 #[.string (⟨#[32]⟩ : ByteArray), .int .i64 (IntKind.i64.wrap (n10 - (s8.size : Int)))] w16 fun e w17 =>
 ∃ s14 : ByteArray, e = .returned (.string s14) /\
 ((s14.size + s8.size : Nat) : Int) ≤ 9223372036854775807 /\
 runD prog ds w17 fun w18 =>
 R (.returned (.string (s14 ++ s8))) w18)) (
 ∃ n7 : Int, w2.cell? ((⟨r3, 0, none⟩ : Addr).add 1) = some (.int .i64 n7) /\
 Calls prog 119 #[.int .i64 n7] w2 fun e w19 =>
 ∃ s8 : ByteArray, e = .returned (.string s8) /\
 ∃ n10 : Int, w19.cell? ((⟨r2, 0, none⟩ : Addr).add 2) = some (.int .i64 n10) /\
 Calls prog 148 #[.string (⟨#[32]⟩ : ByteArray), .int .i64 (IntKind.i64.wrap (n10 - (s8.size : Int)))] w19 fun e w20 =>
 ∃ s14 : ByteArray, e = .returned (.string s14) /\
 ((s14.size + s8.size : Nat) : Int) ≤ 9223372036854775807 /\
 runD prog ds w20 fun w21 =>
 R (.returned (.string (s14 ++ s8))) w21)))))
theorem c108_l : flat (bodyOf f108) = [c108_0, c108_1, c108_2, c108_3, c108_4] := by kernel_rfl
theorem F108_1_ok (R : Rt) (s0_0 : ByteArray) (n0_1 n0_2 : Int) (b0_3 : Bool) (n1_0 n1_1 : Int) (s1_2 : ByteArray) (ds : Ds) (w : World) (E : Env) (e0 : E 0 = .agg #[.string s0_0, .int .i64 n0_1, .int .i64 n0_2, .bool b0_3]) (e1 : E 1 = .agg #[.int .i64 n1_0, .int .i64 n1_1, .string s1_2]) (h : F108_1 R s0_0 n0_1 n0_2 b0_3 n1_0 n1_1 s1_2 ds w) :
    TrL prog f108.ntmps [c108_0, c108_1, c108_2, c108_3, c108_4] (F108_q1 R) E ds w :=
  TrL_leaf (X := F108_1 R s0_0 n0_1 n0_2 b0_3 n1_0 n1_1 s1_2 ds w) (setAll_cons e0 (setAll_cons e1 setAll_nil)) (by kernel_rfl) (by kernel_rfl) h
theorem F108_calls (s0_0 : ByteArray) (n0_1 n0_2 : Int) (b0_3 : Bool) (n1_0 n1_1 : Int) (s1_2 : ByteArray) (w : World) (R : Rt) (h : F108_1 R s0_0 n0_1 n0_2 b0_3 n1_0 n1_1 s1_2 [] w) : Calls prog 108 #[.agg #[.string s0_0, .int .i64 n0_1, .int .i64 n0_2, .bool b0_3], .agg #[.int .i64 n1_0, .int .i64 n1_1, .string s1_2]] w R :=
  calls_of_L (l := [c108_0, c108_1, c108_2, c108_3, c108_4]) func108 (by kernel_rfl) (by rw [ntmps108]; exact Nat.le_of_ble_eq_true (by kernel_rfl)) c108_l
    (F108_1_ok R s0_0 n0_1 n0_2 b0_3 n1_0 n1_1 s1_2 [] w _ rfl rfl h)
noncomputable def c61_0 := cI20 f61 0
noncomputable def c61_1 := cI20 f61 1
noncomputable def c61_2 := cI20 f61 2
noncomputable def c61_3 := cI20 f61 3
noncomputable def c61_4 := cI20 f61 4
noncomputable def c61_5 := cI20 f61 5
noncomputable def c61_6 := cI20 f61 6
noncomputable def c61_7 := cI20 f61 7
noncomputable def c61_8 := cI20 f61 8
noncomputable def c61_9 := cI20 f61 9
noncomputable def c61_10 := cI20 f61 10
noncomputable def c61_11 := cI20 f61 11
noncomputable def c61_12 := cI20 f61 12
noncomputable def c61_10_0 := cJ20 c61_10 0
noncomputable def c61_10_0_0 := cJ20 c61_10_0 0
noncomputable def c61_10_0_1 := cJ20 c61_10_0 1
noncomputable def c61_10_0_2 := cJ20 c61_10_0 2
noncomputable def c61_10_0_3 := cJ20 c61_10_0 3
noncomputable def c61_7_0 := cJ20 c61_7 0
noncomputable def c61_7_0_0 := cJ20 c61_7_0 0
noncomputable def c61_7_0_1 := cJ20 c61_7_0 1
noncomputable def c61_7_0_2 := cJ20 c61_7_0 2
noncomputable def c61_7_0_3 := cJ20 c61_7_0 3
def F61_q1 (R : Rt) : EQ := endQ prog f61.results.toList R
def F61_1 (R : Rt) (l5 : SV) (ds : Ds) (w : World) : Prop :=
 runD prog ds w fun w1 =>
 R (.returned (.slice l5.a l5.len l5.cap)) w1
def F61_k2 (R : Rt) : EP := (fun E ds w => dSl (E 5) fun l5 => F61_1 R l5 ds w)
def F61_q3 (R : Rt) : EQ := (thenQ (F61_k2 R) (F61_q1 R))
def F61_q4 (R : Rt) : EQ := (blockQ 2 (F61_q3 R))
def F61_q5 (R : Rt) (J1 : (SV × Int) -> World -> Prop) : EQ := (thenQ (fun E _ w => dSl (E 5) fun l5 => dInt .i64 (E 9) fun n9 => J1 (l5, n9) w) (F61_q4 R))
def F61_2 (R : Rt) (J1 : (SV × Int) -> World -> Prop) (l0 : SV) (p3 : Option Addr) (l5 : SV) (n9 : Int) (ds : Ds) (w : World) : Prop :=
 Br (decide (n9 < (l0.len : Int))) (
 dwE w fun w2 =>
 ∃ a3 : Addr, l0.a = some a3 /\ 0 ≤ n9 /\ n9 < (l0.len : Int) /\
 ∃ s62_0 : ByteArray, w2.cell? ((a3.add (n9.toNat * 4)).add 0) = some (.string s62_0) /\
 ∃ n62_1 : Int, w2.cell? ((a3.add (n9.toNat * 4)).add 1) = some (.int .i64 n62_1) /\
 ∃ n62_2 : Int, w2.cell? ((a3.add (n9.toNat * 4)).add 2) = some (.int .i64 n62_2) /\
 ∃ b62_3 : Bool, w2.cell? ((a3.add (n9.toNat * 4)).add 3) = some (.bool b62_3) /\
 ptrE p3 fun a4 =>
 ∃ l64 : SV, w2.cell? (a4.add 1) = some (.slice l64.a l64.len l64.cap) /\
 ∃ a5 : Addr, l64.a = some a5 /\ 0 ≤ n9 /\ n9 < (l64.len : Int) /\
 ∃ n67_0 : Int, w2.cell? ((a5.add (n9.toNat * 3)).add 0) = some (.int .i64 n67_0) /\
 ∃ n67_1 : Int, w2.cell? ((a5.add (n9.toNat * 3)).add 1) = some (.int .i64 n67_1) /\
 ∃ s67_2 : ByteArray, w2.cell? ((a5.add (n9.toNat * 3)).add 2) = some (.string s67_2) /\
 Calls prog 108 #[.agg #[.string s62_0, .int .i64 n62_1, .int .i64 n62_2, .bool b62_3], .agg #[.int .i64 n67_0, .int .i64 n67_1, .string s67_2]] w2 fun e w6 =>
 ∃ s68 : ByteArray, e = .returned (.string s68) /\
 ∃ l69 : SV, ∃ w7 : World, (convert 9 37 (.string s68)).run prog w6 = .ok (.slice l69.a l69.len l69.cap) w7 /\
 ∃ l70 : SV, ∃ w8 : World, (Builtin.append_ #[37, 37] 37 #[.slice l5.a l5.len l5.cap, .slice l69.a l69.len l69.cap]).run prog w7 = .ok (.slice l70.a l70.len l70.cap) w8 /\
 J1 (l70, (IntKind.i64.wrap (n9 + 1))) w8) (
 F61_1 R l5 ds w)
def F61_3 (R : Rt) (l0 : SV) (p3 : Option Addr) (l5 : SV) (n9 : Int) (ds : Ds) (w : World) : Prop :=
 loopT (fun (J1 : (SV × Int) -> World -> Prop) (s : SV × Int) (w : World) => F61_2 R J1 l0 p3 s.1 s.2 ds w) (l5, n9) w
abbrev F61_4 (R : Rt) (l0 : SV) (p3 : Option Addr) (l5 : SV) (n9 : Int) (ds : Ds) (w : World) : Prop := F61_3 R l0 p3 l5 n9 ds w
def F61_k6 (R : Rt) : EP := (fun E ds w => dSl (E 0) fun l0 => dPtr (E 3) fun p3 => dSl (E 5) fun l5 => dInt .i64 (E 9) fun n9 => F61_4 R l0 p3 l5 n9 ds w)
def F61_5 (R : Rt) (l0 : SV) (p3 : Option Addr) (l5 l6 : SV) (ds : Ds) (w : World) : Prop :=
 ∃ l51 : SV, ∃ w9 : World, (Builtin.append_ #[37, 37] 37 #[.slice l5.a l5.len l5.cap, .slice l6.a l6.len l6.cap]).run prog w = .ok (.slice l51.a l51.len l51.cap) w9 /\
 F61_4 R l0 p3 l51 0 ds w9
def F61_k7 (R : Rt) : EP := (fun E ds w => dSl (E 0) fun l0 => dPtr (E 3) fun p3 => dSl (E 5) fun l5 => dSl (E 6) fun l6 => F61_5 R l0 p3 l5 l6 ds w)
def F61_q8 (R : Rt) : EQ := (thenQ (F61_k7 R) (F61_q1 R))
def F61_q9 (R : Rt) : EQ := (blockQ 0 (F61_q8 R))
def F61_q10 (R : Rt) (J1 : (Int × Int) -> World -> Prop) : EQ := (thenQ (fun E _ w => dInt .i64 (E 7) fun n7 => dInt .i64 (E 8) fun n8 => J1 (n7, n8) w) (F61_q9 R))
def F61_6 (R : Rt) (J1 : (Int × Int) -> World -> Prop) (l0 : SV) (p3 : Option Addr) (l5 l6 : SV) (n7 n8 : Int) (ds : Ds) (w : World) : Prop :=
 Br (decide (n8 < (l0.len : Int))) (
 ∃ a10 : Addr, l0.a = some a10 /\ 0 ≤ n8 /\ n8 < (l0.len : Int) /\
 ∃ b28 : Bool, w.cell? ((a10.add (n8.toNat * 4)).add 3) = some (.bool b28) /\
 Br (!b28) (
 J1 (n7, (IntKind.i64.wrap (n8 + 1))) w) (
 ptrE p3 fun a11 =>
 ∃ l31 : SV, w.cell? (a11.add 1) = some (.slice l31.a l31.len l31.cap) /\
 ∃ a12 : Addr, l31.a = some a12 /\ 0 ≤ n8 /\ n8 < (l31.len : Int) /\
 ∃ n35 : Int, w.cell? (a12.add (n8.toNat * 3)) = some (.int .i64 n35) /\
 Br (n35 == 0) (
 dwE w fun w13 =>
 IntKind.i64 = IntKind.i64 /\ (8 : Int) ≠ 0 /\
 ∃ a14 : Addr, l6.a = some a14 /\ 0 ≤ (IntKind.i64.wrap (n7.tdiv 8)) /\ (IntKind.i64.wrap (n7.tdiv 8)) < (l6.len : Int) /\
 ∃ n41 : Int, w13.cell? (a14.add ((IntKind.i64.wrap (n7.tdiv 8)).toNat * 1)) = some (.int .u8 n41) /\
 IntKind.i64 = IntKind.i64 /\ (8 : Int) ≠ 0 /\
 0 ≤ (n7.tmod 8) /\
 ∃ a15 : Addr, l6.a = some a15 /\ 0 ≤ (IntKind.i64.wrap (n7.tdiv 8)) /\ (IntKind.i64.wrap (n7.tdiv 8)) < (l6.len : Int) /\
 st1 (a15.add ((IntKind.i64.wrap (n7.tdiv 8)).toNat * 1)) (.int .u8 (IntKind.u8.wrap (n41 + (IntKind.u8.wrap ((1 : Int) * 2 ^ (min (n7.tmod 8).toNat 8)))))) w13 fun w16 =>
 J1 ((IntKind.i64.wrap (n7 + 1)), (IntKind.i64.wrap (n8 + 1))) w16) (
 J1 ((IntKind.i64.wrap (n7 + 1)), (IntKind.i64.wrap (n8 + 1))) w))) (
 F61_5 R l0 p3 l5 l6 ds w)
def F61_7 (R : Rt) (l0 : SV) (p3 : Option Addr) (l5 l6 : SV) (n7 n8 : Int) (ds : Ds) (w : World) : Prop :=
 loopT (fun (J1 : (Int × Int) -> World -> Prop) (s : Int × Int) (w : World) => F61_6 R J1 l0 p3 l5 l6 s.1 s.2 ds w) (n7, n8) w
abbrev F61_8 (R : Rt) (l0 : SV) (p3 : Option Addr) (l5 l6 : SV) (n7 n8 : Int) (ds : Ds) (w : World) : Prop := F61_7 R l0 p3 l5 l6 n7 n8 ds w
def F61_k11 (R : Rt) : EP := (fun E ds w => dSl (E 0) fun l0 => dPtr (E 3) fun p3 => dSl (E 5) fun l5 => dSl (E 6) fun l6 => dInt .i64 (E 7) fun n7 => dInt .i64 (E 8) fun n8 => F61_8 R l0 p3 l5 l6 n7 n8 ds w)
def F61_9 (R : Rt) (l0 : SV) (b1_0 : Bool) (l1_1 : SV) (ds : Ds) (w : World) : Prop :=
 alE (.cells #[.bool b1_0, .slice l1_1.a l1_1.len l1_1.cap] 46) w fun r3 w17 =>
 alE (.cells #[.int .u8 32] 5) w17 fun r10 w18 =>
 ∃ b12 : Bool, w18.cell? (⟨r3, 0, none⟩ : Addr) = some (.bool b12) /\
 Br b12 (
 ∃ a19 : Addr, (some ⟨r10, 0, none⟩) = some a19 /\ 0 ≤ (0 : Int) /\ (0 : Int) < (1 : Int) /\
 st1 (a19.add ((0 : Int).toNat * 1)) (.int .u8 42) w18 fun w20 =>
 Calls prog 72 #[.slice l0.a l0.len l0.cap] w20 fun e w21 =>
 ∃ n16 : Int, e = .returned (.int .i64 n16) /\
 ∃ l17 : SV, ∃ w22 : World, (Instr.makeSlice 37 (.int .i64 n16) (.int .i64 n16)).run prog w21 = .ok (.slice l17.a l17.len l17.cap) w22 /\
 F61_8 R l0 (some (⟨r3, 0, none⟩ : Addr)) ⟨(some ⟨r10, 0, none⟩), 1, 1⟩ l17 0 0 ds w22) (
 Calls prog 72 #[.slice l0.a l0.len l0.cap] w18 fun e w23 =>
 ∃ n16 : Int, e = .returned (.int .i64 n16) /\
 ∃ l17 : SV, ∃ w24 : World, (Instr.makeSlice 37 (.int .i64 n16) (.int .i64 n16)).run prog w23 = .ok (.slice l17.a l17.len l17.cap) w24 /\
 F61_8 R l0 (some (⟨r3, 0, none⟩ : Addr)) ⟨(some ⟨r10, 0, none⟩), 1, 1⟩ l17 0 0 ds w24)
theorem c61_l : flat (bodyOf f61) = [c61_0, c61_1, c61_2, c61_3, c61_4, c61_5, c61_6, c61_7, c61_8, c61_9, c61_10, c61_11, c61_12] := by kernel_rfl
theorem c61_10_l : flat (innerC c61_10) = [c61_10_0] := by kernel_rfl
theorem c61_10_0_l : flat (innerC c61_10_0) = [c61_10_0_0, c61_10_0_1, c61_10_0_2, c61_10_0_3] := by kernel_rfl
theorem c61_7_l : flat (innerC c61_7) = [c61_7_0] := by kernel_rfl
theorem c61_7_0_l : flat (innerC c61_7_0) = [c61_7_0_0, c61_7_0_1, c61_7_0_2, c61_7_0_3] := by kernel_rfl
theorem F61_1_ok (R : Rt) (l5 : SV) (ds : Ds) (w : World) (E : Env) (e5 : E 5 = .slice l5.a l5.len l5.cap) (h : F61_1 R l5 ds w) :
    TrL prog f61.ntmps [c61_11, c61_12] (F61_q1 R) E ds w :=
  TrL_leaf (X := F61_1 R l5 ds w) (setAll_cons e5 setAll_nil) (by kernel_rfl) (by kernel_rfl) h
theorem F61_2_ok (R : Rt) (J1 : (SV × Int) -> World -> Prop) (l0 : SV) (p3 : Option Addr) (l5 : SV) (n9 : Int) (ds : Ds) (w : World) (E : Env) (e0 : E 0 = .slice l0.a l0.len l0.cap) (e3 : E 3 = .pointer p3) (e5 : E 5 = .slice l5.a l5.len l5.cap) (e9 : E 9 = .int .i64 n9) (h : F61_2 R J1 l0 p3 l5 n9 ds w) :
    TrL prog f61.ntmps [c61_10_0_0, c61_10_0_1, c61_10_0_2, c61_10_0_3] (F61_q5 R J1) E ds w :=
  TrL_leaf (X := F61_2 R J1 l0 p3 l5 n9 ds w) (setAll_cons e0 (setAll_cons e3 (setAll_cons e5 (setAll_cons e9 setAll_nil)))) (by kernel_rfl) (by kernel_rfl) h
theorem F61_3_ok (R : Rt) (l0 : SV) (p3 : Option Addr) (l5 : SV) (n9 : Int) (ds : Ds) (w : World) (E : Env) (e0 : E 0 = .slice l0.a l0.len l0.cap) (e3 : E 3 = .pointer p3) (e5 : E 5 = .slice l5.a l5.len l5.cap) (e9 : E 9 = .int .i64 n9) (h : F61_3 R l0 p3 l5 n9 ds w) :
    TrL prog f61.ntmps [c61_10_0] (F61_q4 R) E ds w :=
  TrL_one (Tr_loop' (c := innerC c61_10_0) (σ := SV × Int) (enc := (fun (s : SV × Int) (E : Env) => E 5 = .slice s.1.a s.1.len s.1.cap /\ E 9 = .int .i64 s.2)) (D := (fun E K => dSl (E 5) fun l5 => dInt .i64 (E 9) fun n9 => K (l5, n9))) (F := (fun (J1 : (SV × Int) -> World -> Prop) (s : SV × Int) (w : World) => F61_2 R J1 l0 p3 s.1 s.2 ds w)) (s0 := (l5, n9)) (by kernel_rfl) c61_10_0_l ⟨e5, e9⟩ (by kernel_rfl) (fun E K hD => by obtain ⟨l5, e5, hD⟩ := dSl_elim hD; obtain ⟨n9, e9, hD⟩ := dInt_elim hD; exact ⟨(l5, n9), ⟨e5, e9⟩, hD⟩)
      (fun J1 s E' w' he ha hF => by
      obtain ⟨e5', e9'⟩ := he
      exact F61_2_ok R J1 l0 p3 s.1 s.2 ds w' E' ((ha 0 (by kernel_rfl)).trans e0) ((ha 3 (by kernel_rfl)).trans e3) e5' e9' hF) h)
theorem F61_4_ok (R : Rt) (l0 : SV) (p3 : Option Addr) (l5 : SV) (n9 : Int) (ds : Ds) (w : World) (E : Env) (e0 : E 0 = .slice l0.a l0.len l0.cap) (e3 : E 3 = .pointer p3) (e5 : E 5 = .slice l5.a l5.len l5.cap) (e9 : E 9 = .int .i64 n9) (h : F61_4 R l0 p3 l5 n9 ds w) :
    TrL prog f61.ntmps [c61_10, c61_11, c61_12] (F61_q1 R) E ds w :=
  TrL_head (K := (F61_k2 R)) (Tr_block' (c := innerC c61_10) (by kernel_rfl) c61_10_l (F61_3_ok R l0 p3 l5 n9 ds w E e0 e3 e5 e9 h))
    (fun E' ds' w' hD => by
      obtain ⟨l5, e5, hD⟩ := dSl_elim hD; exact F61_1_ok R l5 ds' w' E' e5 hD)
theorem F61_5_ok (R : Rt) (l0 : SV) (p3 : Option Addr) (l5 l6 : SV) (ds : Ds) (w : World) (E : Env) (e0 : E 0 = .slice l0.a l0.len l0.cap) (e3 : E 3 = .pointer p3) (e5 : E 5 = .slice l5.a l5.len l5.cap) (e6 : E 6 = .slice l6.a l6.len l6.cap) (h : F61_5 R l0 p3 l5 l6 ds w) :
    TrL prog f61.ntmps [c61_8, c61_9, c61_10, c61_11, c61_12] (F61_q1 R) E ds w :=
  TrL_piece (pre := [c61_8, c61_9]) (K := (F61_k6 R)) (X := F61_5 R l0 p3 l5 l6 ds w) (setAll_cons e0 (setAll_cons e3 (setAll_cons e5 (setAll_cons e6 setAll_nil)))) (by kernel_rfl) (by kernel_rfl)
    (fun E' ds' w' hD => by
      obtain ⟨l0, e0, hD⟩ := dSl_elim hD; obtain ⟨p3, e3, hD⟩ := dPtr_elim hD; obtain ⟨l5, e5, hD⟩ := dSl_elim hD; obtain ⟨n9, e9, hD⟩ := dInt_elim hD; exact F61_4_ok R l0 p3 l5 n9 ds' w' E' e0 e3 e5 e9 hD) h
theorem F61_6_ok (R : Rt) (J1 : (Int × Int) -> World -> Prop) (l0 : SV) (p3 : Option Addr) (l5 l6 : SV) (n7 n8 : Int) (ds : Ds) (w : World) (E : Env) (e0 : E 0 = .slice l0.a l0.len l0.cap) (e3 : E 3 = .pointer p3) (e5 : E 5 = .slice l5.a l5.len l5.cap) (e6 : E 6 = .slice l6.a l6.len l6.cap) (e7 : E 7 = .int .i64 n7) (e8 : E 8 = .int .i64 n8) (h : F61_6 R J1 l0 p3 l5 l6 n7 n8 ds w) :
    TrL prog f61.ntmps [c61_7_0_0, c61_7_0_1, c61_7_0_2, c61_7_0_3] (F61_q10 R J1) E ds w :=
  TrL_leaf (X := F61_6 R J1 l0 p3 l5 l6 n7 n8 ds w) (setAll_cons e0 (setAll_cons e3 (setAll_cons e5 (setAll_cons e6 (setAll_cons e7 (setAll_cons e8 setAll_nil)))))) (by kernel_rfl) (by kernel_rfl) h
theorem F61_7_ok (R : Rt) (l0 : SV) (p3 : Option Addr) (l5 l6 : SV) (n7 n8 : Int) (ds : Ds) (w : World) (E : Env) (e0 : E 0 = .slice l0.a l0.len l0.cap) (e3 : E 3 = .pointer p3) (e5 : E 5 = .slice l5.a l5.len l5.cap) (e6 : E 6 = .slice l6.a l6.len l6.cap) (e7 : E 7 = .int .i64 n7) (e8 : E 8 = .int .i64 n8) (h : F61_7 R l0 p3 l5 l6 n7 n8 ds w) :
    TrL prog f61.ntmps [c61_7_0] (F61_q9 R) E ds w :=
  TrL_one (Tr_loop' (c := innerC c61_7_0) (σ := Int × Int) (enc := (fun (s : Int × Int) (E : Env) => E 7 = .int .i64 s.1 /\ E 8 = .int .i64 s.2)) (D := (fun E K => dInt .i64 (E 7) fun n7 => dInt .i64 (E 8) fun n8 => K (n7, n8))) (F := (fun (J1 : (Int × Int) -> World -> Prop) (s : Int × Int) (w : World) => F61_6 R J1 l0 p3 l5 l6 s.1 s.2 ds w)) (s0 := (n7, n8)) (by kernel_rfl) c61_7_0_l ⟨e7, e8⟩ (by kernel_rfl) (fun E K hD => by obtain ⟨n7, e7, hD⟩ := dInt_elim hD; obtain ⟨n8, e8, hD⟩ := dInt_elim hD; exact ⟨(n7, n8), ⟨e7, e8⟩, hD⟩)
      (fun J1 s E' w' he ha hF => by
      obtain ⟨e7', e8'⟩ := he
      exact F61_6_ok R J1 l0 p3 l5 l6 s.1 s.2 ds w' E' ((ha 0 (by kernel_rfl)).trans e0) ((ha 3 (by kernel_rfl)).trans e3) ((ha 5 (by kernel_rfl)).trans e5) ((ha 6 (by kernel_rfl)).trans e6) e7' e8' hF) h)
theorem F61_8_ok (R : Rt) (l0 : SV) (p3 : Option Addr) (l5 l6 : SV) (n7 n8 : Int) (ds : Ds) (w : World) (E : Env) (e0 : E 0 = .slice l0.a l0.len l0.cap) (e3 : E 3 = .pointer p3) (e5 : E 5 = .slice l5.a l5.len l5.cap) (e6 : E 6 = .slice l6.a l6.len l6.cap) (e7 : E 7 = .int .i64 n7) (e8 : E 8 = .int .i64 n8) (h : F61_8 R l0 p3 l5 l6 n7 n8 ds w) :
    TrL prog f61.ntmps [c61_7, c61_8, c61_9, c61_10, c61_11, c61_12] (F61_q1 R) E ds w :=
  TrL_head (K := (F61_k7 R)) (Tr_block' (c := innerC c61_7) (by kernel_rfl) c61_7_l (F61_7_ok R l0 p3 l5 l6 n7 n8 ds w E e0 e3 e5 e6 e7 e8 h))
    (fun E' ds' w' hD => by
      obtain ⟨l0, e0, hD⟩ := dSl_elim hD; obtain ⟨p3, e3, hD⟩ := dPtr_elim hD; obtain ⟨l5, e5, hD⟩ := dSl_elim hD; obtain ⟨l6, e6, hD⟩ := dSl_elim hD; exact F61_5_ok R l0 p3 l5 l6 ds' w' E' e0 e3 e5 e6 hD)
theorem F61_9_ok (R : Rt) (l0 : SV) (b1_0 : Bool) (l1_1 : SV) (ds : Ds) (w : World) (E : Env) (e0 : E 0 = .slice l0.a l0.len l0.cap) (e1 : E 1 = .agg #[.bool b1_0, .slice l1_1.a l1_1.len l1_1.cap]) (h : F61_9 R l0 b1_0 l1_1 ds w) :
    TrL prog f61.ntmps [c61_0, c61_1, c61_2, c61_3, c61_4, c61_5, c61_6, c61_7, c61_8, c61_9, c61_10, c61_11, c61_12] (F61_q1 R) E ds w :=
  TrL_piece (pre := [c61_0, c61_1, c61_2, c61_3, c61_4, c61_5, c61_6]) (K := (F61_k11 R)) (X := F61_9 R l0 b1_0 l1_1 ds w) (setAll_cons e0 (setAll_cons e1 setAll_nil)) (by kernel_rfl) (by kernel_rfl)
    (fun E' ds' w' hD => by
      obtain ⟨l0, e0, hD⟩ := dSl_elim hD; obtain ⟨p3, e3, hD⟩ := dPtr_elim hD; obtain ⟨l5, e5, hD⟩ := dSl_elim hD; obtain ⟨l6, e6, hD⟩ := dSl_elim hD; obtain ⟨n7, e7, hD⟩ := dInt_elim hD; obtain ⟨n8, e8, hD⟩ := dInt_elim hD; exact F61_8_ok R l0 p3 l5 l6 n7 n8 ds' w' E' e0 e3 e5 e6 e7 e8 hD) h
theorem F61_calls (l0 : SV) (b1_0 : Bool) (l1_1 : SV) (w : World) (R : Rt) (h : F61_9 R l0 b1_0 l1_1 [] w) : Calls prog 61 #[.slice l0.a l0.len l0.cap, .agg #[.bool b1_0, .slice l1_1.a l1_1.len l1_1.cap]] w R :=
  calls_of_L (l := [c61_0, c61_1, c61_2, c61_3, c61_4, c61_5, c61_6, c61_7, c61_8, c61_9, c61_10, c61_11, c61_12]) func61 (by kernel_rfl) (by rw [ntmps61]; exact Nat.le_of_ble_eq_true (by kernel_rfl)) c61_l
    (F61_9_ok R l0 b1_0 l1_1 [] w _ rfl rfl h)
noncomputable def c22_0 := cI20 f22 0
noncomputable def c22_1 := cI20 f22 1
noncomputable def c22_2 := cI20 f22 2
noncomputable def c22_3 := cI20 f22 3
noncomputable def c22_4 := cI20 f22 4
noncomputable def c22_5 := cI20 f22 5
noncomputable def c22_6 := cI20 f22 6
noncomputable def c22_7 := cI20 f22 7
def F22_q1 (R : Rt) : EQ := endQ prog f22.results.toList R
def F22_1 (R : Rt) (n0_0 : Int) (l0_1 l0_2 : SV) (n1 : Int) (ds : Ds) (w : World) : Prop :=
 alE (.cells #[.int .i64 n0_0, .slice l0_1.a l0_1.len l0_1.cap, .slice l0_2.a l0_2.len l0_2.cap] 35) w fun r2 w1 =>
 ∃ n7_0 : Int, w1.cell? ((⟨r2, 0, none⟩ : Addr).add 0) = some (.int .i64 n7_0) /\
 ∃ l7_1 : SV, w1.cell? ((⟨r2, 0, none⟩ : Addr).add 1) = some (.slice l7_1.a l7_1.len l7_1.cap) /\
 ∃ l7_2 : SV, w1.cell? ((⟨r2, 0, none⟩ : Addr).add 2) = some (.slice l7_2.a l7_2.len l7_2.cap) /\
 Calls prog 35 #[.agg #[.int .i64 n7_0, .slice l7_1.a l7_1.len l7_1.cap, .slice l7_2.a l7_2.len l7_2.cap]] w1 fun e w2 =>
 ∃ n8 : Int, e = .returned (.int .i64 n8) /\
 Br (n8 != 0) (
 runD prog ds w2 fun w3 =>
 R (.returned (.tuple #[.slice none 0 0, .int .i64 n8])) w3) (
 Br (decide (n1 < 1)) (
 runD prog ds w2 fun w4 =>
 R (.returned (.tuple #[.slice none 0 0, .int .i64 4])) w4) (
 ∃ l17 : SV, w2.cell? ((⟨r2, 0, none⟩ : Addr).add 2) = some (.slice l17.a l17.len l17.cap) /\
 Br (decide (n1 > (l17.len : Int))) (
 runD prog ds w2 fun w5 =>
 R (.returned (.tuple #[.slice none 0 0, .int .i64 4])) w5) (
 dwE w2 fun w6 =>
 ∃ l22 : SV, w6.cell? ((⟨r2, 0, none⟩ : Addr).add 1) = some (.slice l22.a l22.len l22.cap) /\
 ∃ l24 : SV, w6.cell? ((⟨r2, 0, none⟩ : Addr).add 2) = some (.slice l24.a l24.len l24.cap) /\
 ∃ a7 : Addr, l24.a = some a7 /\ 0 ≤ (IntKind.i64.wrap (n1 - 1)) /\ (IntKind.i64.wrap (n1 - 1)) < (l24.len : Int) /\
 ∃ b28_0 : Bool, w6.cell? ((a7.add ((IntKind.i64.wrap (n1 - 1)).toNat * 2)).add 0) = some (.bool b28_0) /\
 ∃ l28_1 : SV, w6.cell? ((a7.add ((IntKind.i64.wrap (n1 - 1)).toNat * 2)).add 1) = some (.slice l28_1.a l28_1.len l28_1.cap) /\
 Calls prog 61 #[.slice l22.a l22.len l22.cap, .agg #[.bool b28_0, .slice l28_1.a l28_1.len l28_1.cap]] w6 fun e w8 =>
 ∃ l29 : SV, e = .returned (.slice l29.a l29.len l29.cap) /\
 runD prog ds w8 fun w9 =>
 R (.returned (.tuple #[.slice l29.a l29.len l29.cap, .int .i64 0])) w9)))
theorem c22_l : flat (bodyOf f22) = [c22_0, c22_1, c22_2, c22_3, c22_4, c22_5, c22_6, c22_7] := by kernel_rfl
theorem F22_1_ok (R : Rt) (n0_0 : Int) (l0_1 l0_2 : SV) (n1 : Int) (ds : Ds) (w : World) (E : Env) (e0 : E 0 = .agg #[.int .i64 n0_0, .slice l0_1.a l0_1.len l0_1.cap, .slice l0_2.a l0_2.len l0_2.cap]) (e1 : E 1 = .int .i64 n1) (h : F22_1 R n0_0 l0_1 l0_2 n1 ds w) :
    TrL prog f22.ntmps [c22_0, c22_1, c22_2, c22_3, c22_4, c22_5, c22_6, c22_7] (F22_q1 R) E ds w :=
  TrL_leaf (X := F22_1 R n0_0 l0_1 l0_2 n1 ds w) (setAll_cons e0 (setAll_cons e1 setAll_nil)) (by kernel_rfl) (by kernel_rfl) h
theorem F22_calls (n0_0 : Int) (l0_1 l0_2 : SV) (n1 : Int) (w : World) (R : Rt) (h : F22_1 R n0_0 l0_1 l0_2 n1 [] w) : Calls prog 22 #[.agg #[.int .i64 n0_0, .slice l0_1.a l0_1.len l0_1.cap, .slice l0_2.a l0_2.len l0_2.cap], .int .i64 n1] w R :=
  calls_of_L (l := [c22_0, c22_1, c22_2, c22_3, c22_4, c22_5, c22_6, c22_7]) func22 (by kernel_rfl) (by rw [ntmps22]; exact Nat.le_of_ble_eq_true (by kernel_rfl)) c22_l
    (F22_1_ok R n0_0 l0_1 l0_2 n1 [] w _ rfl rfl h)
noncomputable def c59_0 := cI20 f59 0
noncomputable def c59_1 := cI20 f59 1
noncomputable def c59_2 := cI20 f59 2
noncomputable def c59_3 := cI20 f59 3
noncomputable def c59_4 := cI20 f59 4
noncomputable def c59_5 := cI20 f59 5
noncomputable def c59_3_0 := cJ20 c59_3 0
noncomputable def c59_3_0_0 := cJ20 c59_3_0 0
noncomputable def c59_3_0_1 := cJ20 c59_3_0 1
noncomputable def c59_3_0_2 := cJ20 c59_3_0 2
noncomputable def c59_3_0_3 := cJ20 c59_3_0 3
def F59_q1 (R : Rt) : EQ := endQ prog f59.results.toList R
def F59_1 (R : Rt) (l3 : SV) (ds : Ds) (w : World) : Prop :=
 alE (.cells #[.int .u8 26] 5) w fun r23 w1 =>
 ∃ l24 : SV, ∃ w2 : World, (Builtin.append_ #[37, 37] 37 #[.slice l3.a l3.len l3.cap, .slice (some ⟨r23, 0, none⟩) 1 1]).run prog w1 = .ok (.slice l24.a l24.len l24.cap) w2 /\
 runD prog ds w2 fun w3 =>
 R (.returned (.slice l24.a l24.len l24.cap)) w3
def F59_k2 (R : Rt) : EP := (fun E ds w => dSl (E 3) fun l3 => F59_1 R l3 ds w)
def F59_q3 (R : Rt) : EQ := (thenQ (F59_k2 R) (F59_q1 R))
def F59_q4 (R : Rt) : EQ := (blockQ 0 (F59_q3 R))
def F59_q5 (R : Rt) (J1 : (SV × Int) -> World -> Prop) : EQ := (thenQ (fun E _ w => dSl (E 3) fun l3 => dInt .i64 (E 11) fun n11 => J1 (l3, n11) w) (F59_q4 R))
def F59_2 (R : Rt) (J1 : (SV × Int) -> World -> Prop) (p1 : Option Addr) (l3 l9 : SV) (n10 n11 : Int) (ds : Ds) (w : World) : Prop :=
 Br (decide (n11 < n10)) (
 ∃ a4 : Addr, l9.a = some a4 /\ 0 ≤ n11 /\ n11 < (l9.len : Int) /\
 ∃ b14_0 : Bool, w.cell? ((a4.add (n11.toNat * 2)).add 0) = some (.bool b14_0) /\
 ∃ l14_1 : SV, w.cell? ((a4.add (n11.toNat * 2)).add 1) = some (.slice l14_1.a l14_1.len l14_1.cap) /\
 alE (.cells #[.bool false, .slice none 0 0] 46) w fun r5 w5 =>
 stA prog 46 (⟨r5, 0, none⟩ : Addr) #[.bool b14_0, .slice l14_1.a l14_1.len l14_1.cap] w5 fun w6 =>
 ptrE p1 fun a7 =>
 ∃ l17 : SV, w6.cell? (a7.add 1) = some (.slice l17.a l17.len l17.cap) /\
 ∃ b18_0 : Bool, w6.cell? ((⟨r5, 0, none⟩ : Addr).add 0) = some (.bool b18_0) /\
 ∃ l18_1 : SV, w6.cell? ((⟨r5, 0, none⟩ : Addr).add 1) = some (.slice l18_1.a l18_1.len l18_1.cap) /\
 Calls prog 63 #[.slice l17.a l17.len l17.cap, .agg #[.bool b18_0, .slice l18_1.a l18_1.len l18_1.cap]] w6 fun e w8 =>
 ∃ l19 : SV, e = .returned (.slice l19.a l19.len l19.cap) /\
 ∃ l20 : SV, ∃ w9 : World, (Builtin.append_ #[37, 37] 37 #[.slice l3.a l3.len l3.cap, .slice l19.a l19.len l19.cap]).run prog w8 = .ok (.slice l20.a l20.len l20.cap) w9 /\
 J1 (l20, (IntKind.i64.wrap (n11 + 1))) w9) (
 F59_1 R l3 ds w)
def F59_3 (R : Rt) (p1 : Option Addr) (l3 l9 : SV) (n10 n11 : Int) (ds : Ds) (w : World) : Prop :=
 loopT (fun (J1 : (SV × Int) -> World -> Prop) (s : SV × Int) (w : World) => F59_2 R J1 p1 s.1 l9 n10 s.2 ds w) (l3, n11) w
abbrev F59_4 (R : Rt) (p1 : Option Addr) (l3 l9 : SV) (n10 n11 : Int) (ds : Ds) (w : World) : Prop := F59_3 R p1 l3 l9 n10 n11 ds w
def F59_k6 (R : Rt) : EP := (fun E ds w => dPtr (E 1) fun p1 => dSl (E 3) fun l3 => dSl (E 9) fun l9 => dInt .i64 (E 10) fun n10 => dInt .i64 (E 11) fun n11 => F59_4 R p1 l3 l9 n10 n11 ds w)
def F59_5 (R : Rt) (n0_0 : Int) (l0_1 l0_2 : SV) (ds : Ds) (w : World) : Prop :=
 alE (.cells #[.int .i64 n0_0, .slice l0_1.a l0_1.len l0_1.cap, .slice l0_2.a l0_2.len l0_2.cap] 35) w fun r1 w10 =>
 ∃ n6_0 : Int, w10.cell? ((⟨r1, 0, none⟩ : Addr).add 0) = some (.int .i64 n6_0) /\
 ∃ l6_1 : SV, w10.cell? ((⟨r1, 0, none⟩ : Addr).add 1) = some (.slice l6_1.a l6_1.len l6_1.cap) /\
 ∃ l6_2 : SV, w10.cell? ((⟨r1, 0, none⟩ : Addr).add 2) = some (.slice l6_2.a l6_2.len l6_2.cap) /\
 Calls prog 62 #[.agg #[.int .i64 n6_0, .slice l6_1.a l6_1.len l6_1.cap, .slice l6_2.a l6_2.len l6_2.cap]] w10 fun e w11 =>
 ∃ l7 : SV, e = .returned (.slice l7.a l7.len l7.cap) /\
 ∃ l9 : SV, w11.cell? ((⟨r1, 0, none⟩ : Addr).add 2) = some (.slice l9.a l9.len l9.cap) /\
 F59_4 R (some (⟨r1, 0, none⟩ : Addr)) l7 l9 (l9.len : Int) 0 ds w11
theorem c59_l : flat (bodyOf f59) = [c59_0, c59_1, c59_2, c59_3, c59_4, c59_5] := by kernel_rfl
theorem c59_3_l : flat (innerC c59_3) = [c59_3_0] := by kernel_rfl
theorem c59_3_0_l : flat (innerC c59_3_0) = [c59_3_0_0, c59_3_0_1, c59_3_0_2, c59_3_0_3] := by kernel_rfl
theorem F59_1_ok (R : Rt) (l3 : SV) (ds : Ds) (w : World) (E : Env) (e3 : E 3 = .slice l3.a l3.len l3.cap) (h : F59_1 R l3 ds w) :
    TrL prog f59.ntmps [c59_4, c59_5] (F59_q1 R) E ds w :=
  TrL_leaf (X := F59_1 R l3 ds w) (setAll_cons e3 setAll_nil) (by kernel_rfl) (by kernel_rfl) h
theorem F59_2_ok (R : Rt) (J1 : (SV × Int) -> World -> Prop) (p1 : Option Addr) (l3 l9 : SV) (n10 n11 : Int) (ds : Ds) (w : World) (E : Env) (e1 : E 1 = .pointer p1) (e3 : E 3 = .slice l3.a l3.len l3.cap) (e9 : E 9 = .slice l9.a l9.len l9.cap) (e10 : E 10 = .int .i64 n10) (e11 : E 11 = .int .i64 n11) (h : F59_2 R J1 p1 l3 l9 n10 n11 ds w) :
    TrL prog f59.ntmps [c59_3_0_0, c59_3_0_1, c59_3_0_2, c59_3_0_3] (F59_q5 R J1) E ds w :=
  TrL_leaf (X := F59_2 R J1 p1 l3 l9 n10 n11 ds w) (setAll_cons e1 (setAll_cons e3 (setAll_cons e9 (setAll_cons e10 (setAll_cons e11 setAll_nil))))) (by kernel_rfl) (by kernel_rfl) h
theorem F59_3_ok (R : Rt) (p1 : Option Addr) (l3 l9 : SV) (n10 n11 : Int) (ds : Ds) (w : World) (E : Env) (e1 : E 1 = .pointer p1) (e3 : E 3 = .slice l3.a l3.len l3.cap) (e9 : E 9 = .slice l9.a l9.len l9.cap) (e10 : E 10 = .int .i64 n10) (e11 : E 11 = .int .i64 n11) (h : F59_3 R p1 l3 l9 n10 n11 ds w) :
    TrL prog f59.ntmps [c59_3_0] (F59_q4 R) E ds w :=
  TrL_one (Tr_loop' (c := innerC c59_3_0) (σ := SV × Int) (enc := (fun (s : SV × Int) (E : Env) => E 3 = .slice s.1.a s.1.len s.1.cap /\ E 11 = .int .i64 s.2)) (D := (fun E K => dSl (E 3) fun l3 => dInt .i64 (E 11) fun n11 => K (l3, n11))) (F := (fun (J1 : (SV × Int) -> World -> Prop) (s : SV × Int) (w : World) => F59_2 R J1 p1 s.1 l9 n10 s.2 ds w)) (s0 := (l3, n11)) (by kernel_rfl) c59_3_0_l ⟨e3, e11⟩ (by kernel_rfl) (fun E K hD => by obtain ⟨l3, e3, hD⟩ := dSl_elim hD; obtain ⟨n11, e11, hD⟩ := dInt_elim hD; exact ⟨(l3, n11), ⟨e3, e11⟩, hD⟩)
      (fun J1 s E' w' he ha hF => by
      obtain ⟨e3', e11'⟩ := he
      exact F59_2_ok R J1 p1 s.1 l9 n10 s.2 ds w' E' ((ha 1 (by kernel_rfl)).trans e1) e3' ((ha 9 (by kernel_rfl)).trans e9) ((ha 10 (by kernel_rfl)).trans e10) e11' hF) h)
theorem F59_4_ok (R : Rt) (p1 : Option Addr) (l3 l9 : SV) (n10 n11 : Int) (ds : Ds) (w : World) (E : Env) (e1 : E 1 = .pointer p1) (e3 : E 3 = .slice l3.a l3.len l3.cap) (e9 : E 9 = .slice l9.a l9.len l9.cap) (e10 : E 10 = .int .i64 n10) (e11 : E 11 = .int .i64 n11) (h : F59_4 R p1 l3 l9 n10 n11 ds w) :
    TrL prog f59.ntmps [c59_3, c59_4, c59_5] (F59_q1 R) E ds w :=
  TrL_head (K := (F59_k2 R)) (Tr_block' (c := innerC c59_3) (by kernel_rfl) c59_3_l (F59_3_ok R p1 l3 l9 n10 n11 ds w E e1 e3 e9 e10 e11 h))
    (fun E' ds' w' hD => by
      obtain ⟨l3, e3, hD⟩ := dSl_elim hD; exact F59_1_ok R l3 ds' w' E' e3 hD)
theorem F59_5_ok (R : Rt) (n0_0 : Int) (l0_1 l0_2 : SV) (ds : Ds) (w : World) (E : Env) (e0 : E 0 = .agg #[.int .i64 n0_0, .slice l0_1.a l0_1.len l0_1.cap, .slice l0_2.a l0_2.len l0_2.cap]) (h : F59_5 R n0_0 l0_1 l0_2 ds w) :
    TrL prog f59.ntmps [c59_0, c59_1, c59_2, c59_3, c59_4, c59_5] (F59_q1 R) E ds w :=
  TrL_piece (pre := [c59_0, c59_1, c59_2]) (K := (F59_k6 R)) (X := F59_5 R n0_0 l0_1 l0_2 ds w) (setAll_cons e0 setAll_nil) (by kernel_rfl) (by kernel_rfl)
    (fun E' ds' w' hD => by
      obtain ⟨p1, e1, hD⟩ := dPtr_elim hD; obtain ⟨l3, e3, hD⟩ := dSl_elim hD; obtain ⟨l9, e9, hD⟩ := dSl_elim hD; obtain ⟨n10, e10, hD⟩ := dInt_elim hD; obtain ⟨n11, e11, hD⟩ := dInt_elim hD; exact F59_4_ok R p1 l3 l9 n10 n11 ds' w' E' e1 e3 e9 e10 e11 hD) h
theorem F59_calls (n0_0 : Int) (l0_1 l0_2 : SV) (w : World) (R : Rt) (h : F59_5 R n0_0 l0_1 l0_2 [] w) : Calls prog 59 #[.agg #[.int .i64 n0_0, .slice l0_1.a l0_1.len l0_1.cap, .slice l0_2.a l0_2.len l0_2.cap]] w R :=
  calls_of_L (l := [c59_0, c59_1, c59_2, c59_3, c59_4, c59_5]) func59 (by kernel_rfl) (by rw [ntmps59]; exact Nat.le_of_ble_eq_true (by kernel_rfl)) c59_l
    (F59_5_ok R n0_0 l0_1 l0_2 [] w _ rfl h)
noncomputable def c17_0 := cI20 f17 0
noncomputable def c17_1 := cI20 f17 1
noncomputable def c17_2 := cI20 f17 2
noncomputable def c17_3 := cI20 f17 3
noncomputable def c17_4 := cI20 f17 4
noncomputable def c17_5 := cI20 f17 5
def F17_q1 (R : Rt) : EQ := endQ prog f17.results.toList R
def F17_1 (R : Rt) (n0_0 : Int) (l0_1 l0_2 : SV) (ds : Ds) (w : World) : Prop :=
 alE (.cells #[.int .i64 n0_0, .slice l0_1.a l0_1.len l0_1.cap, .slice l0_2.a l0_2.len l0_2.cap] 35) w fun r1 w1 =>
 ∃ n5_0 : Int, w1.cell? ((⟨r1, 0, none⟩ : Addr).add 0) = some (.int .i64 n5_0) /\
 ∃ l5_1 : SV, w1.cell? ((⟨r1, 0, none⟩ : Addr).add 1) = some (.slice l5_1.a l5_1.len l5_1.cap) /\
 ∃ l5_2 : SV, w1.cell? ((⟨r1, 0, none⟩ : Addr).add 2) = some (.slice l5_2.a l5_2.len l5_2.cap) /\
 Calls prog 34 #[.agg #[.int .i64 n5_0, .slice l5_1.a l5_1.len l5_1.cap, .slice l5_2.a l5_2.len l5_2.cap]] w1 fun e w2 =>
 ∃ n6 : Int, e = .returned (.int .i64 n6) /\
 Br (n6 != 0) (
 runD prog ds w2 fun w3 =>
 R (.returned (.tuple #[.slice none 0 0, .int .i64 n6])) w3) (
 ∃ n10_0 : Int, w2.cell? ((⟨r1, 0, none⟩ : Addr).add 0) = some (.int .i64 n10_0) /\
 ∃ l10_1 : SV, w2.cell? ((⟨r1, 0, none⟩ : Addr).add 1) = some (.slice l10_1.a l10_1.len l10_1.cap) /\
 ∃ l10_2 : SV, w2.cell? ((⟨r1, 0, none⟩ : Addr).add 2) = some (.slice l10_2.a l10_2.len l10_2.cap) /\
 Calls prog 59 #[.agg #[.int .i64 n10_0, .slice l10_1.a l10_1.len l10_1.cap, .slice l10_2.a l10_2.len l10_2.cap]] w2 fun e w4 =>
 ∃ l11 : SV, e = .returned (.slice l11.a l11.len l11.cap) /\
 runD prog ds w4 fun w5 =>
 R (.returned (.tuple #[.slice l11.a l11.len l11.cap, .int .i64 0])) w5)
theorem c17_l : flat (bodyOf f17) = [c17_0, c17_1, c17_2, c17_3, c17_4, c17_5] := by kernel_rfl
theorem F17_1_ok (R : Rt) (n0_0 : Int) (l0_1 l0_2 : SV) (ds : Ds) (w : World) (E : Env) (e0 : E 0 = .agg #[.int .i64 n0_0, .slice l0_1.a l0_1.len l0_1.cap, .slice l0_2.a l0_2.len l0_2.cap]) (h : F17_1 R n0_0 l0_1 l0_2 ds w) :
    TrL prog f17.ntmps [c17_0, c17_1, c17_2, c17_3, c17_4, c17_5] (F17_q1 R) E ds w :=
  TrL_leaf (X := F17_1 R n0_0 l0_1 l0_2 ds w) (setAll_cons e0 setAll_nil) (by kernel_rfl) (by kernel_rfl) h
theorem F17_calls (n0_0 : Int) (l0_1 l0_2 : SV) (w : World) (R : Rt) (h : F17_1 R n0_0 l0_1 l0_2 [] w) : Calls prog 17 #[.agg #[.int .i64 n0_0, .slice l0_1.a l0_1.len l0_1.cap, .slice l0_2.a l0_2.len l0_2.cap]] w R :=
  calls_of_L (l := [c17_0, c17_1, c17_2, c17_3, c17_4, c17_5]) func17 (by kernel_rfl) (by rw [ntmps17]; exact Nat.le_of_ble_eq_true (by kernel_rfl)) c17_l
    (F17_1_ok R n0_0 l0_1 l0_2 [] w _ rfl h)
noncomputable def c18_0 := cI20 f18 0
noncomputable def c18_1 := cI20 f18 1
noncomputable def c18_2 := cI20 f18 2
noncomputable def c18_3 := cI20 f18 3
noncomputable def c18_4 := cI20 f18 4
noncomputable def c18_5 := cI20 f18 5
noncomputable def c18_6 := cI20 f18 6
noncomputable def c18_7 := cI20 f18 7
noncomputable def c18_8 := cI20 f18 8
noncomputable def c18_6_0 := cJ20 c18_6 0
noncomputable def c18_6_0_0 := cJ20 c18_6_0 0
noncomputable def c18_6_0_1 := cJ20 c18_6_0 1
noncomputable def c18_6_0_2 := cJ20 c18_6_0 2
noncomputable def c18_6_0_3 := cJ20 c18_6_0 3
def F18_q1 (R : Rt) : EQ := endQ prog f18.results.toList R
def F18_1 (R : Rt) (l5 : SV) (ds : Ds) (w : World) : Prop :=
 alE (.cells #[.int .u8 26] 5) w fun r32 w1 =>
 ∃ l33 : SV, ∃ w2 : World, (Builtin.append_ #[37, 37] 37 #[.slice l5.a l5.len l5.cap, .slice (some ⟨r32, 0, none⟩) 1 1]).run prog w1 = .ok (.slice l33.a l33.len l33.cap) w2 /\
 runD prog ds w2 fun w3 =>
 R (.returned (.tuple #[.slice l33.a l33.len l33.cap, .int .i64 0])) w3
def F18_k2 (R : Rt) : EP := (fun E ds w => dSl (E 5) fun l5 => F18_1 R l5 ds w)
def F18_q3 (R : Rt) : EQ := (thenQ (F18_k2 R) (F18_q1 R))
def F18_q4 (R : Rt) : EQ := (blockQ 0 (F18_q3 R))
def F18_q5 (R : Rt) (J1 : (SV × Int) -> World -> Prop) : EQ := (thenQ (fun E _ w => dSl (E 5) fun l5 => dInt .i64 (E 6) fun n6 => J1 (l5, n6) w) (F18_q4 R))
def F18_2 (R : Rt) (J1 : (SV × Int) -> World -> Prop) (p1 : Option Addr) (l5 : SV) (n6 : Int) (ds : Ds) (w : World) : Prop :=
 ptrE p1 fun a4 =>
 ∃ l16 : SV, w.cell? (a4.add 2) = some (.slice l16.a l16.len l16.cap) /\
 Br (decide (n6 < (l16.len : Int))) (
 dwE w fun w5 =>
 ptrE p1 fun a6 =>
 ∃ l23 : SV, w5.cell? (a6.add 1) = some (.slice l23.a l23.len l23.cap) /\
 ptrE p1 fun a7 =>
 ∃ l25 : SV, w5.cell? (a7.add 2) = some (.slice l25.a l25.len l25.cap) /\
 ∃ a8 : Addr, l25.a = some a8 /\ 0 ≤ n6 /\ n6 < (l25.len : Int) /\
 ∃ b28_0 : Bool, w5.cell? ((a8.add (n6.toNat * 2)).add 0) = some (.bool b28_0) /\
 ∃ l28_1 : SV, w5.cell? ((a8.add (n6.toNat * 2)).add 1) = some (.slice l28_1.a l28_1.len l28_1.cap) /\
 Calls prog 61 #[.slice l23.a l23.len l23.cap, .agg #[.bool b28_0, .slice l28_1.a l28_1.len l28_1.cap]] w5 fun e w9 =>
 ∃ l29 : SV, e = .returned (.slice l29.a l29.len l29.cap) /\
 ∃ l30 : SV, ∃ w10 : World, (Builtin.append_ #[37, 37] 37 #[.slice l5.a l5.len l5.cap, .slice l29.a l29.len l29.cap]).run prog w9 = .ok (.slice l30.a l30.len l30.cap) w10 /\
 J1 (l30, (IntKind.i64.wrap (n6 + 1))) w10) (
 F18_1 R l5 ds w)
def F18_3 (R : Rt) (p1 : Option Addr) (l5 : SV) (n6 : Int) (ds : Ds) (w : World) : Prop :=
 loopT (fun (J1 : (SV × Int) -> World -> Prop) (s : SV × Int) (w : World) => F18_2 R J1 p1 s.1 s.2 ds w) (l5, n6) w
abbrev F18_4 (R : Rt) (p1 : Option Addr) (l5 : SV) (n6 : Int) (ds : Ds) (w : World) : Prop := F18_3 R p1 l5 n6 ds w
def F18_k6 (R : Rt) : EP := (fun E ds w => dPtr (E 1) fun p1 => dSl (E 5) fun l5 => dInt .i64 (E 6) fun n6 => F18_4 R p1 l5 n6 ds w)
def F18_5 (R : Rt) (n0_0 : Int) (l0_1 l0_2 : SV) (ds : Ds) (w : World) : Prop :=
 alE (.cells #[.int .i64 n0_0, .slice l0_1.a l0_1.len l0_1.cap, .slice l0_2.a l0_2.len l0_2.cap] 35) w fun r1 w11 =>
 ∃ n7_0 : Int, w11.cell? ((⟨r1, 0, none⟩ : Addr).add 0) = some (.int .i64 n7_0) /\
 ∃ l7_1 : SV, w11.cell? ((⟨r1, 0, none⟩ : Addr).add 1) = some (.slice l7_1.a l7_1.len l7_1.cap) /\
 ∃ l7_2 : SV, w11.cell? ((⟨r1, 0, none⟩ : Addr).add 2) = some (.slice l7_2.a l7_2.len l7_2.cap) /\
 Calls prog 35 #[.agg #[.int .i64 n7_0, .slice l7_1.a l7_1.len l7_1.cap, .slice l7_2.a l7_2.len l7_2.cap]] w11 fun e w12 =>
 ∃ n8 : Int, e = .returned (.int .i64 n8) /\
 Br (n8 != 0) (
 runD prog ds w12 fun w13 =>
 R (.returned (.tuple #[.slice none 0 0, .int .i64 n8])) w13) (
 ∃ n12_0 : Int, w12.cell? ((⟨r1, 0, none⟩ : Addr).add 0) = some (.int .i64 n12_0) /\
 ∃ l12_1 : SV, w12.cell? ((⟨r1, 0, none⟩ : Addr).add 1) = some (.slice l12_1.a l12_1.len l12_1.cap) /\
 ∃ l12_2 : SV, w12.cell? ((⟨r1, 0, none⟩ : Addr).add 2) = some (.slice l12_2.a l12_2.len l12_2.cap) /\
 Calls prog 60 #[.agg #[.int .i64 n12_0, .slice l12_1.a l12_1.len l12_1.cap, .slice l12_2.a l12_2.len l12_2.cap]] w12 fun e w14 =>
 ∃ l13 : SV, e = .returned (.slice l13.a l13.len l13.cap) /\
 F18_4 R (some (⟨r1, 0, none⟩ : Addr)) l13 0 ds w14)
theorem c18_l : flat (bodyOf f18) = [c18_0, c18_1, c18_2, c18_3, c18_4, c18_5, c18_6, c18_7, c18_8] := by kernel_rfl
theorem c18_6_l : flat (innerC c18_6) = [c18_6_0] := by kernel_rfl
theorem c18_6_0_l : flat (innerC c18_6_0) = [c18_6_0_0, c18_6_0_1, c18_6_0_2, c18_6_0_3] := by kernel_rfl
theorem F18_1_ok (R : Rt) (l5 : SV) (ds : Ds) (w : World) (E : Env) (e5 : E 5 = .slice l5.a l5.len l5.cap) (h : F18_1 R l5 ds w) :
    TrL prog f18.ntmps [c18_7, c18_8] (F18_q1 R) E ds w :=
  TrL_leaf (X := F18_1 R l5 ds w) (setAll_cons e5 setAll_nil) (by kernel_rfl) (by kernel_rfl) h
theorem F18_2_ok (R : Rt) (J1 : (SV × Int) -> World -> Prop) (p1 : Option Addr) (l5 : SV) (n6 : Int) (ds : Ds) (w : World) (E : Env) (e1 : E 1 = .pointer p1) (e5 : E 5 = .slice l5.a l5.len l5.cap) (e6 : E 6 = .int .i64 n6) (h : F18_2 R J1 p1 l5 n6 ds w) :
    TrL prog f18.ntmps [c18_6_0_0, c18_6_0_1, c18_6_0_2, c18_6_0_3] (F18_q5 R J1) E ds w :=
  TrL_leaf (X := F18_2 R J1 p1 l5 n6 ds w) (setAll_cons e1 (setAll_cons e5 (setAll_cons e6 setAll_nil))) (by kernel_rfl) (by kernel_rfl) h
theorem F18_3_ok (R : Rt) (p1 : Option Addr) (l5 : SV) (n6 : Int) (ds : Ds) (w : World) (E : Env) (e1 : E 1 = .pointer p1) (e5 : E 5 = .slice l5.a l5.len l5.cap) (e6 : E 6 = .int .i64 n6) (h : F18_3 R p1 l5 n6 ds w) :
    TrL prog f18.ntmps [c18_6_0] (F18_q4 R) E ds w :=
  TrL_one (Tr_loop' (c := innerC c18_6_0) (σ := SV × Int) (enc := (fun (s : SV × Int) (E : Env) => E 5 = .slice s.1.a s.1.len s.1.cap /\ E 6 = .int .i64 s.2)) (D := (fun E K => dSl (E 5) fun l5 => dInt .i64 (E 6) fun n6 => K (l5, n6))) (F := (fun (J1 : (SV × Int) -> World -> Prop) (s : SV × Int) (w : World) => F18_2 R J1 p1 s.1 s.2 ds w)) (s0 := (l5, n6)) (by kernel_rfl) c18_6_0_l ⟨e5, e6⟩ (by kernel_rfl) (fun E K hD => by obtain ⟨l5, e5, hD⟩ := dSl_elim hD; obtain ⟨n6, e6, hD⟩ := dInt_elim hD; exact ⟨(l5, n6), ⟨e5, e6⟩, hD⟩)
      (fun J1 s E' w' he ha hF => by
      obtain ⟨e5', e6'⟩ := he
      exact F18_2_ok R J1 p1 s.1 s.2 ds w' E' ((ha 1 (by kernel_rfl)).trans e1) e5' e6' hF) h)
theorem F18_4_ok (R : Rt) (p1 : Option Addr) (l5 : SV) (n6 : Int) (ds : Ds) (w : World) (E : Env) (e1 : E 1 = .pointer p1) (e5 : E 5 = .slice l5.a l5.len l5.cap) (e6 : E 6 = .int .i64 n6) (h : F18_4 R p1 l5 n6 ds w) :
    TrL prog f18.ntmps [c18_6, c18_7, c18_8] (F18_q1 R) E ds w :=
  TrL_head (K := (F18_k2 R)) (Tr_block' (c := innerC c18_6) (by kernel_rfl) c18_6_l (F18_3_ok R p1 l5 n6 ds w E e1 e5 e6 h))
    (fun E' ds' w' hD => by
      obtain ⟨l5, e5, hD⟩ := dSl_elim hD; exact F18_1_ok R l5 ds' w' E' e5 hD)
theorem F18_5_ok (R : Rt) (n0_0 : Int) (l0_1 l0_2 : SV) (ds : Ds) (w : World) (E : Env) (e0 : E 0 = .agg #[.int .i64 n0_0, .slice l0_1.a l0_1.len l0_1.cap, .slice l0_2.a l0_2.len l0_2.cap]) (h : F18_5 R n0_0 l0_1 l0_2 ds w) :
    TrL prog f18.ntmps [c18_0, c18_1, c18_2, c18_3, c18_4, c18_5, c18_6, c18_7, c18_8] (F18_q1 R) E ds w :=
  TrL_piece (pre := [c18_0, c18_1, c18_2, c18_3, c18_4, c18_5]) (K := (F18_k6 R)) (X := F18_5 R n0_0 l0_1 l0_2 ds w) (setAll_cons e0 setAll_nil) (by kernel_rfl) (by kernel_rfl)
    (fun E' ds' w' hD => by
      obtain ⟨p1, e1, hD⟩ := dPtr_elim hD; obtain ⟨l5, e5, hD⟩ := dSl_elim hD; obtain ⟨n6, e6, hD⟩ := dInt_elim hD; exact F18_4_ok R p1 l5 n6 ds' w' E' e1 e5 e6 hD) h
theorem F18_calls (n0_0 : Int) (l0_1 l0_2 : SV) (w : World) (R : Rt) (h : F18_5 R n0_0 l0_1 l0_2 [] w) : Calls prog 18 #[.agg #[.int .i64 n0_0, .slice l0_1.a l0_1.len l0_1.cap, .slice l0_2.a l0_2.len l0_2.cap]] w R :=
  calls_of_L (l := [c18_0, c18_1, c18_2, c18_3, c18_4, c18_5, c18_6, c18_7, c18_8]) func18 (by kernel_rfl) (by rw [ntmps18]; exact Nat.le_of_ble_eq_true (by kernel_rfl)) c18_l
    (F18_5_ok R n0_0 l0_1 l0_2 [] w _ rfl h)
noncomputable def c23_0 := cI20 f23 0
noncomputable def c23_1 := cI20 f23 1
noncomputable def c23_2 := cI20 f23 2
def F23_q1 (R : Rt) : EQ := endQ prog f23.results.toList R
def F23_1 (R : Rt) (l0 l1 : SV) (ds : Ds) (w : World) : Prop :=
 ∃ s6 : ByteArray, ∃ w1 : World, (convert 37 9 (.slice l0.a l0.len l0.cap)).run prog w = .ok (.string s6) w1 /\
 ∃ s8 : ByteArray, ∃ w2 : World, (convert 37 9 (.slice l1.a l1.len l1.cap)).run prog w1 = .ok (.string s8) w2 /\
 runD prog ds w2 fun w3 =>
 R (.returned (.bool (s6.toList == s8.toList))) w3
theorem c23_l : flat (bodyOf f23) = [c23_0, c23_1, c23_2] := by kernel_rfl
theorem F23_1_ok (R : Rt) (l0 l1 : SV) (ds : Ds) (w : World) (E : Env) (e0 : E 0 = .slice l0.a l0.len l0.cap) (e1 : E 1 = .slice l1.a l1.len l1.cap) (h : F23_1 R l0 l1 ds w) :
    TrL prog f23.ntmps [c23_0, c23_1, c23_2] (F23_q1 R) E ds w :=
  TrL_leaf (X := F23_1 R l0 l1 ds w) (setAll_cons e0 (setAll_cons e1 setAll_nil)) (by kernel_rfl) (by kernel_rfl) h
theorem F23_calls (l0 l1 : SV) (w : World) (R : Rt) (h : F23_1 R l0 l1 [] w) : Calls prog 23 #[.slice l0.a l0.len l0.cap, .slice l1.a l1.len l1.cap] w R :=
  calls_of_L (l := [c23_0, c23_1, c23_2]) func23 (by kernel_rfl) (by rw [ntmps23]; exact Nat.le_of_ble_eq_true (by kernel_rfl)) c23_l
    (F23_1_ok R l0 l1 [] w _ rfl rfl h)
noncomputable def c4_0 := cI20 f4 0
noncomputable def c4_1 := cI20 f4 1
noncomputable def c4_2 := cI20 f4 2
noncomputable def c4_3 := cI20 f4 3
noncomputable def c4_4 := cI20 f4 4
noncomputable def c4_5 := cI20 f4 5
noncomputable def c4_6 := cI20 f4 6
noncomputable def c4_7 := cI20 f4 7
noncomputable def c4_8 := cI20 f4 8
noncomputable def c4_9 := cI20 f4 9
noncomputable def c4_10 := cI20 f4 10
def F4_q1 (R : Rt) : EQ := endQ prog f4.results.toList R
def F4_1 (R : Rt) (n0_0 : Int) (l0_1 l0_2 : SV) (n1 : Int) (ds : Ds) (w : World) : Prop :=
 alE (.cells #[.int .i64 n0_0, .slice l0_1.a l0_1.len l0_1.cap, .slice l0_2.a l0_2.len l0_2.cap] 35) w fun r2 w1 =>
 ∃ n17_0 : Int, w1.cell? ((⟨r2, 0, none⟩ : Addr).add 0) = some (.int .i64 n17_0) /\
 ∃ l17_1 : SV, w1.cell? ((⟨r2, 0, none⟩ : Addr).add 1) = some (.slice l17_1.a l17_1.len l17_1.cap) /\
 ∃ l17_2 : SV, w1.cell? ((⟨r2, 0, none⟩ : Addr).add 2) = some (.slice l17_2.a l17_2.len l17_2.cap) /\
 Calls prog 16 #[.agg #[.int .i64 n17_0, .slice l17_1.a l17_1.len l17_1.cap, .slice l17_2.a l17_2.len l17_2.cap]] w1 fun e w2 =>
 ∃ b18 : Bool, e = .returned (.bool b18) /\
 Br b18 (
 Calls prog 12 #[] w2 fun e w3 =>
 ∃ b19 : Bool, e = .returned (.bool b19) /\
 runD prog ds w3 fun w4 =>
 R (.returned (.bool b19)) w4) (
 ∃ n21_0 : Int, w2.cell? ((⟨r2, 0, none⟩ : Addr).add 0) = some (.int .i64 n21_0) /\
 ∃ l21_1 : SV, w2.cell? ((⟨r2, 0, none⟩ : Addr).add 1) = some (.slice l21_1.a l21_1.len l21_1.cap) /\
 ∃ l21_2 : SV, w2.cell? ((⟨r2, 0, none⟩ : Addr).add 2) = some (.slice l21_2.a l21_2.len l21_2.cap) /\
 Calls prog 17 #[.agg #[.int .i64 n21_0, .slice l21_1.a l21_1.len l21_1.cap, .slice l21_2.a l21_2.len l21_2.cap]] w2 fun e w5 =>
 ∃ l22_0 : SV, ∃ n22_1 : Int, e = .returned (.tuple #[.slice l22_0.a l22_0.len l22_0.cap, .int .i64 n22_1]) /\
 ∃ n26_0 : Int, w5.cell? ((⟨r2, 0, none⟩ : Addr).add 0) = some (.int .i64 n26_0) /\
 ∃ l26_1 : SV, w5.cell? ((⟨r2, 0, none⟩ : Addr).add 1) = some (.slice l26_1.a l26_1.len l26_1.cap) /\
 ∃ l26_2 : SV, w5.cell? ((⟨r2, 0, none⟩ : Addr).add 2) = some (.slice l26_2.a l26_2.len l26_2.cap) /\
 Calls prog 18 #[.agg #[.int .i64 n26_0, .slice l26_1.a l26_1.len l26_1.cap, .slice l26_2.a l26_2.len l26_2.cap]] w5 fun e w6 =>
 ∃ l27_0 : SV, ∃ n27_1 : Int, e = .returned (.tuple #[.slice l27_0.a l27_0.len l27_0.cap, .int .i64 n27_1]) /\
 ∃ n31_0 : Int, w6.cell? ((⟨r2, 0, none⟩ : Addr).add 0) = some (.int .i64 n31_0) /\
 ∃ l31_1 : SV, w6.cell? ((⟨r2, 0, none⟩ : Addr).add 1) = some (.slice l31_1.a l31_1.len l31_1.cap) /\
 ∃ l31_2 : SV, w6.cell? ((⟨r2, 0, none⟩ : Addr).add 2) = some (.slice l31_2.a l31_2.len l31_2.cap) /\
 Calls prog 19 #[.agg #[.int .i64 n31_0, .slice l31_1.a l31_1.len l31_1.cap, .slice l31_2.a l31_2.len l31_2.cap]] w6 fun e w7 =>
 ∃ l32_0 : SV, ∃ n32_1 : Int, e = .returned (.tuple #[.slice l32_0.a l32_0.len l32_0.cap, .int .i64 n32_1]) /\
 ∃ n36_0 : Int, w7.cell? ((⟨r2, 0, none⟩ : Addr).add 0) = some (.int .i64 n36_0) /\
 ∃ l36_1 : SV, w7.cell? ((⟨r2, 0, none⟩ : Addr).add 1) = some (.slice l36_1.a l36_1.len l36_1.cap) /\
 ∃ l36_2 : SV, w7.cell? ((⟨r2, 0, none⟩ : Addr).add 2) = some (.slice l36_2.a l36_2.len l36_2.cap) /\
 Calls prog 20 #[.agg #[.int .i64 n36_0, .slice l36_1.a l36_1.len l36_1.cap, .slice l36_2.a l36_2.len l36_2.cap]] w7 fun e w8 =>
 ∃ l37_0 : SV, ∃ n37_1 : Int, e = .returned (.tuple #[.slice l37_0.a l37_0.len l37_0.cap, .int .i64 n37_1]) /\
 ∃ n41_0 : Int, w8.cell? ((⟨r2, 0, none⟩ : Addr).add 0) = some (.int .i64 n41_0) /\
 ∃ l41_1 : SV, w8.cell? ((⟨r2, 0, none⟩ : Addr).add 1) = some (.slice l41_1.a l41_1.len l41_1.cap) /\
 ∃ l41_2 : SV, w8.cell? ((⟨r2, 0, none⟩ : Addr).add 2) = some (.slice l41_2.a l41_2.len l41_2.cap) /\
 Calls prog 21 #[.agg #[.int .i64 n41_0, .slice l41_1.a l41_1.len l41_1.cap, .slice l41_2.a l41_2.len l41_2.cap], .int .i64 n1] w8 fun e w9 =>
 ∃ l43_0 : SV, ∃ n43_1 : Int, e = .returned (.tuple #[.slice l43_0.a l43_0.len l43_0.cap, .int .i64 n43_1]) /\
 ∃ n47_0 : Int, w9.cell? ((⟨r2, 0, none⟩ : Addr).add 0) = some (.int .i64 n47_0) /\
 ∃ l47_1 : SV, w9.cell? ((⟨r2, 0, none⟩ : Addr).add 1) = some (.slice l47_1.a l47_1.len l47_1.cap) /\
 ∃ l47_2 : SV, w9.cell? ((⟨r2, 0, none⟩ : Addr).add 2) = some (.slice l47_2.a l47_2.len l47_2.cap) /\
 Calls prog 22 #[.agg #[.int .i64 n47_0, .slice l47_1.a l47_1.len l47_1.cap, .slice l47_2.a l47_2.len l47_2.cap], .int .i64 n1] w9 fun e w10 =>
 ∃ l49_0 : SV, ∃ n49_1 : Int, e = .returned (.tuple #[.slice l49_0.a l49_0.len l49_0.cap, .int .i64 n49_1]) /\
 Calls prog 23 #[.slice l22_0.a l22_0.len l22_0.cap, .slice l27_0.a l27_0.len l27_0.cap] w10 fun e w11 =>
 ∃ b54 : Bool, e = .returned (.bool b54) /\
 Br b54 (
 Br (n22_1 == n27_1) (
 Calls prog 23 #[.slice l32_0.a l32_0.len l32_0.cap, .slice l37_0.a l37_0.len l37_0.cap] w11 fun e w12 =>
 ∃ b63 : Bool, e = .returned (.bool b63) /\
 Br b63 (
 Br (n32_1 == n37_1) (
 Calls prog 23 #[.slice l43_0.a l43_0.len l43_0.cap, .slice l49_0.a l49_0.len l49_0.cap] w12 fun e w13 =>
 ∃ b73 : Bool, e = .returned (.bool b73) /\
 Br b73 (
 Br (n43_1 == n49_1) (
 Calls prog 12 #[] w13 fun e w14 =>
 ∃ b81 : Bool, e = .returned (.bool b81) /\
 runD prog ds w14 fun w15 =>
 R (.returned (.bool b81)) w15) (
 runD prog ds w13 fun w16 =>
 R (.returned (.bool false)) w16)) (
 runD prog ds w13 fun w17 =>
 R (.returned (.bool false)) w17)) (
 runD prog ds w12 fun w18 =>
 R (.returned (.bool false)) w18)) (
 runD prog ds w12 fun w19 =>
 R (.returned (.bool false)) w19)) (
 runD prog ds w11 fun w20 =>
 R (.returned (.bool false)) w20)) (
 runD prog ds w11 fun w21 =>
 R (.returned (.bool false)) w21))
theorem c4_l : flat (bodyOf f4) = [c4_0, c4_1, c4_2, c4_3, c4_4, c4_5, c4_6, c4_7, c4_8, c4_9, c4_10] := by kernel_rfl
theorem F4_1_ok (R : Rt) (n0_0 : Int) (l0_1 l0_2 : SV) (n1 : Int) (ds : Ds) (w : World) (E : Env) (e0 : E 0 = .agg #[.int .i64 n0_0, .slice l0_1.a l0_1.len l0_1.cap, .slice l0_2.a l0_2.len l0_2.cap]) (e1 : E 1 = .int .i64 n1) (h : F4_1 R n0_0 l0_1 l0_2 n1 ds w) :
    TrL prog f4.ntmps [c4_0, c4_1, c4_2, c4_3, c4_4, c4_5, c4_6, c4_7, c4_8, c4_9, c4_10] (F4_q1 R) E ds w :=
  TrL_leaf (X := F4_1 R n0_0 l0_1 l0_2 n1 ds w) (setAll_cons e0 (setAll_cons e1 setAll_nil)) (by kernel_rfl) (by kernel_rfl) h
theorem F4_calls (n0_0 : Int) (l0_1 l0_2 : SV) (n1 : Int) (w : World) (R : Rt) (h : F4_1 R n0_0 l0_1 l0_2 n1 [] w) : Calls prog 4 #[.agg #[.int .i64 n0_0, .slice l0_1.a l0_1.len l0_1.cap, .slice l0_2.a l0_2.len l0_2.cap], .int .i64 n1] w R :=
  calls_of_L (l := [c4_0, c4_1, c4_2, c4_3, c4_4, c4_5, c4_6, c4_7, c4_8, c4_9, c4_10]) func4 (by kernel_rfl) (by rw [ntmps4]; exact Nat.le_of_ble_eq_true (by kernel_rfl)) c4_l
    (F4_1_ok R n0_0 l0_1 l0_2 n1 [] w _ rfl rfl h)
end Go.Proofs.YtecmfdfhpldmmaaGreatDoor
