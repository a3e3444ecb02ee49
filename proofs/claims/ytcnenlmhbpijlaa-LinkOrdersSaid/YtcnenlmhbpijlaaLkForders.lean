import Derived.Test.YtcnenlmhbpijlaaProg
import Derived.Test.YtcnenlmhbpijlaaShEight
/- Shallow texts of functions, printed by program, each checked by the kernel against the loaded code. No condition. -/
set_option maxRecDepth 100000
set_option linter.unusedVariables false
namespace Go.Proofs.Ytcnenlmhbpijlaa
open Go.Sh
/-! function 10: cabinetry/cabinetrylaw24.LinkOrders -/
noncomputable def c10_0 : Code := itemAt (flat (bodyOf Try.f10)) 0
noncomputable def c10_1 : Code := itemAt (flat (bodyOf Try.f10)) 1
noncomputable def c10_2 : Code := itemAt (flat (bodyOf Try.f10)) 2
noncomputable def c10_3 : Code := itemAt (flat (bodyOf Try.f10)) 3
noncomputable def c10_4 : Code := itemAt (flat (bodyOf Try.f10)) 4
noncomputable def c10_5 : Code := itemAt (flat (bodyOf Try.f10)) 5
noncomputable def c10_6 : Code := itemAt (flat (bodyOf Try.f10)) 6
noncomputable def c10_7 : Code := itemAt (flat (bodyOf Try.f10)) 7
noncomputable def c10_8 : Code := itemAt (flat (bodyOf Try.f10)) 8
noncomputable def c10_9 : Code := itemAt (flat (bodyOf Try.f10)) 9
noncomputable def c10_10 : Code := itemAt (flat (bodyOf Try.f10)) 10
noncomputable def c10_11 : Code := itemAt (flat (bodyOf Try.f10)) 11
noncomputable def c10_12 : Code := itemAt (flat (bodyOf Try.f10)) 12
noncomputable def c10_13 : Code := itemAt (flat (bodyOf Try.f10)) 13
noncomputable def c10_14 : Code := itemAt (flat (bodyOf Try.f10)) 14
noncomputable def c10_8_0 : Code := itemAt (flat (innerC c10_8)) 0
noncomputable def c10_8_0_0 : Code := itemAt (flat (innerC c10_8_0)) 0
noncomputable def c10_8_0_1 : Code := itemAt (flat (innerC c10_8_0)) 1
noncomputable def c10_8_0_2 : Code := itemAt (flat (innerC c10_8_0)) 2
noncomputable def c10_8_0_3 : Code := itemAt (flat (innerC c10_8_0)) 3
def F10_q1 (R : Rt) : EQ := endQ Try.prog Try.f10.results.toList R
def F10_1 (R : Rt) (l3 : SV) (b9 : Bool) (n10 : Int) (ds : Ds) (w : World) : Prop :=
 Br (n10 != 0) (
 Calls Try.prog 16 #[] w fun e w1 =>
 ∃ b89 : Bool, e = .returned (.bool b89) ∧
 runD Try.prog ds w1 fun w2 =>
 R (.returned (.bool b89)) w2) (
 Br (b9 == (((l3.len : Nat) : Int) == 0)) (
 Calls Try.prog 16 #[] w fun e w3 =>
 ∃ b89 : Bool, e = .returned (.bool b89) ∧
 runD Try.prog ds w3 fun w4 =>
 R (.returned (.bool b89)) w4) (
 runD Try.prog ds w fun w5 =>
 R (.returned (.bool false)) w5))
def F10_k2 (R : Rt) : EP := (fun ρ ds w => dSl (ρ 3) fun l3 => dBl (ρ 9) fun b9 => dInt .i64 (ρ 10) fun n10 => F10_1 R l3 b9 n10 ds w)
def F10_2 (R : Rt) (l0 : SV) (l3 : SV) (ds : Ds) (w : World) : Prop :=
 Calls Try.prog 39 #[.slice l0.a l0.len l0.cap] w fun e w6 =>
 ∃ l55_0 : SV, ∃ b55_1 : Bool, ∃ n55_2 : Int, e = .returned (.tuple #[.slice l55_0.a l55_0.len l55_0.cap, .bool b55_1, .int .i64 n55_2]) ∧
 Calls Try.prog 40 #[.slice l0.a l0.len l0.cap] w6 fun e w7 =>
 ∃ l61_0 : SV, ∃ b61_1 : Bool, ∃ n61_2 : Int, e = .returned (.tuple #[.slice l61_0.a l61_0.len l61_0.cap, .bool b61_1, .int .i64 n61_2]) ∧
 Calls Try.prog 25 #[.slice l55_0.a l55_0.len l55_0.cap, .slice l61_0.a l61_0.len l61_0.cap] w7 fun e w8 =>
 ∃ b67 : Bool, e = .returned (.bool b67) ∧
 Br (!b67) (
 runD Try.prog ds w8 fun w9 =>
 R (.returned (.bool false)) w9) (
 Br (!(b55_1 == b61_1)) (
 runD Try.prog ds w8 fun w10 =>
 R (.returned (.bool false)) w10) (
 Br (n55_2 != n61_2) (
 runD Try.prog ds w8 fun w11 =>
 R (.returned (.bool false)) w11) (
 F10_1 R l3 b55_1 n55_2 ds w8)))
def F10_k3 (R : Rt) : EP := (fun ρ ds w => dSl (ρ 0) fun l0 => dSl (ρ 3) fun l3 => F10_2 R l0 l3 ds w)
def F10_q4 (R : Rt) : EQ := (thenQ (F10_k3 R) (F10_q1 R))
def F10_q5 (R : Rt) : EQ := (blockQ 0 (F10_q4 R))
def F10_q6 (R : Rt) (J1 : (Int) → World → Prop) : EQ := (thenQ (fun ρ _ w => dInt .i64 (ρ 7) fun n7 => J1 n7 w) (F10_q5 R))
def F10_3 (R : Rt) (J1 : (Int) → World → Prop) (l0 : SV) (l3 : SV) (l5 : SV) (n7 : Int) (ds : Ds) (w : World) : Prop :=
 Br (decide (n7 < ((l3.len : Nat) : Int))) (
 dwE w fun w12 =>
 ∃ a13 : Addr, l3.a = some a13 ∧ 0 ≤ n7 ∧ n7 < ((l3.len : Nat) : Int) ∧
 ∃ l46 : SV, w12.cell? (a13.add (n7.toNat * 1)) = some (.slice l46.a l46.len l46.cap) ∧
 ∃ a14 : Addr, l5.a = some a14 ∧ 0 ≤ n7 ∧ n7 < ((l5.len : Nat) : Int) ∧
 ∃ l50 : SV, w12.cell? (a14.add (n7.toNat * 1)) = some (.slice l50.a l50.len l50.cap) ∧
 Calls Try.prog 25 #[.slice l46.a l46.len l46.cap, .slice l50.a l50.len l50.cap] w12 fun e w15 =>
 ∃ b51 : Bool, e = .returned (.bool b51) ∧
 Br (!b51) (
 runD Try.prog ds w15 fun w16 =>
 R (.returned (.bool false)) w16) (
 J1 (IntKind.i64.wrap (n7 + 1)) w15)) (
 F10_2 R l0 l3 ds w)
def F10_4 (R : Rt) (l0 : SV) (l3 : SV) (l5 : SV) (n7 : Int) (ds : Ds) (w : World) : Prop :=
 loopT (fun (J1 : (Int) → World → Prop) (s : Int) (w : World) => F10_3 R J1 l0 l3 l5 s ds w) n7 w
@[reducible] def F10_5 (R : Rt) (l0 : SV) (l3 : SV) (l5 : SV) (n7 : Int) (ds : Ds) (w : World) : Prop := F10_4 R l0 l3 l5 n7 ds w
def F10_k7 (R : Rt) : EP := (fun ρ ds w => dSl (ρ 0) fun l0 => dSl (ρ 3) fun l3 => dSl (ρ 5) fun l5 => dInt .i64 (ρ 7) fun n7 => F10_5 R l0 l3 l5 n7 ds w)
def F10_6 (R : Rt) (l0 : SV) (ds : Ds) (w : World) : Prop :=
 Calls Try.prog 14 #[.slice l0.a l0.len l0.cap] w fun e w17 =>
 ∃ b15 : Bool, e = .returned (.bool b15) ∧
 Br b15 (
 Calls Try.prog 16 #[] w17 fun e w18 =>
 ∃ b16 : Bool, e = .returned (.bool b16) ∧
 runD Try.prog ds w18 fun w19 =>
 R (.returned (.bool b16)) w19) (
 Calls Try.prog 37 #[.slice l0.a l0.len l0.cap] w17 fun e w20 =>
 ∃ l19_0 : SV, ∃ n19_1 : Int, e = .returned (.tuple #[.slice l19_0.a l19_0.len l19_0.cap, .int .i64 n19_1]) ∧
 Calls Try.prog 38 #[.slice l0.a l0.len l0.cap] w20 fun e w21 =>
 ∃ l24_0 : SV, ∃ n24_1 : Int, e = .returned (.tuple #[.slice l24_0.a l24_0.len l24_0.cap, .int .i64 n24_1]) ∧
 Br (((l19_0.len : Nat) : Int) != ((l24_0.len : Nat) : Int)) (
 runD Try.prog ds w21 fun w22 =>
 R (.returned (.bool false)) w22) (
 Br (n19_1 != n24_1) (
 runD Try.prog ds w21 fun w23 =>
 R (.returned (.bool false)) w23) (
 F10_5 R l0 l19_0 l24_0 0 ds w21)))
theorem c10_l : flat (bodyOf Try.f10) = [c10_0, c10_1, c10_2, c10_3, c10_4, c10_5, c10_6, c10_7, c10_8, c10_9, c10_10, c10_11, c10_12, c10_13, c10_14] := by kernel_rfl
theorem c10_8_l : flat (innerC c10_8) = [c10_8_0] := by kernel_rfl
theorem c10_8_0_l : flat (innerC c10_8_0) = [c10_8_0_0, c10_8_0_1, c10_8_0_2, c10_8_0_3] := by kernel_rfl
theorem F10_1_ok (R : Rt) (l3 : SV) (b9 : Bool) (n10 : Int) (ds : Ds) (w : World) (ρ : Env) (e3 : ρ 3 = .slice l3.a l3.len l3.cap) (e9 : ρ 9 = .bool b9) (e10 : ρ 10 = .int .i64 n10) (h : F10_1 R l3 b9 n10 ds w) :
    TrL Try.prog Try.f10.ntmps [c10_13, c10_14] (F10_q1 R) ρ ds w :=
  TrL_leaf (X := F10_1 R l3 b9 n10 ds w) (setAll_cons e3 (setAll_cons e9 (setAll_cons e10 setAll_nil))) (by kernel_rfl) (by kernel_rfl) h
theorem F10_2_ok (R : Rt) (l0 : SV) (l3 : SV) (ds : Ds) (w : World) (ρ : Env) (e0 : ρ 0 = .slice l0.a l0.len l0.cap) (e3 : ρ 3 = .slice l3.a l3.len l3.cap) (h : F10_2 R l0 l3 ds w) :
    TrL Try.prog Try.f10.ntmps [c10_9, c10_10, c10_11, c10_12, c10_13, c10_14] (F10_q1 R) ρ ds w :=
  TrL_piece (pre := [c10_9, c10_10, c10_11, c10_12]) (K := (F10_k2 R)) (X := F10_2 R l0 l3 ds w) (setAll_cons e0 (setAll_cons e3 setAll_nil)) (by kernel_rfl) (by kernel_rfl)
    (fun ρ' ds' w' hD => by
      obtain ⟨l3, e3, hD⟩ := dSl_elim hD; obtain ⟨b9, e9, hD⟩ := dBl_elim hD; obtain ⟨n10, e10, hD⟩ := dInt_elim hD; exact F10_1_ok R l3 b9 n10 ds' w' ρ' e3 e9 e10 hD) h
theorem F10_3_ok (R : Rt) (J1 : (Int) → World → Prop) (l0 : SV) (l3 : SV) (l5 : SV) (n7 : Int) (ds : Ds) (w : World) (ρ : Env) (e0 : ρ 0 = .slice l0.a l0.len l0.cap) (e3 : ρ 3 = .slice l3.a l3.len l3.cap) (e5 : ρ 5 = .slice l5.a l5.len l5.cap) (e7 : ρ 7 = .int .i64 n7) (h : F10_3 R J1 l0 l3 l5 n7 ds w) :
    TrL Try.prog Try.f10.ntmps [c10_8_0_0, c10_8_0_1, c10_8_0_2, c10_8_0_3] (F10_q6 R J1) ρ ds w :=
  TrL_leaf (X := F10_3 R J1 l0 l3 l5 n7 ds w) (setAll_cons e0 (setAll_cons e3 (setAll_cons e5 (setAll_cons e7 setAll_nil)))) (by kernel_rfl) (by kernel_rfl) h
theorem F10_4_ok (R : Rt) (l0 : SV) (l3 : SV) (l5 : SV) (n7 : Int) (ds : Ds) (w : World) (ρ : Env) (e0 : ρ 0 = .slice l0.a l0.len l0.cap) (e3 : ρ 3 = .slice l3.a l3.len l3.cap) (e5 : ρ 5 = .slice l5.a l5.len l5.cap) (e7 : ρ 7 = .int .i64 n7) (h : F10_4 R l0 l3 l5 n7 ds w) :
    TrL Try.prog Try.f10.ntmps [c10_8_0] (F10_q5 R) ρ ds w :=
  TrL_one (Tr_loop' (c := innerC c10_8_0) (σ := Int) (enc := (fun (s : Int) (ρ : Env) => ρ 7 = .int .i64 s)) (D := (fun ρ K => dInt .i64 (ρ 7) fun n7 => K n7)) (F := (fun (J1 : (Int) → World → Prop) (s : Int) (w : World) => F10_3 R J1 l0 l3 l5 s ds w)) (s0 := n7) (by kernel_rfl) c10_8_0_l e7 (by kernel_rfl) (fun ρ K hD => by obtain ⟨n7, e7, hD⟩ := dInt_elim hD; exact ⟨n7, e7, hD⟩)
      (fun J1 s ρ' w' he ha hF => by
      have e7' := he
      exact F10_3_ok R J1 l0 l3 l5 s ds w' ρ' ((ha 0 (by kernel_rfl)).trans e0) ((ha 3 (by kernel_rfl)).trans e3) ((ha 5 (by kernel_rfl)).trans e5) e7' hF) h)
theorem F10_5_ok (R : Rt) (l0 : SV) (l3 : SV) (l5 : SV) (n7 : Int) (ds : Ds) (w : World) (ρ : Env) (e0 : ρ 0 = .slice l0.a l0.len l0.cap) (e3 : ρ 3 = .slice l3.a l3.len l3.cap) (e5 : ρ 5 = .slice l5.a l5.len l5.cap) (e7 : ρ 7 = .int .i64 n7) (h : F10_5 R l0 l3 l5 n7 ds w) :
    TrL Try.prog Try.f10.ntmps [c10_8, c10_9, c10_10, c10_11, c10_12, c10_13, c10_14] (F10_q1 R) ρ ds w :=
  TrL_head (K := (F10_k3 R)) (Tr_block' (c := innerC c10_8) (by kernel_rfl) c10_8_l (F10_4_ok R l0 l3 l5 n7 ds w ρ e0 e3 e5 e7 h))
    (fun ρ' ds' w' hD => by
      obtain ⟨l0, e0, hD⟩ := dSl_elim hD; obtain ⟨l3, e3, hD⟩ := dSl_elim hD; exact F10_2_ok R l0 l3 ds' w' ρ' e0 e3 hD)
theorem F10_6_ok (R : Rt) (l0 : SV) (ds : Ds) (w : World) (ρ : Env) (e0 : ρ 0 = .slice l0.a l0.len l0.cap) (h : F10_6 R l0 ds w) :
    TrL Try.prog Try.f10.ntmps [c10_0, c10_1, c10_2, c10_3, c10_4, c10_5, c10_6, c10_7, c10_8, c10_9, c10_10, c10_11, c10_12, c10_13, c10_14] (F10_q1 R) ρ ds w :=
  TrL_piece (pre := [c10_0, c10_1, c10_2, c10_3, c10_4, c10_5, c10_6, c10_7]) (K := (F10_k7 R)) (X := F10_6 R l0 ds w) (setAll_cons e0 setAll_nil) (by kernel_rfl) (by kernel_rfl)
    (fun ρ' ds' w' hD => by
      obtain ⟨l0, e0, hD⟩ := dSl_elim hD; obtain ⟨l3, e3, hD⟩ := dSl_elim hD; obtain ⟨l5, e5, hD⟩ := dSl_elim hD; obtain ⟨n7, e7, hD⟩ := dInt_elim hD; exact F10_5_ok R l0 l3 l5 n7 ds' w' ρ' e0 e3 e5 e7 hD) h
theorem F10_calls (l0 : SV) (w : World) (R : Rt) (h : F10_6 R l0 [] w) : Calls Try.prog 10 #[.slice l0.a l0.len l0.cap] w R :=
  calls_of_L (l := [c10_0, c10_1, c10_2, c10_3, c10_4, c10_5, c10_6, c10_7, c10_8, c10_9, c10_10, c10_11, c10_12, c10_13, c10_14]) Try.func10 (by kernel_rfl) (by rw [Try.ntmps10]; exact Nat.le_of_ble_eq_true (by kernel_rfl)) c10_l
    (F10_6_ok R l0 [] w _ rfl h)
theorem F10_callsD (l0 : SV) (w : World) (R : Rt) (u : FrameMode) (h : F10_6 R l0 [] w) : CallsD Try.prog 10 #[.slice l0.a l0.len l0.cap] u w fun e u' w' => u' = u ∧ R e w' :=
  callsD_of_L (l := [c10_0, c10_1, c10_2, c10_3, c10_4, c10_5, c10_6, c10_7, c10_8, c10_9, c10_10, c10_11, c10_12, c10_13, c10_14]) Try.func10 (by kernel_rfl) (by rw [Try.ntmps10]; exact Nat.le_of_ble_eq_true (by kernel_rfl)) (by kernel_rfl) c10_l
    (F10_6_ok R l0 [] w _ rfl h) u

/-! function 37: cabinetry/link.Rings -/
noncomputable def c37_0 : Code := itemAt (flat (bodyOf Try.f37)) 0
noncomputable def c37_1 : Code := itemAt (flat (bodyOf Try.f37)) 1
noncomputable def c37_2 : Code := itemAt (flat (bodyOf Try.f37)) 2
noncomputable def c37_3 : Code := itemAt (flat (bodyOf Try.f37)) 3
noncomputable def c37_4 : Code := itemAt (flat (bodyOf Try.f37)) 4
noncomputable def c37_5 : Code := itemAt (flat (bodyOf Try.f37)) 5
noncomputable def c37_6 : Code := itemAt (flat (bodyOf Try.f37)) 6
noncomputable def c37_7 : Code := itemAt (flat (bodyOf Try.f37)) 7
noncomputable def c37_8 : Code := itemAt (flat (bodyOf Try.f37)) 8
noncomputable def c37_9 : Code := itemAt (flat (bodyOf Try.f37)) 9
noncomputable def c37_10 : Code := itemAt (flat (bodyOf Try.f37)) 10
noncomputable def c37_11 : Code := itemAt (flat (bodyOf Try.f37)) 11
noncomputable def c37_12 : Code := itemAt (flat (bodyOf Try.f37)) 12
noncomputable def c37_10_0 : Code := itemAt (flat (innerC c37_10)) 0
noncomputable def c37_10_0_0 : Code := itemAt (flat (innerC c37_10_0)) 0
noncomputable def c37_10_0_1 : Code := itemAt (flat (innerC c37_10_0)) 1
noncomputable def c37_10_0_2 : Code := itemAt (flat (innerC c37_10_0)) 2
noncomputable def c37_10_0_3 : Code := itemAt (flat (innerC c37_10_0)) 3
noncomputable def c37_10_0_2_0 : Code := itemAt (flat (innerC c37_10_0_2)) 0
noncomputable def c37_10_0_2_1 : Code := itemAt (flat (innerC c37_10_0_2)) 1
noncomputable def c37_10_0_2_2 : Code := itemAt (flat (innerC c37_10_0_2)) 2
noncomputable def c37_10_0_2_3 : Code := itemAt (flat (innerC c37_10_0_2)) 3
noncomputable def c37_10_0_2_4 : Code := itemAt (flat (innerC c37_10_0_2)) 4
noncomputable def c37_10_0_2_5 : Code := itemAt (flat (innerC c37_10_0_2)) 5
noncomputable def c37_10_0_2_6 : Code := itemAt (flat (innerC c37_10_0_2)) 6
noncomputable def c37_10_0_2_7 : Code := itemAt (flat (innerC c37_10_0_2)) 7
noncomputable def c37_10_0_2_5_0 : Code := itemAt (flat (innerC c37_10_0_2_5)) 0
noncomputable def c37_10_0_2_5_0_0 : Code := itemAt (flat (innerC c37_10_0_2_5_0)) 0
noncomputable def c37_10_0_2_5_0_1 : Code := itemAt (flat (innerC c37_10_0_2_5_0)) 1
noncomputable def c37_10_0_2_5_0_2 : Code := itemAt (flat (innerC c37_10_0_2_5_0)) 2
noncomputable def c37_10_0_2_5_0_3 : Code := itemAt (flat (innerC c37_10_0_2_5_0)) 3
noncomputable def c37_6_0 : Code := itemAt (flat (innerC c37_6)) 0
noncomputable def c37_6_0_0 : Code := itemAt (flat (innerC c37_6_0)) 0
noncomputable def c37_6_0_1 : Code := itemAt (flat (innerC c37_6_0)) 1
noncomputable def c37_6_0_2 : Code := itemAt (flat (innerC c37_6_0)) 2
def F37_q1 (R : Rt) : EQ := endQ Try.prog Try.f37.results.toList R
def F37_1 (R : Rt) (l8 : SV) (ds : Ds) (w : World) : Prop :=
 runD Try.prog ds w fun w1 =>
 R (.returned (.tuple #[.slice l8.a l8.len l8.cap, .int .i64 0])) w1
def F37_k2 (R : Rt) : EP := (fun ρ ds w => dSl (ρ 8) fun l8 => F37_1 R l8 ds w)
def F37_q3 (R : Rt) : EQ := (thenQ (F37_k2 R) (F37_q1 R))
def F37_q4 (R : Rt) : EQ := (blockQ 2 (F37_q3 R))
def F37_q5 (R : Rt) (J1 : (SV × Int) → World → Prop) : EQ := (thenQ (fun ρ _ w => dSl (ρ 8) fun l8 => dInt .i64 (ρ 40) fun n40 => J1 (l8, n40) w) (F37_q4 R))
def F37_2 (R : Rt) (J1 : (SV × Int) → World → Prop) (m4 : Option Nat) (m6 : Option Nat) (l8 : SV) (m9 : Option Nat) (l38 : SV) (n39 : Int) (n40 : Int) (ds : Ds) (w : World) : Prop :=
 J1 (l8, (IntKind.i64.wrap (n40 + 1))) w
def F37_k6 (R : Rt) (J1 : (SV × Int) → World → Prop) : EP := (fun ρ ds w => dMap (ρ 4) fun m4 => dMap (ρ 6) fun m6 => dSl (ρ 8) fun l8 => dMap (ρ 9) fun m9 => dSl (ρ 38) fun l38 => dInt .i64 (ρ 39) fun n39 => dInt .i64 (ρ 40) fun n40 => F37_2 R J1 m4 m6 l8 m9 l38 n39 n40 ds w)
def F37_q7 (R : Rt) (J1 : (SV × Int) → World → Prop) : EQ := (thenQ (F37_k6 R J1) (F37_q5 R J1))
def F37_q8 (R : Rt) (J1 : (SV × Int) → World → Prop) : EQ := (blockQ 3 (F37_q7 R J1))
def F37_3 (R : Rt) (J1 : (SV × Int) → World → Prop) (m4 : Option Nat) (m6 : Option Nat) (l8 : SV) (m9 : Option Nat) (s11 : ByteArray) (l12 : SV) (l38 : SV) (n39 : Int) (n40 : Int) (ds : Ds) (w : World) : Prop :=
 Br (decide (((l12.len : Nat) : Int) > 1)) (
 alE (.cells #[.slice l12.a l12.len l12.cap] 23) w fun r82 w2 =>
 ∃ l83 : SV, ∃ w3 : World, (Builtin.append_ #[31, 31] 31 #[.slice l8.a l8.len l8.cap, .slice (some ⟨r82, 0, none⟩) 1 1]).run Try.prog w2 = .ok (.slice l83.a l83.len l83.cap) w3 ∧
 F37_2 R J1 m4 m6 l83 m9 l38 n39 n40 ds w3) (
 ∃ n75_0 : Int, ∃ l75_1 : SV, ∃ w4 : World, (Instr.lookup 57 (.map m4) (.string s11) false).run Try.prog w = .ok (.agg #[.int .i64 n75_0, .slice l75_1.a l75_1.len l75_1.cap]) w4 ∧
 Calls Try.prog 47 #[.slice l75_1.a l75_1.len l75_1.cap, .string s11] w4 fun e w5 =>
 ∃ b78 : Bool, e = .returned (.bool b78) ∧
 Br b78 (
 alE (.cells #[.slice l12.a l12.len l12.cap] 23) w5 fun r82 w6 =>
 ∃ l83 : SV, ∃ w7 : World, (Builtin.append_ #[31, 31] 31 #[.slice l8.a l8.len l8.cap, .slice (some ⟨r82, 0, none⟩) 1 1]).run Try.prog w6 = .ok (.slice l83.a l83.len l83.cap) w7 ∧
 F37_2 R J1 m4 m6 l83 m9 l38 n39 n40 ds w7) (
 F37_2 R J1 m4 m6 l8 m9 l38 n39 n40 ds w5))
def F37_k9 (R : Rt) (J1 : (SV × Int) → World → Prop) : EP := (fun ρ ds w => dMap (ρ 4) fun m4 => dMap (ρ 6) fun m6 => dSl (ρ 8) fun l8 => dMap (ρ 9) fun m9 => dStr (ρ 11) fun s11 => dSl (ρ 12) fun l12 => dSl (ρ 38) fun l38 => dInt .i64 (ρ 39) fun n39 => dInt .i64 (ρ 40) fun n40 => F37_3 R J1 m4 m6 l8 m9 s11 l12 l38 n39 n40 ds w)
def F37_q10 (R : Rt) (J1 : (SV × Int) → World → Prop) : EQ := (thenQ (F37_k9 R J1) (F37_q8 R J1))
def F37_q11 (R : Rt) (J1 : (SV × Int) → World → Prop) : EQ := (blockQ 4 (F37_q10 R J1))
def F37_q12 (R : Rt) (J1 : (SV × Int) → World → Prop) (J2 : (SV × Int) → World → Prop) : EQ := (thenQ (fun ρ _ w => dSl (ρ 12) fun l12 => dInt .i64 (ρ 53) fun n53 => J2 (l12, n53) w) (F37_q11 R J1))
def F37_4 (R : Rt) (J1 : (SV × Int) → World → Prop) (J2 : (SV × Int) → World → Prop) (m4 : Option Nat) (m6 : Option Nat) (l8 : SV) (m9 : Option Nat) (s11 : ByteArray) (l12 : SV) (l38 : SV) (n39 : Int) (n40 : Int) (l51 : SV) (n52 : Int) (n53 : Int) (ds : Ds) (w : World) : Prop :=
 Br (decide (n53 < n52)) (
 ∃ a8 : Addr, l51.a = some a8 ∧ 0 ≤ n53 ∧ n53 < ((l51.len : Nat) : Int) ∧
 ∃ s56 : ByteArray, w.cell? (a8.add (n53.toNat * 1)) = some (.string s56) ∧
 ∃ m59 : Option Nat, ∃ w9 : World, (Instr.lookup 96 (.map m6) (.string s56) false).run Try.prog w = .ok (.map m59) w9 ∧
 ∃ b61 : Bool, ∃ w10 : World, (Instr.lookup 82 (.map m59) (.string s11) false).run Try.prog w9 = .ok (.bool b61) w10 ∧
 Br b61 (
 alE (.cells #[.string s56] 9) w10 fun r64 w11 =>
 ∃ l65 : SV, ∃ w12 : World, (Builtin.append_ #[23, 23] 23 #[.slice l12.a l12.len l12.cap, .slice (some ⟨r64, 0, none⟩) 1 1]).run Try.prog w11 = .ok (.slice l65.a l65.len l65.cap) w12 ∧
 doE Try.prog (Instr.mapUpdate 82 (.map m9) (.string s56) (.bool true)) w12 fun w13 =>
 J2 (l65, (IntKind.i64.wrap (n53 + 1))) w13) (
 J2 (l12, (IntKind.i64.wrap (n53 + 1))) w10)) (
 F37_3 R J1 m4 m6 l8 m9 s11 l12 l38 n39 n40 ds w)
def F37_5 (R : Rt) (J1 : (SV × Int) → World → Prop) (m4 : Option Nat) (m6 : Option Nat) (l8 : SV) (m9 : Option Nat) (s11 : ByteArray) (l12 : SV) (l38 : SV) (n39 : Int) (n40 : Int) (l51 : SV) (n52 : Int) (n53 : Int) (ds : Ds) (w : World) : Prop :=
 loopT (fun (J2 : (SV × Int) → World → Prop) (s : SV × Int) (w : World) => F37_4 R J1 J2 m4 m6 l8 m9 s11 s.1 l38 n39 n40 l51 n52 s.2 ds w) (l12, n53) w
@[reducible] def F37_6 (R : Rt) (J1 : (SV × Int) → World → Prop) (m4 : Option Nat) (m6 : Option Nat) (l8 : SV) (m9 : Option Nat) (s11 : ByteArray) (l12 : SV) (l38 : SV) (n39 : Int) (n40 : Int) (l51 : SV) (n52 : Int) (n53 : Int) (ds : Ds) (w : World) : Prop := F37_5 R J1 m4 m6 l8 m9 s11 l12 l38 n39 n40 l51 n52 n53 ds w
def F37_k13 (R : Rt) (J1 : (SV × Int) → World → Prop) : EP := (fun ρ ds w => dMap (ρ 4) fun m4 => dMap (ρ 6) fun m6 => dSl (ρ 8) fun l8 => dMap (ρ 9) fun m9 => dStr (ρ 11) fun s11 => dSl (ρ 12) fun l12 => dSl (ρ 38) fun l38 => dInt .i64 (ρ 39) fun n39 => dInt .i64 (ρ 40) fun n40 => dSl (ρ 51) fun l51 => dInt .i64 (ρ 52) fun n52 => dInt .i64 (ρ 53) fun n53 => F37_6 R J1 m4 m6 l8 m9 s11 l12 l38 n39 n40 l51 n52 n53 ds w)
def F37_7 (R : Rt) (J1 : (SV × Int) → World → Prop) (m4 : Option Nat) (m6 : Option Nat) (l8 : SV) (m9 : Option Nat) (l38 : SV) (n39 : Int) (n40 : Int) (ds : Ds) (w : World) : Prop :=
 ∃ a14 : Addr, l38.a = some a14 ∧ 0 ≤ n40 ∧ n40 < ((l38.len : Nat) : Int) ∧
 ∃ s43 : ByteArray, w.cell? (a14.add (n40.toNat * 1)) = some (.string s43) ∧
 ∃ b46 : Bool, ∃ w15 : World, (Instr.lookup 82 (.map m9) (.string s43) false).run Try.prog w = .ok (.bool b46) w15 ∧
 Br b46 (
 F37_2 R J1 m4 m6 l8 m9 l38 n39 n40 ds w15) (
 ∃ m49 : Option Nat, ∃ w16 : World, (Instr.lookup 96 (.map m6) (.string s43) false).run Try.prog w15 = .ok (.map m49) w16 ∧
 Calls Try.prog 65 #[.map m49] w16 fun e w17 =>
 ∃ v50 : Value, e = .returned (v50) ∧
 Calls Try.prog 64 #[v50] w17 fun e w18 =>
 ∃ l51 : SV, e = .returned (.slice l51.a l51.len l51.cap) ∧
 F37_6 R J1 m4 m6 l8 m9 s43 ⟨none, 0, 0⟩ l38 n39 n40 l51 ((l51.len : Nat) : Int) 0 ds w18)
@[reducible] def F37_8 (R : Rt) (J1 : (SV × Int) → World → Prop) (m4 : Option Nat) (m6 : Option Nat) (l8 : SV) (m9 : Option Nat) (l38 : SV) (n39 : Int) (n40 : Int) (ds : Ds) (w : World) : Prop := F37_7 R J1 m4 m6 l8 m9 l38 n39 n40 ds w
def F37_k14 (R : Rt) (J1 : (SV × Int) → World → Prop) : EP := (fun ρ ds w => dMap (ρ 4) fun m4 => dMap (ρ 6) fun m6 => dSl (ρ 8) fun l8 => dMap (ρ 9) fun m9 => dSl (ρ 38) fun l38 => dInt .i64 (ρ 39) fun n39 => dInt .i64 (ρ 40) fun n40 => F37_8 R J1 m4 m6 l8 m9 l38 n39 n40 ds w)
def F37_9 (R : Rt) (J1 : (SV × Int) → World → Prop) (m4 : Option Nat) (m6 : Option Nat) (l8 : SV) (m9 : Option Nat) (l38 : SV) (n39 : Int) (n40 : Int) (ds : Ds) (w : World) : Prop :=
 Br (decide (n40 < n39)) (
 F37_8 R J1 m4 m6 l8 m9 l38 n39 n40 ds w) (
 F37_1 R l8 ds w)
def F37_10 (R : Rt) (m4 : Option Nat) (m6 : Option Nat) (l8 : SV) (m9 : Option Nat) (l38 : SV) (n39 : Int) (n40 : Int) (ds : Ds) (w : World) : Prop :=
 loopT (fun (J1 : (SV × Int) → World → Prop) (s : SV × Int) (w : World) => F37_9 R J1 m4 m6 s.1 m9 l38 n39 s.2 ds w) (l8, n40) w
@[reducible] def F37_11 (R : Rt) (m4 : Option Nat) (m6 : Option Nat) (l8 : SV) (m9 : Option Nat) (l38 : SV) (n39 : Int) (n40 : Int) (ds : Ds) (w : World) : Prop := F37_10 R m4 m6 l8 m9 l38 n39 n40 ds w
def F37_k15 (R : Rt) : EP := (fun ρ ds w => dMap (ρ 4) fun m4 => dMap (ρ 6) fun m6 => dSl (ρ 8) fun l8 => dMap (ρ 9) fun m9 => dSl (ρ 38) fun l38 => dInt .i64 (ρ 39) fun n39 => dInt .i64 (ρ 40) fun n40 => F37_11 R m4 m6 l8 m9 l38 n39 n40 ds w)
def F37_12 (R : Rt) (m4 : Option Nat) (m6 : Option Nat) (ds : Ds) (w : World) : Prop :=
 alE (.map #[] 0) w fun r35 w19 =>
 Calls Try.prog 77 #[.map m4] w19 fun e w20 =>
 ∃ v37 : Value, e = .returned (v37) ∧
 Calls Try.prog 64 #[v37] w20 fun e w21 =>
 ∃ l38 : SV, e = .returned (.slice l38.a l38.len l38.cap) ∧
 F37_11 R m4 m6 ⟨none, 0, 0⟩ (some r35) l38 ((l38.len : Nat) : Int) 0 ds w21
def F37_k16 (R : Rt) : EP := (fun ρ ds w => dMap (ρ 4) fun m4 => dMap (ρ 6) fun m6 => F37_12 R m4 m6 ds w)
def F37_q17 (R : Rt) : EQ := (thenQ (F37_k16 R) (F37_q1 R))
def F37_q18 (R : Rt) : EQ := (blockQ 0 (F37_q17 R))
def F37_q19 (R : Rt) (J1 : (Unit) → World → Prop) : EQ := (thenQ (fun ρ _ w => J1 () w) (F37_q18 R))
def F37_13 (R : Rt) (J1 : (Unit) → World → Prop) (m4 : Option Nat) (m6 : Option Nat) (p25 : Option Addr) (ds : Ds) (w : World) : Prop :=
 (∃ w22 : World, (Instr.next (.pointer p25) false 0).run Try.prog w = .ok (.tuple #[.bool false]) w22 ∧
 F37_12 R m4 m6 ds w22) ∨ (∃ k26 v26 : Value, ∃ w23 : World, (Instr.next (.pointer p25) false 0).run Try.prog w = .ok (.tuple #[.bool true, k26, v26]) w23 ∧
 ∃ k28 v28 : Value, ∃ w24 : World, (Instr.entry (.pointer p25)).run Try.prog w23 = .ok (.tuple #[k28, v28]) w24 ∧
 dStr k28 fun s29 =>
 Calls Try.prog 66 #[.map m4, .string s29] w24 fun e w25 =>
 ∃ m34 : Option Nat, e = .returned (.map m34) ∧
 doE Try.prog (Instr.mapUpdate 96 (.map m6) (.string s29) (.map m34)) w25 fun w26 =>
 J1 () w26)
def F37_14 (R : Rt) (m4 : Option Nat) (m6 : Option Nat) (p25 : Option Addr) (ds : Ds) (w : World) : Prop :=
 loopT (fun (J1 : (Unit) → World → Prop) (_ : Unit) (w : World) => F37_13 R J1 m4 m6 p25 ds w) () w
@[reducible] def F37_15 (R : Rt) (m4 : Option Nat) (m6 : Option Nat) (p25 : Option Addr) (ds : Ds) (w : World) : Prop := F37_14 R m4 m6 p25 ds w
def F37_k20 (R : Rt) : EP := (fun ρ ds w => dMap (ρ 4) fun m4 => dMap (ρ 6) fun m6 => dPtr (ρ 25) fun p25 => F37_15 R m4 m6 p25 ds w)
def F37_16 (R : Rt) (l0 : SV) (ds : Ds) (w : World) : Prop :=
 Calls Try.prog 62 #[.slice l0.a l0.len l0.cap] w fun e w27 =>
 ∃ m17_0 : Option Nat, ∃ n17_1 : Int, e = .returned (.tuple #[.map m17_0, .int .i64 n17_1]) ∧
 Br (n17_1 != 0) (
 runD Try.prog ds w27 fun w28 =>
 R (.returned (.tuple #[.slice none 0 0, .int .i64 n17_1])) w28) (
 alE (.map #[] 0) w27 fun r23 w29 =>
 ∃ p25 : Option Addr, ∃ w30 : World, (Instr.range 57 (.map m17_0)).run Try.prog w29 = .ok (.pointer p25) w30 ∧
 F37_15 R m17_0 (some r23) p25 ds w30)
theorem c37_l : flat (bodyOf Try.f37) = [c37_0, c37_1, c37_2, c37_3, c37_4, c37_5, c37_6, c37_7, c37_8, c37_9, c37_10, c37_11, c37_12] := by kernel_rfl
theorem c37_10_l : flat (innerC c37_10) = [c37_10_0] := by kernel_rfl
theorem c37_10_0_l : flat (innerC c37_10_0) = [c37_10_0_0, c37_10_0_1, c37_10_0_2, c37_10_0_3] := by kernel_rfl
theorem c37_10_0_2_l : flat (innerC c37_10_0_2) = [c37_10_0_2_0, c37_10_0_2_1, c37_10_0_2_2, c37_10_0_2_3, c37_10_0_2_4, c37_10_0_2_5, c37_10_0_2_6, c37_10_0_2_7] := by kernel_rfl
theorem c37_10_0_2_5_l : flat (innerC c37_10_0_2_5) = [c37_10_0_2_5_0] := by kernel_rfl
theorem c37_10_0_2_5_0_l : flat (innerC c37_10_0_2_5_0) = [c37_10_0_2_5_0_0, c37_10_0_2_5_0_1, c37_10_0_2_5_0_2, c37_10_0_2_5_0_3] := by kernel_rfl
theorem c37_6_l : flat (innerC c37_6) = [c37_6_0] := by kernel_rfl
theorem c37_6_0_l : flat (innerC c37_6_0) = [c37_6_0_0, c37_6_0_1, c37_6_0_2] := by kernel_rfl
theorem F37_1_ok (R : Rt) (l8 : SV) (ds : Ds) (w : World) (ρ : Env) (e8 : ρ 8 = .slice l8.a l8.len l8.cap) (h : F37_1 R l8 ds w) :
    TrL Try.prog Try.f37.ntmps [c37_11, c37_12] (F37_q1 R) ρ ds w :=
  TrL_leaf (X := F37_1 R l8 ds w) (setAll_cons e8 setAll_nil) (by kernel_rfl) (by kernel_rfl) h
theorem F37_2_ok (R : Rt) (J1 : (SV × Int) → World → Prop) (m4 : Option Nat) (m6 : Option Nat) (l8 : SV) (m9 : Option Nat) (l38 : SV) (n39 : Int) (n40 : Int) (ds : Ds) (w : World) (ρ : Env) (e4 : ρ 4 = .map m4) (e6 : ρ 6 = .map m6) (e8 : ρ 8 = .slice l8.a l8.len l8.cap) (e9 : ρ 9 = .map m9) (e38 : ρ 38 = .slice l38.a l38.len l38.cap) (e39 : ρ 39 = .int .i64 n39) (e40 : ρ 40 = .int .i64 n40) (h : F37_2 R J1 m4 m6 l8 m9 l38 n39 n40 ds w) :
    TrL Try.prog Try.f37.ntmps [c37_10_0_3] (F37_q5 R J1) ρ ds w :=
  TrL_leaf (X := F37_2 R J1 m4 m6 l8 m9 l38 n39 n40 ds w) (setAll_cons e4 (setAll_cons e6 (setAll_cons e8 (setAll_cons e9 (setAll_cons e38 (setAll_cons e39 (setAll_cons e40 setAll_nil))))))) (by kernel_rfl) (by kernel_rfl) h
theorem F37_3_ok (R : Rt) (J1 : (SV × Int) → World → Prop) (m4 : Option Nat) (m6 : Option Nat) (l8 : SV) (m9 : Option Nat) (s11 : ByteArray) (l12 : SV) (l38 : SV) (n39 : Int) (n40 : Int) (ds : Ds) (w : World) (ρ : Env) (e4 : ρ 4 = .map m4) (e6 : ρ 6 = .map m6) (e8 : ρ 8 = .slice l8.a l8.len l8.cap) (e9 : ρ 9 = .map m9) (e11 : ρ 11 = .string s11) (e12 : ρ 12 = .slice l12.a l12.len l12.cap) (e38 : ρ 38 = .slice l38.a l38.len l38.cap) (e39 : ρ 39 = .int .i64 n39) (e40 : ρ 40 = .int .i64 n40) (h : F37_3 R J1 m4 m6 l8 m9 s11 l12 l38 n39 n40 ds w) :
    TrL Try.prog Try.f37.ntmps [c37_10_0_2_6, c37_10_0_2_7] (F37_q8 R J1) ρ ds w :=
  TrL_leaf (X := F37_3 R J1 m4 m6 l8 m9 s11 l12 l38 n39 n40 ds w) (setAll_cons e4 (setAll_cons e6 (setAll_cons e8 (setAll_cons e9 (setAll_cons e11 (setAll_cons e12 (setAll_cons e38 (setAll_cons e39 (setAll_cons e40 setAll_nil))))))))) (by kernel_rfl) (by kernel_rfl) h
theorem F37_4_ok (R : Rt) (J1 : (SV × Int) → World → Prop) (J2 : (SV × Int) → World → Prop) (m4 : Option Nat) (m6 : Option Nat) (l8 : SV) (m9 : Option Nat) (s11 : ByteArray) (l12 : SV) (l38 : SV) (n39 : Int) (n40 : Int) (l51 : SV) (n52 : Int) (n53 : Int) (ds : Ds) (w : World) (ρ : Env) (e4 : ρ 4 = .map m4) (e6 : ρ 6 = .map m6) (e8 : ρ 8 = .slice l8.a l8.len l8.cap) (e9 : ρ 9 = .map m9) (e11 : ρ 11 = .string s11) (e12 : ρ 12 = .slice l12.a l12.len l12.cap) (e38 : ρ 38 = .slice l38.a l38.len l38.cap) (e39 : ρ 39 = .int .i64 n39) (e40 : ρ 40 = .int .i64 n40) (e51 : ρ 51 = .slice l51.a l51.len l51.cap) (e52 : ρ 52 = .int .i64 n52) (e53 : ρ 53 = .int .i64 n53) (h : F37_4 R J1 J2 m4 m6 l8 m9 s11 l12 l38 n39 n40 l51 n52 n53 ds w) :
    TrL Try.prog Try.f37.ntmps [c37_10_0_2_5_0_0, c37_10_0_2_5_0_1, c37_10_0_2_5_0_2, c37_10_0_2_5_0_3] (F37_q12 R J1 J2) ρ ds w :=
  TrL_leaf (X := F37_4 R J1 J2 m4 m6 l8 m9 s11 l12 l38 n39 n40 l51 n52 n53 ds w) (setAll_cons e4 (setAll_cons e6 (setAll_cons e8 (setAll_cons e9 (setAll_cons e11 (setAll_cons e12 (setAll_cons e38 (setAll_cons e39 (setAll_cons e40 (setAll_cons e51 (setAll_cons e52 (setAll_cons e53 setAll_nil)))))))))))) (by kernel_rfl) (by kernel_rfl) h
theorem F37_5_ok (R : Rt) (J1 : (SV × Int) → World → Prop) (m4 : Option Nat) (m6 : Option Nat) (l8 : SV) (m9 : Option Nat) (s11 : ByteArray) (l12 : SV) (l38 : SV) (n39 : Int) (n40 : Int) (l51 : SV) (n52 : Int) (n53 : Int) (ds : Ds) (w : World) (ρ : Env) (e4 : ρ 4 = .map m4) (e6 : ρ 6 = .map m6) (e8 : ρ 8 = .slice l8.a l8.len l8.cap) (e9 : ρ 9 = .map m9) (e11 : ρ 11 = .string s11) (e12 : ρ 12 = .slice l12.a l12.len l12.cap) (e38 : ρ 38 = .slice l38.a l38.len l38.cap) (e39 : ρ 39 = .int .i64 n39) (e40 : ρ 40 = .int .i64 n40) (e51 : ρ 51 = .slice l51.a l51.len l51.cap) (e52 : ρ 52 = .int .i64 n52) (e53 : ρ 53 = .int .i64 n53) (h : F37_5 R J1 m4 m6 l8 m9 s11 l12 l38 n39 n40 l51 n52 n53 ds w) :
    TrL Try.prog Try.f37.ntmps [c37_10_0_2_5_0] (F37_q11 R J1) ρ ds w :=
  TrL_one (Tr_loop' (c := innerC c37_10_0_2_5_0) (σ := SV × Int) (enc := (fun (s : SV × Int) (ρ : Env) => ρ 12 = .slice s.1.a s.1.len s.1.cap ∧ ρ 53 = .int .i64 s.2)) (D := (fun ρ K => dSl (ρ 12) fun l12 => dInt .i64 (ρ 53) fun n53 => K (l12, n53))) (F := (fun (J2 : (SV × Int) → World → Prop) (s : SV × Int) (w : World) => F37_4 R J1 J2 m4 m6 l8 m9 s11 s.1 l38 n39 n40 l51 n52 s.2 ds w)) (s0 := (l12, n53)) (by kernel_rfl) c37_10_0_2_5_0_l ⟨e12, e53⟩ (by kernel_rfl) (fun ρ K hD => by obtain ⟨l12, e12, hD⟩ := dSl_elim hD; obtain ⟨n53, e53, hD⟩ := dInt_elim hD; exact ⟨(l12, n53), ⟨e12, e53⟩, hD⟩)
      (fun J2 s ρ' w' he ha hF => by
      obtain ⟨e12', e53'⟩ := he
      exact F37_4_ok R J1 J2 m4 m6 l8 m9 s11 s.1 l38 n39 n40 l51 n52 s.2 ds w' ρ' ((ha 4 (by kernel_rfl)).trans e4) ((ha 6 (by kernel_rfl)).trans e6) ((ha 8 (by kernel_rfl)).trans e8) ((ha 9 (by kernel_rfl)).trans e9) ((ha 11 (by kernel_rfl)).trans e11) e12' ((ha 38 (by kernel_rfl)).trans e38) ((ha 39 (by kernel_rfl)).trans e39) ((ha 40 (by kernel_rfl)).trans e40) ((ha 51 (by kernel_rfl)).trans e51) ((ha 52 (by kernel_rfl)).trans e52) e53' hF) h)
theorem F37_6_ok (R : Rt) (J1 : (SV × Int) → World → Prop) (m4 : Option Nat) (m6 : Option Nat) (l8 : SV) (m9 : Option Nat) (s11 : ByteArray) (l12 : SV) (l38 : SV) (n39 : Int) (n40 : Int) (l51 : SV) (n52 : Int) (n53 : Int) (ds : Ds) (w : World) (ρ : Env) (e4 : ρ 4 = .map m4) (e6 : ρ 6 = .map m6) (e8 : ρ 8 = .slice l8.a l8.len l8.cap) (e9 : ρ 9 = .map m9) (e11 : ρ 11 = .string s11) (e12 : ρ 12 = .slice l12.a l12.len l12.cap) (e38 : ρ 38 = .slice l38.a l38.len l38.cap) (e39 : ρ 39 = .int .i64 n39) (e40 : ρ 40 = .int .i64 n40) (e51 : ρ 51 = .slice l51.a l51.len l51.cap) (e52 : ρ 52 = .int .i64 n52) (e53 : ρ 53 = .int .i64 n53) (h : F37_6 R J1 m4 m6 l8 m9 s11 l12 l38 n39 n40 l51 n52 n53 ds w) :
    TrL Try.prog Try.f37.ntmps [c37_10_0_2_5, c37_10_0_2_6, c37_10_0_2_7] (F37_q8 R J1) ρ ds w :=
  TrL_head (K := (F37_k9 R J1)) (Tr_block' (c := innerC c37_10_0_2_5) (by kernel_rfl) c37_10_0_2_5_l (F37_5_ok R J1 m4 m6 l8 m9 s11 l12 l38 n39 n40 l51 n52 n53 ds w ρ e4 e6 e8 e9 e11 e12 e38 e39 e40 e51 e52 e53 h))
    (fun ρ' ds' w' hD => by
      obtain ⟨m4, e4, hD⟩ := dMap_elim hD; obtain ⟨m6, e6, hD⟩ := dMap_elim hD; obtain ⟨l8, e8, hD⟩ := dSl_elim hD; obtain ⟨m9, e9, hD⟩ := dMap_elim hD; obtain ⟨s11, e11, hD⟩ := dStr_elim hD; obtain ⟨l12, e12, hD⟩ := dSl_elim hD; obtain ⟨l38, e38, hD⟩ := dSl_elim hD; obtain ⟨n39, e39, hD⟩ := dInt_elim hD; obtain ⟨n40, e40, hD⟩ := dInt_elim hD; exact F37_3_ok R J1 m4 m6 l8 m9 s11 l12 l38 n39 n40 ds' w' ρ' e4 e6 e8 e9 e11 e12 e38 e39 e40 hD)
theorem F37_7_ok (R : Rt) (J1 : (SV × Int) → World → Prop) (m4 : Option Nat) (m6 : Option Nat) (l8 : SV) (m9 : Option Nat) (l38 : SV) (n39 : Int) (n40 : Int) (ds : Ds) (w : World) (ρ : Env) (e4 : ρ 4 = .map m4) (e6 : ρ 6 = .map m6) (e8 : ρ 8 = .slice l8.a l8.len l8.cap) (e9 : ρ 9 = .map m9) (e38 : ρ 38 = .slice l38.a l38.len l38.cap) (e39 : ρ 39 = .int .i64 n39) (e40 : ρ 40 = .int .i64 n40) (h : F37_7 R J1 m4 m6 l8 m9 l38 n39 n40 ds w) :
    TrL Try.prog Try.f37.ntmps [c37_10_0_2_0, c37_10_0_2_1, c37_10_0_2_2, c37_10_0_2_3, c37_10_0_2_4, c37_10_0_2_5, c37_10_0_2_6, c37_10_0_2_7] (F37_q8 R J1) ρ ds w :=
  TrL_piece (pre := [c37_10_0_2_0, c37_10_0_2_1, c37_10_0_2_2, c37_10_0_2_3, c37_10_0_2_4]) (K := (F37_k13 R J1)) (X := F37_7 R J1 m4 m6 l8 m9 l38 n39 n40 ds w) (setAll_cons e4 (setAll_cons e6 (setAll_cons e8 (setAll_cons e9 (setAll_cons e38 (setAll_cons e39 (setAll_cons e40 setAll_nil))))))) (by kernel_rfl) (by kernel_rfl)
    (fun ρ' ds' w' hD => by
      obtain ⟨m4, e4, hD⟩ := dMap_elim hD; obtain ⟨m6, e6, hD⟩ := dMap_elim hD; obtain ⟨l8, e8, hD⟩ := dSl_elim hD; obtain ⟨m9, e9, hD⟩ := dMap_elim hD; obtain ⟨s11, e11, hD⟩ := dStr_elim hD; obtain ⟨l12, e12, hD⟩ := dSl_elim hD; obtain ⟨l38, e38, hD⟩ := dSl_elim hD; obtain ⟨n39, e39, hD⟩ := dInt_elim hD; obtain ⟨n40, e40, hD⟩ := dInt_elim hD; obtain ⟨l51, e51, hD⟩ := dSl_elim hD; obtain ⟨n52, e52, hD⟩ := dInt_elim hD; obtain ⟨n53, e53, hD⟩ := dInt_elim hD; exact F37_6_ok R J1 m4 m6 l8 m9 s11 l12 l38 n39 n40 l51 n52 n53 ds' w' ρ' e4 e6 e8 e9 e11 e12 e38 e39 e40 e51 e52 e53 hD) h
theorem F37_8_ok (R : Rt) (J1 : (SV × Int) → World → Prop) (m4 : Option Nat) (m6 : Option Nat) (l8 : SV) (m9 : Option Nat) (l38 : SV) (n39 : Int) (n40 : Int) (ds : Ds) (w : World) (ρ : Env) (e4 : ρ 4 = .map m4) (e6 : ρ 6 = .map m6) (e8 : ρ 8 = .slice l8.a l8.len l8.cap) (e9 : ρ 9 = .map m9) (e38 : ρ 38 = .slice l38.a l38.len l38.cap) (e39 : ρ 39 = .int .i64 n39) (e40 : ρ 40 = .int .i64 n40) (h : F37_8 R J1 m4 m6 l8 m9 l38 n39 n40 ds w) :
    TrL Try.prog Try.f37.ntmps [c37_10_0_2, c37_10_0_3] (F37_q5 R J1) ρ ds w :=
  TrL_head (K := (F37_k6 R J1)) (Tr_block' (c := innerC c37_10_0_2) (by kernel_rfl) c37_10_0_2_l (F37_7_ok R J1 m4 m6 l8 m9 l38 n39 n40 ds w ρ e4 e6 e8 e9 e38 e39 e40 h))
    (fun ρ' ds' w' hD => by
      obtain ⟨m4, e4, hD⟩ := dMap_elim hD; obtain ⟨m6, e6, hD⟩ := dMap_elim hD; obtain ⟨l8, e8, hD⟩ := dSl_elim hD; obtain ⟨m9, e9, hD⟩ := dMap_elim hD; obtain ⟨l38, e38, hD⟩ := dSl_elim hD; obtain ⟨n39, e39, hD⟩ := dInt_elim hD; obtain ⟨n40, e40, hD⟩ := dInt_elim hD; exact F37_2_ok R J1 m4 m6 l8 m9 l38 n39 n40 ds' w' ρ' e4 e6 e8 e9 e38 e39 e40 hD)
theorem F37_9_ok (R : Rt) (J1 : (SV × Int) → World → Prop) (m4 : Option Nat) (m6 : Option Nat) (l8 : SV) (m9 : Option Nat) (l38 : SV) (n39 : Int) (n40 : Int) (ds : Ds) (w : World) (ρ : Env) (e4 : ρ 4 = .map m4) (e6 : ρ 6 = .map m6) (e8 : ρ 8 = .slice l8.a l8.len l8.cap) (e9 : ρ 9 = .map m9) (e38 : ρ 38 = .slice l38.a l38.len l38.cap) (e39 : ρ 39 = .int .i64 n39) (e40 : ρ 40 = .int .i64 n40) (h : F37_9 R J1 m4 m6 l8 m9 l38 n39 n40 ds w) :
    TrL Try.prog Try.f37.ntmps [c37_10_0_0, c37_10_0_1, c37_10_0_2, c37_10_0_3] (F37_q5 R J1) ρ ds w :=
  TrL_piece (pre := [c37_10_0_0, c37_10_0_1]) (K := (F37_k14 R J1)) (X := F37_9 R J1 m4 m6 l8 m9 l38 n39 n40 ds w) (setAll_cons e4 (setAll_cons e6 (setAll_cons e8 (setAll_cons e9 (setAll_cons e38 (setAll_cons e39 (setAll_cons e40 setAll_nil))))))) (by kernel_rfl) (by kernel_rfl)
    (fun ρ' ds' w' hD => by
      obtain ⟨m4, e4, hD⟩ := dMap_elim hD; obtain ⟨m6, e6, hD⟩ := dMap_elim hD; obtain ⟨l8, e8, hD⟩ := dSl_elim hD; obtain ⟨m9, e9, hD⟩ := dMap_elim hD; obtain ⟨l38, e38, hD⟩ := dSl_elim hD; obtain ⟨n39, e39, hD⟩ := dInt_elim hD; obtain ⟨n40, e40, hD⟩ := dInt_elim hD; exact F37_8_ok R J1 m4 m6 l8 m9 l38 n39 n40 ds' w' ρ' e4 e6 e8 e9 e38 e39 e40 hD) h
theorem F37_10_ok (R : Rt) (m4 : Option Nat) (m6 : Option Nat) (l8 : SV) (m9 : Option Nat) (l38 : SV) (n39 : Int) (n40 : Int) (ds : Ds) (w : World) (ρ : Env) (e4 : ρ 4 = .map m4) (e6 : ρ 6 = .map m6) (e8 : ρ 8 = .slice l8.a l8.len l8.cap) (e9 : ρ 9 = .map m9) (e38 : ρ 38 = .slice l38.a l38.len l38.cap) (e39 : ρ 39 = .int .i64 n39) (e40 : ρ 40 = .int .i64 n40) (h : F37_10 R m4 m6 l8 m9 l38 n39 n40 ds w) :
    TrL Try.prog Try.f37.ntmps [c37_10_0] (F37_q4 R) ρ ds w :=
  TrL_one (Tr_loop' (c := innerC c37_10_0) (σ := SV × Int) (enc := (fun (s : SV × Int) (ρ : Env) => ρ 8 = .slice s.1.a s.1.len s.1.cap ∧ ρ 40 = .int .i64 s.2)) (D := (fun ρ K => dSl (ρ 8) fun l8 => dInt .i64 (ρ 40) fun n40 => K (l8, n40))) (F := (fun (J1 : (SV × Int) → World → Prop) (s : SV × Int) (w : World) => F37_9 R J1 m4 m6 s.1 m9 l38 n39 s.2 ds w)) (s0 := (l8, n40)) (by kernel_rfl) c37_10_0_l ⟨e8, e40⟩ (by kernel_rfl) (fun ρ K hD => by obtain ⟨l8, e8, hD⟩ := dSl_elim hD; obtain ⟨n40, e40, hD⟩ := dInt_elim hD; exact ⟨(l8, n40), ⟨e8, e40⟩, hD⟩)
      (fun J1 s ρ' w' he ha hF => by
      obtain ⟨e8', e40'⟩ := he
      exact F37_9_ok R J1 m4 m6 s.1 m9 l38 n39 s.2 ds w' ρ' ((ha 4 (by kernel_rfl)).trans e4) ((ha 6 (by kernel_rfl)).trans e6) e8' ((ha 9 (by kernel_rfl)).trans e9) ((ha 38 (by kernel_rfl)).trans e38) ((ha 39 (by kernel_rfl)).trans e39) e40' hF) h)
theorem F37_11_ok (R : Rt) (m4 : Option Nat) (m6 : Option Nat) (l8 : SV) (m9 : Option Nat) (l38 : SV) (n39 : Int) (n40 : Int) (ds : Ds) (w : World) (ρ : Env) (e4 : ρ 4 = .map m4) (e6 : ρ 6 = .map m6) (e8 : ρ 8 = .slice l8.a l8.len l8.cap) (e9 : ρ 9 = .map m9) (e38 : ρ 38 = .slice l38.a l38.len l38.cap) (e39 : ρ 39 = .int .i64 n39) (e40 : ρ 40 = .int .i64 n40) (h : F37_11 R m4 m6 l8 m9 l38 n39 n40 ds w) :
    TrL Try.prog Try.f37.ntmps [c37_10, c37_11, c37_12] (F37_q1 R) ρ ds w :=
  TrL_head (K := (F37_k2 R)) (Tr_block' (c := innerC c37_10) (by kernel_rfl) c37_10_l (F37_10_ok R m4 m6 l8 m9 l38 n39 n40 ds w ρ e4 e6 e8 e9 e38 e39 e40 h))
    (fun ρ' ds' w' hD => by
      obtain ⟨l8, e8, hD⟩ := dSl_elim hD; exact F37_1_ok R l8 ds' w' ρ' e8 hD)
theorem F37_12_ok (R : Rt) (m4 : Option Nat) (m6 : Option Nat) (ds : Ds) (w : World) (ρ : Env) (e4 : ρ 4 = .map m4) (e6 : ρ 6 = .map m6) (h : F37_12 R m4 m6 ds w) :
    TrL Try.prog Try.f37.ntmps [c37_7, c37_8, c37_9, c37_10, c37_11, c37_12] (F37_q1 R) ρ ds w :=
  TrL_piece (pre := [c37_7, c37_8, c37_9]) (K := (F37_k15 R)) (X := F37_12 R m4 m6 ds w) (setAll_cons e4 (setAll_cons e6 setAll_nil)) (by kernel_rfl) (by kernel_rfl)
    (fun ρ' ds' w' hD => by
      obtain ⟨m4, e4, hD⟩ := dMap_elim hD; obtain ⟨m6, e6, hD⟩ := dMap_elim hD; obtain ⟨l8, e8, hD⟩ := dSl_elim hD; obtain ⟨m9, e9, hD⟩ := dMap_elim hD; obtain ⟨l38, e38, hD⟩ := dSl_elim hD; obtain ⟨n39, e39, hD⟩ := dInt_elim hD; obtain ⟨n40, e40, hD⟩ := dInt_elim hD; exact F37_11_ok R m4 m6 l8 m9 l38 n39 n40 ds' w' ρ' e4 e6 e8 e9 e38 e39 e40 hD) h
theorem F37_13_ok (R : Rt) (J1 : (Unit) → World → Prop) (m4 : Option Nat) (m6 : Option Nat) (p25 : Option Addr) (ds : Ds) (w : World) (ρ : Env) (e4 : ρ 4 = .map m4) (e6 : ρ 6 = .map m6) (e25 : ρ 25 = .pointer p25) (h : F37_13 R J1 m4 m6 p25 ds w) :
    TrL Try.prog Try.f37.ntmps [c37_6_0_0, c37_6_0_1, c37_6_0_2] (F37_q19 R J1) ρ ds w :=
  TrL_leaf (X := F37_13 R J1 m4 m6 p25 ds w) (setAll_cons e4 (setAll_cons e6 (setAll_cons e25 setAll_nil))) (by kernel_rfl) (by kernel_rfl) h
theorem F37_14_ok (R : Rt) (m4 : Option Nat) (m6 : Option Nat) (p25 : Option Addr) (ds : Ds) (w : World) (ρ : Env) (e4 : ρ 4 = .map m4) (e6 : ρ 6 = .map m6) (e25 : ρ 25 = .pointer p25) (h : F37_14 R m4 m6 p25 ds w) :
    TrL Try.prog Try.f37.ntmps [c37_6_0] (F37_q18 R) ρ ds w :=
  TrL_one (Tr_loop' (c := innerC c37_6_0) (σ := Unit) (enc := (fun (_ : Unit) (_ : Env) => True)) (D := (fun ρ K => K ())) (F := (fun (J1 : (Unit) → World → Prop) (_ : Unit) (w : World) => F37_13 R J1 m4 m6 p25 ds w)) (s0 := ()) (by kernel_rfl) c37_6_0_l trivial (by kernel_rfl) (fun ρ K hD => by exact ⟨(), trivial, hD⟩)
      (fun J1 _ ρ' w' he ha hF => by
      skip
      exact F37_13_ok R J1 m4 m6 p25 ds w' ρ' ((ha 4 (by kernel_rfl)).trans e4) ((ha 6 (by kernel_rfl)).trans e6) ((ha 25 (by kernel_rfl)).trans e25) hF) h)
theorem F37_15_ok (R : Rt) (m4 : Option Nat) (m6 : Option Nat) (p25 : Option Addr) (ds : Ds) (w : World) (ρ : Env) (e4 : ρ 4 = .map m4) (e6 : ρ 6 = .map m6) (e25 : ρ 25 = .pointer p25) (h : F37_15 R m4 m6 p25 ds w) :
    TrL Try.prog Try.f37.ntmps [c37_6, c37_7, c37_8, c37_9, c37_10, c37_11, c37_12] (F37_q1 R) ρ ds w :=
  TrL_head (K := (F37_k16 R)) (Tr_block' (c := innerC c37_6) (by kernel_rfl) c37_6_l (F37_14_ok R m4 m6 p25 ds w ρ e4 e6 e25 h))
    (fun ρ' ds' w' hD => by
      obtain ⟨m4, e4, hD⟩ := dMap_elim hD; obtain ⟨m6, e6, hD⟩ := dMap_elim hD; exact F37_12_ok R m4 m6 ds' w' ρ' e4 e6 hD)
theorem F37_16_ok (R : Rt) (l0 : SV) (ds : Ds) (w : World) (ρ : Env) (e0 : ρ 0 = .slice l0.a l0.len l0.cap) (h : F37_16 R l0 ds w) :
    TrL Try.prog Try.f37.ntmps [c37_0, c37_1, c37_2, c37_3, c37_4, c37_5, c37_6, c37_7, c37_8, c37_9, c37_10, c37_11, c37_12] (F37_q1 R) ρ ds w :=
  TrL_piece (pre := [c37_0, c37_1, c37_2, c37_3, c37_4, c37_5]) (K := (F37_k20 R)) (X := F37_16 R l0 ds w) (setAll_cons e0 setAll_nil) (by kernel_rfl) (by kernel_rfl)
    (fun ρ' ds' w' hD => by
      obtain ⟨m4, e4, hD⟩ := dMap_elim hD; obtain ⟨m6, e6, hD⟩ := dMap_elim hD; obtain ⟨p25, e25, hD⟩ := dPtr_elim hD; exact F37_15_ok R m4 m6 p25 ds' w' ρ' e4 e6 e25 hD) h
theorem F37_calls (l0 : SV) (w : World) (R : Rt) (h : F37_16 R l0 [] w) : Calls Try.prog 37 #[.slice l0.a l0.len l0.cap] w R :=
  calls_of_L (l := [c37_0, c37_1, c37_2, c37_3, c37_4, c37_5, c37_6, c37_7, c37_8, c37_9, c37_10, c37_11, c37_12]) Try.func37 (by kernel_rfl) (by rw [Try.ntmps37]; exact Nat.le_of_ble_eq_true (by kernel_rfl)) c37_l
    (F37_16_ok R l0 [] w _ rfl h)
theorem F37_callsD (l0 : SV) (w : World) (R : Rt) (u : FrameMode) (h : F37_16 R l0 [] w) : CallsD Try.prog 37 #[.slice l0.a l0.len l0.cap] u w fun e u' w' => u' = u ∧ R e w' :=
  callsD_of_L (l := [c37_0, c37_1, c37_2, c37_3, c37_4, c37_5, c37_6, c37_7, c37_8, c37_9, c37_10, c37_11, c37_12]) Try.func37 (by kernel_rfl) (by rw [Try.ntmps37]; exact Nat.le_of_ble_eq_true (by kernel_rfl)) (by kernel_rfl) c37_l
    (F37_16_ok R l0 [] w _ rfl h) u

/-! function 38: cabinetry/cabinetryref24.Rings -/
noncomputable def c38_0 : Code := itemAt (flat (bodyOf Try.f38)) 0
noncomputable def c38_1 : Code := itemAt (flat (bodyOf Try.f38)) 1
noncomputable def c38_2 : Code := itemAt (flat (bodyOf Try.f38)) 2
noncomputable def c38_3 : Code := itemAt (flat (bodyOf Try.f38)) 3
noncomputable def c38_4 : Code := itemAt (flat (bodyOf Try.f38)) 4
noncomputable def c38_5 : Code := itemAt (flat (bodyOf Try.f38)) 5
noncomputable def c38_6 : Code := itemAt (flat (bodyOf Try.f38)) 6
noncomputable def c38_7 : Code := itemAt (flat (bodyOf Try.f38)) 7
noncomputable def c38_8 : Code := itemAt (flat (bodyOf Try.f38)) 8
noncomputable def c38_9 : Code := itemAt (flat (bodyOf Try.f38)) 9
noncomputable def c38_10 : Code := itemAt (flat (bodyOf Try.f38)) 10
noncomputable def c38_11 : Code := itemAt (flat (bodyOf Try.f38)) 11
noncomputable def c38_12 : Code := itemAt (flat (bodyOf Try.f38)) 12
noncomputable def c38_13 : Code := itemAt (flat (bodyOf Try.f38)) 13
noncomputable def c38_14 : Code := itemAt (flat (bodyOf Try.f38)) 14
noncomputable def c38_15 : Code := itemAt (flat (bodyOf Try.f38)) 15
noncomputable def c38_16 : Code := itemAt (flat (bodyOf Try.f38)) 16
noncomputable def c38_17 : Code := itemAt (flat (bodyOf Try.f38)) 17
noncomputable def c38_15_0 : Code := itemAt (flat (innerC c38_15)) 0
noncomputable def c38_15_0_0 : Code := itemAt (flat (innerC c38_15_0)) 0
noncomputable def c38_15_0_1 : Code := itemAt (flat (innerC c38_15_0)) 1
noncomputable def c38_15_0_2 : Code := itemAt (flat (innerC c38_15_0)) 2
noncomputable def c38_15_0_3 : Code := itemAt (flat (innerC c38_15_0)) 3
noncomputable def c38_15_0_2_0 : Code := itemAt (flat (innerC c38_15_0_2)) 0
noncomputable def c38_15_0_2_1 : Code := itemAt (flat (innerC c38_15_0_2)) 1
noncomputable def c38_15_0_2_2 : Code := itemAt (flat (innerC c38_15_0_2)) 2
noncomputable def c38_15_0_2_3 : Code := itemAt (flat (innerC c38_15_0_2)) 3
noncomputable def c38_15_0_2_4 : Code := itemAt (flat (innerC c38_15_0_2)) 4
noncomputable def c38_15_0_2_5 : Code := itemAt (flat (innerC c38_15_0_2)) 5
noncomputable def c38_15_0_2_6 : Code := itemAt (flat (innerC c38_15_0_2)) 6
noncomputable def c38_15_0_2_7 : Code := itemAt (flat (innerC c38_15_0_2)) 7
noncomputable def c38_15_0_2_8 : Code := itemAt (flat (innerC c38_15_0_2)) 8
noncomputable def c38_15_0_2_9 : Code := itemAt (flat (innerC c38_15_0_2)) 9
noncomputable def c38_15_0_2_10 : Code := itemAt (flat (innerC c38_15_0_2)) 10
noncomputable def c38_15_0_2_10_0 : Code := itemAt (flat (innerC c38_15_0_2_10)) 0
noncomputable def c38_15_0_2_10_0_0 : Code := itemAt (flat (innerC c38_15_0_2_10_0)) 0
noncomputable def c38_15_0_2_10_0_1 : Code := itemAt (flat (innerC c38_15_0_2_10_0)) 1
noncomputable def c38_15_0_2_10_0_2 : Code := itemAt (flat (innerC c38_15_0_2_10_0)) 2
noncomputable def c38_15_0_2_10_0_3 : Code := itemAt (flat (innerC c38_15_0_2_10_0)) 3
noncomputable def c38_15_0_2_6_0 : Code := itemAt (flat (innerC c38_15_0_2_6)) 0
noncomputable def c38_15_0_2_6_0_0 : Code := itemAt (flat (innerC c38_15_0_2_6_0)) 0
noncomputable def c38_15_0_2_6_0_1 : Code := itemAt (flat (innerC c38_15_0_2_6_0)) 1
noncomputable def c38_15_0_2_6_0_2 : Code := itemAt (flat (innerC c38_15_0_2_6_0)) 2
noncomputable def c38_15_0_2_6_0_3 : Code := itemAt (flat (innerC c38_15_0_2_6_0)) 3
noncomputable def c38_15_0_2_3_0 : Code := itemAt (flat (innerC c38_15_0_2_3)) 0
noncomputable def c38_15_0_2_3_0_0 : Code := itemAt (flat (innerC c38_15_0_2_3_0)) 0
noncomputable def c38_15_0_2_3_0_1 : Code := itemAt (flat (innerC c38_15_0_2_3_0)) 1
noncomputable def c38_15_0_2_3_0_2 : Code := itemAt (flat (innerC c38_15_0_2_3_0)) 2
noncomputable def c38_15_0_2_3_0_3 : Code := itemAt (flat (innerC c38_15_0_2_3_0)) 3
noncomputable def c38_11_0 : Code := itemAt (flat (innerC c38_11)) 0
noncomputable def c38_11_0_0 : Code := itemAt (flat (innerC c38_11_0)) 0
noncomputable def c38_11_0_1 : Code := itemAt (flat (innerC c38_11_0)) 1
noncomputable def c38_11_0_2 : Code := itemAt (flat (innerC c38_11_0)) 2
noncomputable def c38_11_0_3 : Code := itemAt (flat (innerC c38_11_0)) 3
noncomputable def c38_7_0 : Code := itemAt (flat (innerC c38_7)) 0
noncomputable def c38_7_0_0 : Code := itemAt (flat (innerC c38_7_0)) 0
noncomputable def c38_7_0_1 : Code := itemAt (flat (innerC c38_7_0)) 1
noncomputable def c38_7_0_2 : Code := itemAt (flat (innerC c38_7_0)) 2
noncomputable def c38_7_0_3 : Code := itemAt (flat (innerC c38_7_0)) 3
def F38_q1 (R : Rt) : EQ := endQ Try.prog Try.f38.results.toList R
def F38_1 (R : Rt) (l8 : SV) (ds : Ds) (w : World) : Prop :=
 runD Try.prog ds w fun w1 =>
 R (.returned (.tuple #[.slice l8.a l8.len l8.cap, .int .i64 0])) w1
def F38_k2 (R : Rt) : EP := (fun ρ ds w => dSl (ρ 8) fun l8 => F38_1 R l8 ds w)
def F38_q3 (R : Rt) : EQ := (thenQ (F38_k2 R) (F38_q1 R))
def F38_q4 (R : Rt) : EQ := (blockQ 4 (F38_q3 R))
def F38_q5 (R : Rt) (J1 : (SV × Int) → World → Prop) : EQ := (thenQ (fun ρ _ w => dSl (ρ 8) fun l8 => dInt .i64 (ρ 12) fun n12 => J1 (l8, n12) w) (F38_q4 R))
def F38_2 (R : Rt) (J1 : (SV × Int) → World → Prop) (l5 : SV) (l6 : SV) (l8 : SV) (l9 : SV) (m11 : Option Nat) (n12 : Int) (ds : Ds) (w : World) : Prop :=
 J1 (l8, (IntKind.i64.wrap (n12 + 1))) w
def F38_k6 (R : Rt) (J1 : (SV × Int) → World → Prop) : EP := (fun ρ ds w => dSl (ρ 5) fun l5 => dSl (ρ 6) fun l6 => dSl (ρ 8) fun l8 => dSl (ρ 9) fun l9 => dMap (ρ 11) fun m11 => dInt .i64 (ρ 12) fun n12 => F38_2 R J1 l5 l6 l8 l9 m11 n12 ds w)
def F38_q7 (R : Rt) (J1 : (SV × Int) → World → Prop) : EQ := (thenQ (F38_k6 R J1) (F38_q5 R J1))
def F38_q8 (R : Rt) (J1 : (SV × Int) → World → Prop) : EQ := (blockQ 5 (F38_q7 R J1))
def F38_q9 (R : Rt) (J1 : (SV × Int) → World → Prop) : EQ := (blockQ 10 (F38_q8 R J1))
def F38_q10 (R : Rt) (J1 : (SV × Int) → World → Prop) (J2 : (Int) → World → Prop) : EQ := (thenQ (fun ρ _ w => dInt .i64 (ρ 19) fun n19 => J2 n19 w) (F38_q9 R J1))
def F38_3 (R : Rt) (J1 : (SV × Int) → World → Prop) (J2 : (Int) → World → Prop) (l5 : SV) (l6 : SV) (l8 : SV) (l9 : SV) (m11 : Option Nat) (n12 : Int) (l14 : SV) (n19 : Int) (ds : Ds) (w : World) : Prop :=
 Br (decide (n19 < ((l14.len : Nat) : Int))) (
 ∃ a2 : Addr, l14.a = some a2 ∧ 0 ≤ n19 ∧ n19 < ((l14.len : Nat) : Int) ∧
 ∃ s164 : ByteArray, w.cell? (a2.add (n19.toNat * 1)) = some (.string s164) ∧
 doE Try.prog (Instr.mapUpdate 82 (.map m11) (.string s164) (.bool true)) w fun w3 =>
 J2 (IntKind.i64.wrap (n19 + 1)) w3) (
 F38_2 R J1 l5 l6 l8 l9 m11 n12 ds w)
def F38_4 (R : Rt) (J1 : (SV × Int) → World → Prop) (l5 : SV) (l6 : SV) (l8 : SV) (l9 : SV) (m11 : Option Nat) (n12 : Int) (l14 : SV) (n19 : Int) (ds : Ds) (w : World) : Prop :=
 loopT (fun (J2 : (Int) → World → Prop) (s : Int) (w : World) => F38_3 R J1 J2 l5 l6 l8 l9 m11 n12 l14 s ds w) n19 w
@[reducible] def F38_5 (R : Rt) (J1 : (SV × Int) → World → Prop) (l5 : SV) (l6 : SV) (l8 : SV) (l9 : SV) (m11 : Option Nat) (n12 : Int) (l14 : SV) (n19 : Int) (ds : Ds) (w : World) : Prop := F38_4 R J1 l5 l6 l8 l9 m11 n12 l14 n19 ds w
def F38_k11 (R : Rt) (J1 : (SV × Int) → World → Prop) : EP := (fun ρ ds w => dSl (ρ 5) fun l5 => dSl (ρ 6) fun l6 => dSl (ρ 8) fun l8 => dSl (ρ 9) fun l9 => dMap (ρ 11) fun m11 => dInt .i64 (ρ 12) fun n12 => dSl (ρ 14) fun l14 => dInt .i64 (ρ 19) fun n19 => F38_5 R J1 l5 l6 l8 l9 m11 n12 l14 n19 ds w)
def F38_6 (R : Rt) (J1 : (SV × Int) → World → Prop) (l5 : SV) (l6 : SV) (l8 : SV) (l9 : SV) (m11 : Option Nat) (n12 : Int) (l14 : SV) (b17 : Bool) (ds : Ds) (w : World) : Prop :=
 ∃ a4 : Addr, l9.a = some a4 ∧ 0 ≤ n12 ∧ n12 < ((l9.len : Nat) : Int) ∧
 ∃ s139 : ByteArray, w.cell? (a4.add (n12.toNat * 1)) = some (.string s139) ∧
 ∃ b140 : Bool, ∃ w5 : World, (Instr.lookup 82 (.map m11) (.string s139) false).run Try.prog w = .ok (.bool b140) w5 ∧
 Br (!b140) (
 Br (decide (((l14.len : Nat) : Int) > 1)) (
 alE (.cells #[.slice l14.a l14.len l14.cap] 23) w5 fun r152 w6 =>
 ∃ l153 : SV, ∃ w7 : World, (Builtin.append_ #[31, 31] 31 #[.slice l8.a l8.len l8.cap, .slice (some ⟨r152, 0, none⟩) 1 1]).run Try.prog w6 = .ok (.slice l153.a l153.len l153.cap) w7 ∧
 F38_5 R J1 l5 l6 l153 l9 m11 n12 l14 0 ds w7) (
 Br b17 (
 alE (.cells #[.slice l14.a l14.len l14.cap] 23) w5 fun r152 w8 =>
 ∃ l153 : SV, ∃ w9 : World, (Builtin.append_ #[31, 31] 31 #[.slice l8.a l8.len l8.cap, .slice (some ⟨r152, 0, none⟩) 1 1]).run Try.prog w8 = .ok (.slice l153.a l153.len l153.cap) w9 ∧
 F38_5 R J1 l5 l6 l153 l9 m11 n12 l14 0 ds w9) (
 F38_5 R J1 l5 l6 l8 l9 m11 n12 l14 0 ds w5))) (
 F38_5 R J1 l5 l6 l8 l9 m11 n12 l14 0 ds w5)
def F38_k12 (R : Rt) (J1 : (SV × Int) → World → Prop) : EP := (fun ρ ds w => dSl (ρ 5) fun l5 => dSl (ρ 6) fun l6 => dSl (ρ 8) fun l8 => dSl (ρ 9) fun l9 => dMap (ρ 11) fun m11 => dInt .i64 (ρ 12) fun n12 => dSl (ρ 14) fun l14 => dBl (ρ 17) fun b17 => F38_6 R J1 l5 l6 l8 l9 m11 n12 l14 b17 ds w)
def F38_q13 (R : Rt) (J1 : (SV × Int) → World → Prop) : EQ := (thenQ (F38_k12 R J1) (F38_q8 R J1))
def F38_q14 (R : Rt) (J1 : (SV × Int) → World → Prop) : EQ := (blockQ 8 (F38_q13 R J1))
def F38_q15 (R : Rt) (J1 : (SV × Int) → World → Prop) (J2 : (Bool × Int) → World → Prop) : EQ := (thenQ (fun ρ _ w => dBl (ρ 17) fun b17 => dInt .i64 (ρ 18) fun n18 => J2 (b17, n18) w) (F38_q14 R J1))
def F38_7 (R : Rt) (J1 : (SV × Int) → World → Prop) (J2 : (Bool × Int) → World → Prop) (l5 : SV) (l6 : SV) (l8 : SV) (l9 : SV) (m11 : Option Nat) (n12 : Int) (n13 : Int) (l14 : SV) (b17 : Bool) (n18 : Int) (ds : Ds) (w : World) : Prop :=
 ∃ a10 : Addr, l5.a = some a10 ∧ 0 ≤ n13 ∧ n13 < ((l5.len : Nat) : Int) ∧
 ∃ l114 : SV, w.cell? ((a10.add (n13.toNat * 4)).add 3) = some (.slice l114.a l114.len l114.cap) ∧
 Br (decide (n18 < ((l114.len : Nat) : Int))) (
 dwE w fun w11 =>
 Br b17 (
 J2 (true, (IntKind.i64.wrap (n18 + 1))) w11) (
 ∃ a12 : Addr, l5.a = some a12 ∧ 0 ≤ n13 ∧ n13 < ((l5.len : Nat) : Int) ∧
 ∃ l125 : SV, w11.cell? ((a12.add (n13.toNat * 4)).add 3) = some (.slice l125.a l125.len l125.cap) ∧
 ∃ a13 : Addr, l125.a = some a13 ∧ 0 ≤ n18 ∧ n18 < ((l125.len : Nat) : Int) ∧
 ∃ s128 : ByteArray, w11.cell? (a13.add (n18.toNat * 1)) = some (.string s128) ∧
 ∃ a14 : Addr, l9.a = some a14 ∧ 0 ≤ n12 ∧ n12 < ((l9.len : Nat) : Int) ∧
 ∃ s132 : ByteArray, w11.cell? (a14.add (n12.toNat * 1)) = some (.string s132) ∧
 J2 ((s128.toList == s132.toList), (IntKind.i64.wrap (n18 + 1))) w11)) (
 F38_6 R J1 l5 l6 l8 l9 m11 n12 l14 b17 ds w)
def F38_8 (R : Rt) (J1 : (SV × Int) → World → Prop) (l5 : SV) (l6 : SV) (l8 : SV) (l9 : SV) (m11 : Option Nat) (n12 : Int) (n13 : Int) (l14 : SV) (b17 : Bool) (n18 : Int) (ds : Ds) (w : World) : Prop :=
 loopT (fun (J2 : (Bool × Int) → World → Prop) (s : Bool × Int) (w : World) => F38_7 R J1 J2 l5 l6 l8 l9 m11 n12 n13 l14 s.1 s.2 ds w) (b17, n18) w
@[reducible] def F38_9 (R : Rt) (J1 : (SV × Int) → World → Prop) (l5 : SV) (l6 : SV) (l8 : SV) (l9 : SV) (m11 : Option Nat) (n12 : Int) (n13 : Int) (l14 : SV) (b17 : Bool) (n18 : Int) (ds : Ds) (w : World) : Prop := F38_8 R J1 l5 l6 l8 l9 m11 n12 n13 l14 b17 n18 ds w
def F38_k16 (R : Rt) (J1 : (SV × Int) → World → Prop) : EP := (fun ρ ds w => dSl (ρ 5) fun l5 => dSl (ρ 6) fun l6 => dSl (ρ 8) fun l8 => dSl (ρ 9) fun l9 => dMap (ρ 11) fun m11 => dInt .i64 (ρ 12) fun n12 => dInt .i64 (ρ 13) fun n13 => dSl (ρ 14) fun l14 => dBl (ρ 17) fun b17 => dInt .i64 (ρ 18) fun n18 => F38_9 R J1 l5 l6 l8 l9 m11 n12 n13 l14 b17 n18 ds w)
def F38_10 (R : Rt) (J1 : (SV × Int) → World → Prop) (l5 : SV) (l6 : SV) (l8 : SV) (l9 : SV) (m11 : Option Nat) (n12 : Int) (n13 : Int) (l14 : SV) (ds : Ds) (w : World) : Prop :=
 F38_9 R J1 l5 l6 l8 l9 m11 n12 n13 l14 false 0 ds w
def F38_k17 (R : Rt) (J1 : (SV × Int) → World → Prop) : EP := (fun ρ ds w => dSl (ρ 5) fun l5 => dSl (ρ 6) fun l6 => dSl (ρ 8) fun l8 => dSl (ρ 9) fun l9 => dMap (ρ 11) fun m11 => dInt .i64 (ρ 12) fun n12 => dInt .i64 (ρ 13) fun n13 => dSl (ρ 14) fun l14 => F38_10 R J1 l5 l6 l8 l9 m11 n12 n13 l14 ds w)
def F38_q18 (R : Rt) (J1 : (SV × Int) → World → Prop) : EQ := (thenQ (F38_k17 R J1) (F38_q8 R J1))
def F38_q19 (R : Rt) (J1 : (SV × Int) → World → Prop) : EQ := (blockQ 6 (F38_q18 R J1))
def F38_q20 (R : Rt) (J1 : (SV × Int) → World → Prop) (J2 : (SV × Int) → World → Prop) : EQ := (thenQ (fun ρ _ w => dSl (ρ 14) fun l14 => dInt .i64 (ρ 15) fun n15 => J2 (l14, n15) w) (F38_q19 R J1))
def F38_11 (R : Rt) (J1 : (SV × Int) → World → Prop) (J2 : (SV × Int) → World → Prop) (l5 : SV) (l6 : SV) (l8 : SV) (l9 : SV) (m11 : Option Nat) (n12 : Int) (n13 : Int) (l14 : SV) (n15 : Int) (ds : Ds) (w : World) : Prop :=
 Br (decide (n15 < ((l9.len : Nat) : Int))) (
 ∃ a15 : Addr, l9.a = some a15 ∧ 0 ≤ n15 ∧ n15 < ((l9.len : Nat) : Int) ∧
 ∃ s84 : ByteArray, w.cell? (a15.add (n15.toNat * 1)) = some (.string s84) ∧
 Calls Try.prog 52 #[.slice l5.a l5.len l5.cap, .string s84] w fun e w16 =>
 ∃ n85 : Int, e = .returned (.int .i64 n85) ∧
 ∃ a17 : Addr, l6.a = some a17 ∧ 0 ≤ n13 ∧ n13 < ((l6.len : Nat) : Int) ∧
 ∃ l89 : SV, w16.cell? (a17.add (n13.toNat * 1)) = some (.slice l89.a l89.len l89.cap) ∧
 ∃ a18 : Addr, l89.a = some a18 ∧ 0 ≤ n85 ∧ n85 < ((l89.len : Nat) : Int) ∧
 ∃ b92 : Bool, w16.cell? (a18.add (n85.toNat * 1)) = some (.bool b92) ∧
 Br b92 (
 ∃ a19 : Addr, l6.a = some a19 ∧ 0 ≤ n85 ∧ n85 < ((l6.len : Nat) : Int) ∧
 ∃ l97 : SV, w16.cell? (a19.add (n85.toNat * 1)) = some (.slice l97.a l97.len l97.cap) ∧
 ∃ a20 : Addr, l97.a = some a20 ∧ 0 ≤ n13 ∧ n13 < ((l97.len : Nat) : Int) ∧
 ∃ b100 : Bool, w16.cell? (a20.add (n13.toNat * 1)) = some (.bool b100) ∧
 Br b100 (
 ∃ a21 : Addr, l9.a = some a21 ∧ 0 ≤ n15 ∧ n15 < ((l9.len : Nat) : Int) ∧
 ∃ s106 : ByteArray, w16.cell? (a21.add (n15.toNat * 1)) = some (.string s106) ∧
 alE (.cells #[.string s106] 9) w16 fun r107 w22 =>
 ∃ l108 : SV, ∃ w23 : World, (Builtin.append_ #[23, 23] 23 #[.slice l14.a l14.len l14.cap, .slice (some ⟨r107, 0, none⟩) 1 1]).run Try.prog w22 = .ok (.slice l108.a l108.len l108.cap) w23 ∧
 J2 (l108, (IntKind.i64.wrap (n15 + 1))) w23) (
 J2 (l14, (IntKind.i64.wrap (n15 + 1))) w16)) (
 J2 (l14, (IntKind.i64.wrap (n15 + 1))) w16)) (
 F38_10 R J1 l5 l6 l8 l9 m11 n12 n13 l14 ds w)
def F38_12 (R : Rt) (J1 : (SV × Int) → World → Prop) (l5 : SV) (l6 : SV) (l8 : SV) (l9 : SV) (m11 : Option Nat) (n12 : Int) (n13 : Int) (l14 : SV) (n15 : Int) (ds : Ds) (w : World) : Prop :=
 loopT (fun (J2 : (SV × Int) → World → Prop) (s : SV × Int) (w : World) => F38_11 R J1 J2 l5 l6 l8 l9 m11 n12 n13 s.1 s.2 ds w) (l14, n15) w
@[reducible] def F38_13 (R : Rt) (J1 : (SV × Int) → World → Prop) (l5 : SV) (l6 : SV) (l8 : SV) (l9 : SV) (m11 : Option Nat) (n12 : Int) (n13 : Int) (l14 : SV) (n15 : Int) (ds : Ds) (w : World) : Prop := F38_12 R J1 l5 l6 l8 l9 m11 n12 n13 l14 n15 ds w
def F38_k21 (R : Rt) (J1 : (SV × Int) → World → Prop) : EP := (fun ρ ds w => dSl (ρ 5) fun l5 => dSl (ρ 6) fun l6 => dSl (ρ 8) fun l8 => dSl (ρ 9) fun l9 => dMap (ρ 11) fun m11 => dInt .i64 (ρ 12) fun n12 => dInt .i64 (ρ 13) fun n13 => dSl (ρ 14) fun l14 => dInt .i64 (ρ 15) fun n15 => F38_13 R J1 l5 l6 l8 l9 m11 n12 n13 l14 n15 ds w)
def F38_14 (R : Rt) (J1 : (SV × Int) → World → Prop) (l5 : SV) (l6 : SV) (l8 : SV) (l9 : SV) (m11 : Option Nat) (n12 : Int) (ds : Ds) (w : World) : Prop :=
 ∃ a24 : Addr, l9.a = some a24 ∧ 0 ≤ n12 ∧ n12 < ((l9.len : Nat) : Int) ∧
 ∃ s72 : ByteArray, w.cell? (a24.add (n12.toNat * 1)) = some (.string s72) ∧
 Calls Try.prog 52 #[.slice l5.a l5.len l5.cap, .string s72] w fun e w25 =>
 ∃ n73 : Int, e = .returned (.int .i64 n73) ∧
 F38_13 R J1 l5 l6 l8 l9 m11 n12 n73 ⟨none, 0, 0⟩ 0 ds w25
@[reducible] def F38_15 (R : Rt) (J1 : (SV × Int) → World → Prop) (l5 : SV) (l6 : SV) (l8 : SV) (l9 : SV) (m11 : Option Nat) (n12 : Int) (ds : Ds) (w : World) : Prop := F38_14 R J1 l5 l6 l8 l9 m11 n12 ds w
def F38_k22 (R : Rt) (J1 : (SV × Int) → World → Prop) : EP := (fun ρ ds w => dSl (ρ 5) fun l5 => dSl (ρ 6) fun l6 => dSl (ρ 8) fun l8 => dSl (ρ 9) fun l9 => dMap (ρ 11) fun m11 => dInt .i64 (ρ 12) fun n12 => F38_15 R J1 l5 l6 l8 l9 m11 n12 ds w)
def F38_16 (R : Rt) (J1 : (SV × Int) → World → Prop) (l5 : SV) (l6 : SV) (l8 : SV) (l9 : SV) (m11 : Option Nat) (n12 : Int) (ds : Ds) (w : World) : Prop :=
 Br (decide (n12 < ((l9.len : Nat) : Int))) (
 F38_15 R J1 l5 l6 l8 l9 m11 n12 ds w) (
 F38_1 R l8 ds w)
def F38_17 (R : Rt) (l5 : SV) (l6 : SV) (l8 : SV) (l9 : SV) (m11 : Option Nat) (n12 : Int) (ds : Ds) (w : World) : Prop :=
 loopT (fun (J1 : (SV × Int) → World → Prop) (s : SV × Int) (w : World) => F38_16 R J1 l5 l6 s.1 l9 m11 s.2 ds w) (l8, n12) w
@[reducible] def F38_18 (R : Rt) (l5 : SV) (l6 : SV) (l8 : SV) (l9 : SV) (m11 : Option Nat) (n12 : Int) (ds : Ds) (w : World) : Prop := F38_17 R l5 l6 l8 l9 m11 n12 ds w
def F38_k23 (R : Rt) : EP := (fun ρ ds w => dSl (ρ 5) fun l5 => dSl (ρ 6) fun l6 => dSl (ρ 8) fun l8 => dSl (ρ 9) fun l9 => dMap (ρ 11) fun m11 => dInt .i64 (ρ 12) fun n12 => F38_18 R l5 l6 l8 l9 m11 n12 ds w)
def F38_19 (R : Rt) (l5 : SV) (l6 : SV) (l8 : SV) (l9 : SV) (ds : Ds) (w : World) : Prop :=
 Calls Try.prog 68 #[.slice l9.a l9.len l9.cap] w fun e w26 =>
 ∃ l60 : SV, e = .returned (.slice l60.a l60.len l60.cap) ∧
 alE (.map #[] 0) w26 fun r61 w27 =>
 F38_18 R l5 l6 l8 l60 (some r61) 0 ds w27
def F38_k24 (R : Rt) : EP := (fun ρ ds w => dSl (ρ 5) fun l5 => dSl (ρ 6) fun l6 => dSl (ρ 8) fun l8 => dSl (ρ 9) fun l9 => F38_19 R l5 l6 l8 l9 ds w)
def F38_q25 (R : Rt) : EQ := (thenQ (F38_k24 R) (F38_q1 R))
def F38_q26 (R : Rt) : EQ := (blockQ 2 (F38_q25 R))
def F38_q27 (R : Rt) (J1 : (Int) → World → Prop) : EQ := (thenQ (fun ρ _ w => dInt .i64 (ρ 10) fun n10 => J1 n10 w) (F38_q26 R))
def F38_20 (R : Rt) (J1 : (Int) → World → Prop) (l5 : SV) (l6 : SV) (l8 : SV) (l9 : SV) (n10 : Int) (ds : Ds) (w : World) : Prop :=
 Br (decide (n10 < ((l5.len : Nat) : Int))) (
 ∃ a28 : Addr, l5.a = some a28 ∧ 0 ≤ n10 ∧ n10 < ((l5.len : Nat) : Int) ∧
 ∃ s57 : ByteArray, w.cell? (a28.add (n10.toNat * 4)) = some (.string s57) ∧
 ∃ a29 : Addr, l9.a = some a29 ∧ 0 ≤ n10 ∧ n10 < ((l9.len : Nat) : Int) ∧
 st1 (a29.add (n10.toNat * 1)) (.string s57) w fun w30 =>
 J1 (IntKind.i64.wrap (n10 + 1)) w30) (
 F38_19 R l5 l6 l8 l9 ds w)
def F38_21 (R : Rt) (l5 : SV) (l6 : SV) (l8 : SV) (l9 : SV) (n10 : Int) (ds : Ds) (w : World) : Prop :=
 loopT (fun (J1 : (Int) → World → Prop) (s : Int) (w : World) => F38_20 R J1 l5 l6 l8 l9 s ds w) n10 w
@[reducible] def F38_22 (R : Rt) (l5 : SV) (l6 : SV) (l8 : SV) (l9 : SV) (n10 : Int) (ds : Ds) (w : World) : Prop := F38_21 R l5 l6 l8 l9 n10 ds w
def F38_k28 (R : Rt) : EP := (fun ρ ds w => dSl (ρ 5) fun l5 => dSl (ρ 6) fun l6 => dSl (ρ 8) fun l8 => dSl (ρ 9) fun l9 => dInt .i64 (ρ 10) fun n10 => F38_22 R l5 l6 l8 l9 n10 ds w)
def F38_23 (R : Rt) (l5 : SV) (l6 : SV) (ds : Ds) (w : World) : Prop :=
 ∃ l44 : SV, ∃ w31 : World, (Instr.makeSlice 23 (.int .i64 ((l5.len : Nat) : Int)) (.int .i64 ((l5.len : Nat) : Int))).run Try.prog w = .ok (.slice l44.a l44.len l44.cap) w31 ∧
 F38_22 R l5 l6 ⟨none, 0, 0⟩ l44 0 ds w31
def F38_k29 (R : Rt) : EP := (fun ρ ds w => dSl (ρ 5) fun l5 => dSl (ρ 6) fun l6 => F38_23 R l5 l6 ds w)
def F38_q30 (R : Rt) : EQ := (thenQ (F38_k29 R) (F38_q1 R))
def F38_q31 (R : Rt) : EQ := (blockQ 0 (F38_q30 R))
def F38_q32 (R : Rt) (J1 : (Int) → World → Prop) : EQ := (thenQ (fun ρ _ w => dInt .i64 (ρ 7) fun n7 => J1 n7 w) (F38_q31 R))
def F38_24 (R : Rt) (J1 : (Int) → World → Prop) (l5 : SV) (l6 : SV) (n7 : Int) (ds : Ds) (w : World) : Prop :=
 Br (decide (n7 < ((l5.len : Nat) : Int))) (
 Calls Try.prog 67 #[.slice l5.a l5.len l5.cap, .int .i64 n7] w fun e w32 =>
 ∃ l40 : SV, e = .returned (.slice l40.a l40.len l40.cap) ∧
 ∃ a33 : Addr, l6.a = some a33 ∧ 0 ≤ n7 ∧ n7 < ((l6.len : Nat) : Int) ∧
 st1 (a33.add (n7.toNat * 1)) (.slice l40.a l40.len l40.cap) w32 fun w34 =>
 J1 (IntKind.i64.wrap (n7 + 1)) w34) (
 F38_23 R l5 l6 ds w)
def F38_25 (R : Rt) (l5 : SV) (l6 : SV) (n7 : Int) (ds : Ds) (w : World) : Prop :=
 loopT (fun (J1 : (Int) → World → Prop) (s : Int) (w : World) => F38_24 R J1 l5 l6 s ds w) n7 w
@[reducible] def F38_26 (R : Rt) (l5 : SV) (l6 : SV) (n7 : Int) (ds : Ds) (w : World) : Prop := F38_25 R l5 l6 n7 ds w
def F38_k33 (R : Rt) : EP := (fun ρ ds w => dSl (ρ 5) fun l5 => dSl (ρ 6) fun l6 => dInt .i64 (ρ 7) fun n7 => F38_26 R l5 l6 n7 ds w)
def F38_27 (R : Rt) (l0 : SV) (ds : Ds) (w : World) : Prop :=
 Calls Try.prog 63 #[.slice l0.a l0.len l0.cap] w fun e w35 =>
 ∃ n21 : Int, e = .returned (.int .i64 n21) ∧
 Br (n21 != 0) (
 runD Try.prog ds w35 fun w36 =>
 R (.returned (.tuple #[.slice none 0 0, .int .i64 n21])) w36) (
 Calls Try.prog 59 #[.slice l0.a l0.len l0.cap] w35 fun e w37 =>
 ∃ l26 : SV, e = .returned (.slice l26.a l26.len l26.cap) ∧
 ∃ l29 : SV, ∃ w38 : World, (Instr.makeSlice 98 (.int .i64 ((l26.len : Nat) : Int)) (.int .i64 ((l26.len : Nat) : Int))).run Try.prog w37 = .ok (.slice l29.a l29.len l29.cap) w38 ∧
 F38_26 R l26 l29 0 ds w38)
theorem c38_l : flat (bodyOf Try.f38) = [c38_0, c38_1, c38_2, c38_3, c38_4, c38_5, c38_6, c38_7, c38_8, c38_9, c38_10, c38_11, c38_12, c38_13, c38_14, c38_15, c38_16, c38_17] := by kernel_rfl
theorem c38_15_l : flat (innerC c38_15) = [c38_15_0] := by kernel_rfl
theorem c38_15_0_l : flat (innerC c38_15_0) = [c38_15_0_0, c38_15_0_1, c38_15_0_2, c38_15_0_3] := by kernel_rfl
theorem c38_15_0_2_l : flat (innerC c38_15_0_2) = [c38_15_0_2_0, c38_15_0_2_1, c38_15_0_2_2, c38_15_0_2_3, c38_15_0_2_4, c38_15_0_2_5, c38_15_0_2_6, c38_15_0_2_7, c38_15_0_2_8, c38_15_0_2_9, c38_15_0_2_10] := by kernel_rfl
theorem c38_15_0_2_10_l : flat (innerC c38_15_0_2_10) = [c38_15_0_2_10_0] := by kernel_rfl
theorem c38_15_0_2_10_0_l : flat (innerC c38_15_0_2_10_0) = [c38_15_0_2_10_0_0, c38_15_0_2_10_0_1, c38_15_0_2_10_0_2, c38_15_0_2_10_0_3] := by kernel_rfl
theorem c38_15_0_2_6_l : flat (innerC c38_15_0_2_6) = [c38_15_0_2_6_0] := by kernel_rfl
theorem c38_15_0_2_6_0_l : flat (innerC c38_15_0_2_6_0) = [c38_15_0_2_6_0_0, c38_15_0_2_6_0_1, c38_15_0_2_6_0_2, c38_15_0_2_6_0_3] := by kernel_rfl
theorem c38_15_0_2_3_l : flat (innerC c38_15_0_2_3) = [c38_15_0_2_3_0] := by kernel_rfl
theorem c38_15_0_2_3_0_l : flat (innerC c38_15_0_2_3_0) = [c38_15_0_2_3_0_0, c38_15_0_2_3_0_1, c38_15_0_2_3_0_2, c38_15_0_2_3_0_3] := by kernel_rfl
theorem c38_11_l : flat (innerC c38_11) = [c38_11_0] := by kernel_rfl
theorem c38_11_0_l : flat (innerC c38_11_0) = [c38_11_0_0, c38_11_0_1, c38_11_0_2, c38_11_0_3] := by kernel_rfl
theorem c38_7_l : flat (innerC c38_7) = [c38_7_0] := by kernel_rfl
theorem c38_7_0_l : flat (innerC c38_7_0) = [c38_7_0_0, c38_7_0_1, c38_7_0_2, c38_7_0_3] := by kernel_rfl
theorem F38_1_ok (R : Rt) (l8 : SV) (ds : Ds) (w : World) (ρ : Env) (e8 : ρ 8 = .slice l8.a l8.len l8.cap) (h : F38_1 R l8 ds w) :
    TrL Try.prog Try.f38.ntmps [c38_16, c38_17] (F38_q1 R) ρ ds w :=
  TrL_leaf (X := F38_1 R l8 ds w) (setAll_cons e8 setAll_nil) (by kernel_rfl) (by kernel_rfl) h
theorem F38_2_ok (R : Rt) (J1 : (SV × Int) → World → Prop) (l5 : SV) (l6 : SV) (l8 : SV) (l9 : SV) (m11 : Option Nat) (n12 : Int) (ds : Ds) (w : World) (ρ : Env) (e5 : ρ 5 = .slice l5.a l5.len l5.cap) (e6 : ρ 6 = .slice l6.a l6.len l6.cap) (e8 : ρ 8 = .slice l8.a l8.len l8.cap) (e9 : ρ 9 = .slice l9.a l9.len l9.cap) (e11 : ρ 11 = .map m11) (e12 : ρ 12 = .int .i64 n12) (h : F38_2 R J1 l5 l6 l8 l9 m11 n12 ds w) :
    TrL Try.prog Try.f38.ntmps [c38_15_0_3] (F38_q5 R J1) ρ ds w :=
  TrL_leaf (X := F38_2 R J1 l5 l6 l8 l9 m11 n12 ds w) (setAll_cons e5 (setAll_cons e6 (setAll_cons e8 (setAll_cons e9 (setAll_cons e11 (setAll_cons e12 setAll_nil)))))) (by kernel_rfl) (by kernel_rfl) h
theorem F38_3_ok (R : Rt) (J1 : (SV × Int) → World → Prop) (J2 : (Int) → World → Prop) (l5 : SV) (l6 : SV) (l8 : SV) (l9 : SV) (m11 : Option Nat) (n12 : Int) (l14 : SV) (n19 : Int) (ds : Ds) (w : World) (ρ : Env) (e5 : ρ 5 = .slice l5.a l5.len l5.cap) (e6 : ρ 6 = .slice l6.a l6.len l6.cap) (e8 : ρ 8 = .slice l8.a l8.len l8.cap) (e9 : ρ 9 = .slice l9.a l9.len l9.cap) (e11 : ρ 11 = .map m11) (e12 : ρ 12 = .int .i64 n12) (e14 : ρ 14 = .slice l14.a l14.len l14.cap) (e19 : ρ 19 = .int .i64 n19) (h : F38_3 R J1 J2 l5 l6 l8 l9 m11 n12 l14 n19 ds w) :
    TrL Try.prog Try.f38.ntmps [c38_15_0_2_10_0_0, c38_15_0_2_10_0_1, c38_15_0_2_10_0_2, c38_15_0_2_10_0_3] (F38_q10 R J1 J2) ρ ds w :=
  TrL_leaf (X := F38_3 R J1 J2 l5 l6 l8 l9 m11 n12 l14 n19 ds w) (setAll_cons e5 (setAll_cons e6 (setAll_cons e8 (setAll_cons e9 (setAll_cons e11 (setAll_cons e12 (setAll_cons e14 (setAll_cons e19 setAll_nil)))))))) (by kernel_rfl) (by kernel_rfl) h
theorem F38_4_ok (R : Rt) (J1 : (SV × Int) → World → Prop) (l5 : SV) (l6 : SV) (l8 : SV) (l9 : SV) (m11 : Option Nat) (n12 : Int) (l14 : SV) (n19 : Int) (ds : Ds) (w : World) (ρ : Env) (e5 : ρ 5 = .slice l5.a l5.len l5.cap) (e6 : ρ 6 = .slice l6.a l6.len l6.cap) (e8 : ρ 8 = .slice l8.a l8.len l8.cap) (e9 : ρ 9 = .slice l9.a l9.len l9.cap) (e11 : ρ 11 = .map m11) (e12 : ρ 12 = .int .i64 n12) (e14 : ρ 14 = .slice l14.a l14.len l14.cap) (e19 : ρ 19 = .int .i64 n19) (h : F38_4 R J1 l5 l6 l8 l9 m11 n12 l14 n19 ds w) :
    TrL Try.prog Try.f38.ntmps [c38_15_0_2_10_0] (F38_q9 R J1) ρ ds w :=
  TrL_one (Tr_loop' (c := innerC c38_15_0_2_10_0) (σ := Int) (enc := (fun (s : Int) (ρ : Env) => ρ 19 = .int .i64 s)) (D := (fun ρ K => dInt .i64 (ρ 19) fun n19 => K n19)) (F := (fun (J2 : (Int) → World → Prop) (s : Int) (w : World) => F38_3 R J1 J2 l5 l6 l8 l9 m11 n12 l14 s ds w)) (s0 := n19) (by kernel_rfl) c38_15_0_2_10_0_l e19 (by kernel_rfl) (fun ρ K hD => by obtain ⟨n19, e19, hD⟩ := dInt_elim hD; exact ⟨n19, e19, hD⟩)
      (fun J2 s ρ' w' he ha hF => by
      have e19' := he
      exact F38_3_ok R J1 J2 l5 l6 l8 l9 m11 n12 l14 s ds w' ρ' ((ha 5 (by kernel_rfl)).trans e5) ((ha 6 (by kernel_rfl)).trans e6) ((ha 8 (by kernel_rfl)).trans e8) ((ha 9 (by kernel_rfl)).trans e9) ((ha 11 (by kernel_rfl)).trans e11) ((ha 12 (by kernel_rfl)).trans e12) ((ha 14 (by kernel_rfl)).trans e14) e19' hF) h)
theorem F38_5_ok (R : Rt) (J1 : (SV × Int) → World → Prop) (l5 : SV) (l6 : SV) (l8 : SV) (l9 : SV) (m11 : Option Nat) (n12 : Int) (l14 : SV) (n19 : Int) (ds : Ds) (w : World) (ρ : Env) (e5 : ρ 5 = .slice l5.a l5.len l5.cap) (e6 : ρ 6 = .slice l6.a l6.len l6.cap) (e8 : ρ 8 = .slice l8.a l8.len l8.cap) (e9 : ρ 9 = .slice l9.a l9.len l9.cap) (e11 : ρ 11 = .map m11) (e12 : ρ 12 = .int .i64 n12) (e14 : ρ 14 = .slice l14.a l14.len l14.cap) (e19 : ρ 19 = .int .i64 n19) (h : F38_5 R J1 l5 l6 l8 l9 m11 n12 l14 n19 ds w) :
    TrL Try.prog Try.f38.ntmps [c38_15_0_2_10] (F38_q8 R J1) ρ ds w :=
  TrL_one (Tr_block' (c := innerC c38_15_0_2_10) (by kernel_rfl) c38_15_0_2_10_l (F38_4_ok R J1 l5 l6 l8 l9 m11 n12 l14 n19 ds w ρ e5 e6 e8 e9 e11 e12 e14 e19 h))
theorem F38_6_ok (R : Rt) (J1 : (SV × Int) → World → Prop) (l5 : SV) (l6 : SV) (l8 : SV) (l9 : SV) (m11 : Option Nat) (n12 : Int) (l14 : SV) (b17 : Bool) (ds : Ds) (w : World) (ρ : Env) (e5 : ρ 5 = .slice l5.a l5.len l5.cap) (e6 : ρ 6 = .slice l6.a l6.len l6.cap) (e8 : ρ 8 = .slice l8.a l8.len l8.cap) (e9 : ρ 9 = .slice l9.a l9.len l9.cap) (e11 : ρ 11 = .map m11) (e12 : ρ 12 = .int .i64 n12) (e14 : ρ 14 = .slice l14.a l14.len l14.cap) (e17 : ρ 17 = .bool b17) (h : F38_6 R J1 l5 l6 l8 l9 m11 n12 l14 b17 ds w) :
    TrL Try.prog Try.f38.ntmps [c38_15_0_2_7, c38_15_0_2_8, c38_15_0_2_9, c38_15_0_2_10] (F38_q8 R J1) ρ ds w :=
  TrL_piece (pre := [c38_15_0_2_7, c38_15_0_2_8, c38_15_0_2_9]) (K := (F38_k11 R J1)) (X := F38_6 R J1 l5 l6 l8 l9 m11 n12 l14 b17 ds w) (setAll_cons e5 (setAll_cons e6 (setAll_cons e8 (setAll_cons e9 (setAll_cons e11 (setAll_cons e12 (setAll_cons e14 (setAll_cons e17 setAll_nil)))))))) (by kernel_rfl) (by kernel_rfl)
    (fun ρ' ds' w' hD => by
      obtain ⟨l5, e5, hD⟩ := dSl_elim hD; obtain ⟨l6, e6, hD⟩ := dSl_elim hD; obtain ⟨l8, e8, hD⟩ := dSl_elim hD; obtain ⟨l9, e9, hD⟩ := dSl_elim hD; obtain ⟨m11, e11, hD⟩ := dMap_elim hD; obtain ⟨n12, e12, hD⟩ := dInt_elim hD; obtain ⟨l14, e14, hD⟩ := dSl_elim hD; obtain ⟨n19, e19, hD⟩ := dInt_elim hD; exact F38_5_ok R J1 l5 l6 l8 l9 m11 n12 l14 n19 ds' w' ρ' e5 e6 e8 e9 e11 e12 e14 e19 hD) h
theorem F38_7_ok (R : Rt) (J1 : (SV × Int) → World → Prop) (J2 : (Bool × Int) → World → Prop) (l5 : SV) (l6 : SV) (l8 : SV) (l9 : SV) (m11 : Option Nat) (n12 : Int) (n13 : Int) (l14 : SV) (b17 : Bool) (n18 : Int) (ds : Ds) (w : World) (ρ : Env) (e5 : ρ 5 = .slice l5.a l5.len l5.cap) (e6 : ρ 6 = .slice l6.a l6.len l6.cap) (e8 : ρ 8 = .slice l8.a l8.len l8.cap) (e9 : ρ 9 = .slice l9.a l9.len l9.cap) (e11 : ρ 11 = .map m11) (e12 : ρ 12 = .int .i64 n12) (e13 : ρ 13 = .int .i64 n13) (e14 : ρ 14 = .slice l14.a l14.len l14.cap) (e17 : ρ 17 = .bool b17) (e18 : ρ 18 = .int .i64 n18) (h : F38_7 R J1 J2 l5 l6 l8 l9 m11 n12 n13 l14 b17 n18 ds w) :
    TrL Try.prog Try.f38.ntmps [c38_15_0_2_6_0_0, c38_15_0_2_6_0_1, c38_15_0_2_6_0_2, c38_15_0_2_6_0_3] (F38_q15 R J1 J2) ρ ds w :=
  TrL_leaf (X := F38_7 R J1 J2 l5 l6 l8 l9 m11 n12 n13 l14 b17 n18 ds w) (setAll_cons e5 (setAll_cons e6 (setAll_cons e8 (setAll_cons e9 (setAll_cons e11 (setAll_cons e12 (setAll_cons e13 (setAll_cons e14 (setAll_cons e17 (setAll_cons e18 setAll_nil)))))))))) (by kernel_rfl) (by kernel_rfl) h
theorem F38_8_ok (R : Rt) (J1 : (SV × Int) → World → Prop) (l5 : SV) (l6 : SV) (l8 : SV) (l9 : SV) (m11 : Option Nat) (n12 : Int) (n13 : Int) (l14 : SV) (b17 : Bool) (n18 : Int) (ds : Ds) (w : World) (ρ : Env) (e5 : ρ 5 = .slice l5.a l5.len l5.cap) (e6 : ρ 6 = .slice l6.a l6.len l6.cap) (e8 : ρ 8 = .slice l8.a l8.len l8.cap) (e9 : ρ 9 = .slice l9.a l9.len l9.cap) (e11 : ρ 11 = .map m11) (e12 : ρ 12 = .int .i64 n12) (e13 : ρ 13 = .int .i64 n13) (e14 : ρ 14 = .slice l14.a l14.len l14.cap) (e17 : ρ 17 = .bool b17) (e18 : ρ 18 = .int .i64 n18) (h : F38_8 R J1 l5 l6 l8 l9 m11 n12 n13 l14 b17 n18 ds w) :
    TrL Try.prog Try.f38.ntmps [c38_15_0_2_6_0] (F38_q14 R J1) ρ ds w :=
  TrL_one (Tr_loop' (c := innerC c38_15_0_2_6_0) (σ := Bool × Int) (enc := (fun (s : Bool × Int) (ρ : Env) => ρ 17 = .bool s.1 ∧ ρ 18 = .int .i64 s.2)) (D := (fun ρ K => dBl (ρ 17) fun b17 => dInt .i64 (ρ 18) fun n18 => K (b17, n18))) (F := (fun (J2 : (Bool × Int) → World → Prop) (s : Bool × Int) (w : World) => F38_7 R J1 J2 l5 l6 l8 l9 m11 n12 n13 l14 s.1 s.2 ds w)) (s0 := (b17, n18)) (by kernel_rfl) c38_15_0_2_6_0_l ⟨e17, e18⟩ (by kernel_rfl) (fun ρ K hD => by obtain ⟨b17, e17, hD⟩ := dBl_elim hD; obtain ⟨n18, e18, hD⟩ := dInt_elim hD; exact ⟨(b17, n18), ⟨e17, e18⟩, hD⟩)
      (fun J2 s ρ' w' he ha hF => by
      obtain ⟨e17', e18'⟩ := he
      exact F38_7_ok R J1 J2 l5 l6 l8 l9 m11 n12 n13 l14 s.1 s.2 ds w' ρ' ((ha 5 (by kernel_rfl)).trans e5) ((ha 6 (by kernel_rfl)).trans e6) ((ha 8 (by kernel_rfl)).trans e8) ((ha 9 (by kernel_rfl)).trans e9) ((ha 11 (by kernel_rfl)).trans e11) ((ha 12 (by kernel_rfl)).trans e12) ((ha 13 (by kernel_rfl)).trans e13) ((ha 14 (by kernel_rfl)).trans e14) e17' e18' hF) h)
theorem F38_9_ok (R : Rt) (J1 : (SV × Int) → World → Prop) (l5 : SV) (l6 : SV) (l8 : SV) (l9 : SV) (m11 : Option Nat) (n12 : Int) (n13 : Int) (l14 : SV) (b17 : Bool) (n18 : Int) (ds : Ds) (w : World) (ρ : Env) (e5 : ρ 5 = .slice l5.a l5.len l5.cap) (e6 : ρ 6 = .slice l6.a l6.len l6.cap) (e8 : ρ 8 = .slice l8.a l8.len l8.cap) (e9 : ρ 9 = .slice l9.a l9.len l9.cap) (e11 : ρ 11 = .map m11) (e12 : ρ 12 = .int .i64 n12) (e13 : ρ 13 = .int .i64 n13) (e14 : ρ 14 = .slice l14.a l14.len l14.cap) (e17 : ρ 17 = .bool b17) (e18 : ρ 18 = .int .i64 n18) (h : F38_9 R J1 l5 l6 l8 l9 m11 n12 n13 l14 b17 n18 ds w) :
    TrL Try.prog Try.f38.ntmps [c38_15_0_2_6, c38_15_0_2_7, c38_15_0_2_8, c38_15_0_2_9, c38_15_0_2_10] (F38_q8 R J1) ρ ds w :=
  TrL_head (K := (F38_k12 R J1)) (Tr_block' (c := innerC c38_15_0_2_6) (by kernel_rfl) c38_15_0_2_6_l (F38_8_ok R J1 l5 l6 l8 l9 m11 n12 n13 l14 b17 n18 ds w ρ e5 e6 e8 e9 e11 e12 e13 e14 e17 e18 h))
    (fun ρ' ds' w' hD => by
      obtain ⟨l5, e5, hD⟩ := dSl_elim hD; obtain ⟨l6, e6, hD⟩ := dSl_elim hD; obtain ⟨l8, e8, hD⟩ := dSl_elim hD; obtain ⟨l9, e9, hD⟩ := dSl_elim hD; obtain ⟨m11, e11, hD⟩ := dMap_elim hD; obtain ⟨n12, e12, hD⟩ := dInt_elim hD; obtain ⟨l14, e14, hD⟩ := dSl_elim hD; obtain ⟨b17, e17, hD⟩ := dBl_elim hD; exact F38_6_ok R J1 l5 l6 l8 l9 m11 n12 l14 b17 ds' w' ρ' e5 e6 e8 e9 e11 e12 e14 e17 hD)
theorem F38_10_ok (R : Rt) (J1 : (SV × Int) → World → Prop) (l5 : SV) (l6 : SV) (l8 : SV) (l9 : SV) (m11 : Option Nat) (n12 : Int) (n13 : Int) (l14 : SV) (ds : Ds) (w : World) (ρ : Env) (e5 : ρ 5 = .slice l5.a l5.len l5.cap) (e6 : ρ 6 = .slice l6.a l6.len l6.cap) (e8 : ρ 8 = .slice l8.a l8.len l8.cap) (e9 : ρ 9 = .slice l9.a l9.len l9.cap) (e11 : ρ 11 = .map m11) (e12 : ρ 12 = .int .i64 n12) (e13 : ρ 13 = .int .i64 n13) (e14 : ρ 14 = .slice l14.a l14.len l14.cap) (h : F38_10 R J1 l5 l6 l8 l9 m11 n12 n13 l14 ds w) :
    TrL Try.prog Try.f38.ntmps [c38_15_0_2_4, c38_15_0_2_5, c38_15_0_2_6, c38_15_0_2_7, c38_15_0_2_8, c38_15_0_2_9, c38_15_0_2_10] (F38_q8 R J1) ρ ds w :=
  TrL_piece (pre := [c38_15_0_2_4, c38_15_0_2_5]) (K := (F38_k16 R J1)) (X := F38_10 R J1 l5 l6 l8 l9 m11 n12 n13 l14 ds w) (setAll_cons e5 (setAll_cons e6 (setAll_cons e8 (setAll_cons e9 (setAll_cons e11 (setAll_cons e12 (setAll_cons e13 (setAll_cons e14 setAll_nil)))))))) (by kernel_rfl) (by kernel_rfl)
    (fun ρ' ds' w' hD => by
      obtain ⟨l5, e5, hD⟩ := dSl_elim hD; obtain ⟨l6, e6, hD⟩ := dSl_elim hD; obtain ⟨l8, e8, hD⟩ := dSl_elim hD; obtain ⟨l9, e9, hD⟩ := dSl_elim hD; obtain ⟨m11, e11, hD⟩ := dMap_elim hD; obtain ⟨n12, e12, hD⟩ := dInt_elim hD; obtain ⟨n13, e13, hD⟩ := dInt_elim hD; obtain ⟨l14, e14, hD⟩ := dSl_elim hD; obtain ⟨b17, e17, hD⟩ := dBl_elim hD; obtain ⟨n18, e18, hD⟩ := dInt_elim hD; exact F38_9_ok R J1 l5 l6 l8 l9 m11 n12 n13 l14 b17 n18 ds' w' ρ' e5 e6 e8 e9 e11 e12 e13 e14 e17 e18 hD) h
theorem F38_11_ok (R : Rt) (J1 : (SV × Int) → World → Prop) (J2 : (SV × Int) → World → Prop) (l5 : SV) (l6 : SV) (l8 : SV) (l9 : SV) (m11 : Option Nat) (n12 : Int) (n13 : Int) (l14 : SV) (n15 : Int) (ds : Ds) (w : World) (ρ : Env) (e5 : ρ 5 = .slice l5.a l5.len l5.cap) (e6 : ρ 6 = .slice l6.a l6.len l6.cap) (e8 : ρ 8 = .slice l8.a l8.len l8.cap) (e9 : ρ 9 = .slice l9.a l9.len l9.cap) (e11 : ρ 11 = .map m11) (e12 : ρ 12 = .int .i64 n12) (e13 : ρ 13 = .int .i64 n13) (e14 : ρ 14 = .slice l14.a l14.len l14.cap) (e15 : ρ 15 = .int .i64 n15) (h : F38_11 R J1 J2 l5 l6 l8 l9 m11 n12 n13 l14 n15 ds w) :
    TrL Try.prog Try.f38.ntmps [c38_15_0_2_3_0_0, c38_15_0_2_3_0_1, c38_15_0_2_3_0_2, c38_15_0_2_3_0_3] (F38_q20 R J1 J2) ρ ds w :=
  TrL_leaf (X := F38_11 R J1 J2 l5 l6 l8 l9 m11 n12 n13 l14 n15 ds w) (setAll_cons e5 (setAll_cons e6 (setAll_cons e8 (setAll_cons e9 (setAll_cons e11 (setAll_cons e12 (setAll_cons e13 (setAll_cons e14 (setAll_cons e15 setAll_nil))))))))) (by kernel_rfl) (by kernel_rfl) h
theorem F38_12_ok (R : Rt) (J1 : (SV × Int) → World → Prop) (l5 : SV) (l6 : SV) (l8 : SV) (l9 : SV) (m11 : Option Nat) (n12 : Int) (n13 : Int) (l14 : SV) (n15 : Int) (ds : Ds) (w : World) (ρ : Env) (e5 : ρ 5 = .slice l5.a l5.len l5.cap) (e6 : ρ 6 = .slice l6.a l6.len l6.cap) (e8 : ρ 8 = .slice l8.a l8.len l8.cap) (e9 : ρ 9 = .slice l9.a l9.len l9.cap) (e11 : ρ 11 = .map m11) (e12 : ρ 12 = .int .i64 n12) (e13 : ρ 13 = .int .i64 n13) (e14 : ρ 14 = .slice l14.a l14.len l14.cap) (e15 : ρ 15 = .int .i64 n15) (h : F38_12 R J1 l5 l6 l8 l9 m11 n12 n13 l14 n15 ds w) :
    TrL Try.prog Try.f38.ntmps [c38_15_0_2_3_0] (F38_q19 R J1) ρ ds w :=
  TrL_one (Tr_loop' (c := innerC c38_15_0_2_3_0) (σ := SV × Int) (enc := (fun (s : SV × Int) (ρ : Env) => ρ 14 = .slice s.1.a s.1.len s.1.cap ∧ ρ 15 = .int .i64 s.2)) (D := (fun ρ K => dSl (ρ 14) fun l14 => dInt .i64 (ρ 15) fun n15 => K (l14, n15))) (F := (fun (J2 : (SV × Int) → World → Prop) (s : SV × Int) (w : World) => F38_11 R J1 J2 l5 l6 l8 l9 m11 n12 n13 s.1 s.2 ds w)) (s0 := (l14, n15)) (by kernel_rfl) c38_15_0_2_3_0_l ⟨e14, e15⟩ (by kernel_rfl) (fun ρ K hD => by obtain ⟨l14, e14, hD⟩ := dSl_elim hD; obtain ⟨n15, e15, hD⟩ := dInt_elim hD; exact ⟨(l14, n15), ⟨e14, e15⟩, hD⟩)
      (fun J2 s ρ' w' he ha hF => by
      obtain ⟨e14', e15'⟩ := he
      exact F38_11_ok R J1 J2 l5 l6 l8 l9 m11 n12 n13 s.1 s.2 ds w' ρ' ((ha 5 (by kernel_rfl)).trans e5) ((ha 6 (by kernel_rfl)).trans e6) ((ha 8 (by kernel_rfl)).trans e8) ((ha 9 (by kernel_rfl)).trans e9) ((ha 11 (by kernel_rfl)).trans e11) ((ha 12 (by kernel_rfl)).trans e12) ((ha 13 (by kernel_rfl)).trans e13) e14' e15' hF) h)
theorem F38_13_ok (R : Rt) (J1 : (SV × Int) → World → Prop) (l5 : SV) (l6 : SV) (l8 : SV) (l9 : SV) (m11 : Option Nat) (n12 : Int) (n13 : Int) (l14 : SV) (n15 : Int) (ds : Ds) (w : World) (ρ : Env) (e5 : ρ 5 = .slice l5.a l5.len l5.cap) (e6 : ρ 6 = .slice l6.a l6.len l6.cap) (e8 : ρ 8 = .slice l8.a l8.len l8.cap) (e9 : ρ 9 = .slice l9.a l9.len l9.cap) (e11 : ρ 11 = .map m11) (e12 : ρ 12 = .int .i64 n12) (e13 : ρ 13 = .int .i64 n13) (e14 : ρ 14 = .slice l14.a l14.len l14.cap) (e15 : ρ 15 = .int .i64 n15) (h : F38_13 R J1 l5 l6 l8 l9 m11 n12 n13 l14 n15 ds w) :
    TrL Try.prog Try.f38.ntmps [c38_15_0_2_3, c38_15_0_2_4, c38_15_0_2_5, c38_15_0_2_6, c38_15_0_2_7, c38_15_0_2_8, c38_15_0_2_9, c38_15_0_2_10] (F38_q8 R J1) ρ ds w :=
  TrL_head (K := (F38_k17 R J1)) (Tr_block' (c := innerC c38_15_0_2_3) (by kernel_rfl) c38_15_0_2_3_l (F38_12_ok R J1 l5 l6 l8 l9 m11 n12 n13 l14 n15 ds w ρ e5 e6 e8 e9 e11 e12 e13 e14 e15 h))
    (fun ρ' ds' w' hD => by
      obtain ⟨l5, e5, hD⟩ := dSl_elim hD; obtain ⟨l6, e6, hD⟩ := dSl_elim hD; obtain ⟨l8, e8, hD⟩ := dSl_elim hD; obtain ⟨l9, e9, hD⟩ := dSl_elim hD; obtain ⟨m11, e11, hD⟩ := dMap_elim hD; obtain ⟨n12, e12, hD⟩ := dInt_elim hD; obtain ⟨n13, e13, hD⟩ := dInt_elim hD; obtain ⟨l14, e14, hD⟩ := dSl_elim hD; exact F38_10_ok R J1 l5 l6 l8 l9 m11 n12 n13 l14 ds' w' ρ' e5 e6 e8 e9 e11 e12 e13 e14 hD)
theorem F38_14_ok (R : Rt) (J1 : (SV × Int) → World → Prop) (l5 : SV) (l6 : SV) (l8 : SV) (l9 : SV) (m11 : Option Nat) (n12 : Int) (ds : Ds) (w : World) (ρ : Env) (e5 : ρ 5 = .slice l5.a l5.len l5.cap) (e6 : ρ 6 = .slice l6.a l6.len l6.cap) (e8 : ρ 8 = .slice l8.a l8.len l8.cap) (e9 : ρ 9 = .slice l9.a l9.len l9.cap) (e11 : ρ 11 = .map m11) (e12 : ρ 12 = .int .i64 n12) (h : F38_14 R J1 l5 l6 l8 l9 m11 n12 ds w) :
    TrL Try.prog Try.f38.ntmps [c38_15_0_2_0, c38_15_0_2_1, c38_15_0_2_2, c38_15_0_2_3, c38_15_0_2_4, c38_15_0_2_5, c38_15_0_2_6, c38_15_0_2_7, c38_15_0_2_8, c38_15_0_2_9, c38_15_0_2_10] (F38_q8 R J1) ρ ds w :=
  TrL_piece (pre := [c38_15_0_2_0, c38_15_0_2_1, c38_15_0_2_2]) (K := (F38_k21 R J1)) (X := F38_14 R J1 l5 l6 l8 l9 m11 n12 ds w) (setAll_cons e5 (setAll_cons e6 (setAll_cons e8 (setAll_cons e9 (setAll_cons e11 (setAll_cons e12 setAll_nil)))))) (by kernel_rfl) (by kernel_rfl)
    (fun ρ' ds' w' hD => by
      obtain ⟨l5, e5, hD⟩ := dSl_elim hD; obtain ⟨l6, e6, hD⟩ := dSl_elim hD; obtain ⟨l8, e8, hD⟩ := dSl_elim hD; obtain ⟨l9, e9, hD⟩ := dSl_elim hD; obtain ⟨m11, e11, hD⟩ := dMap_elim hD; obtain ⟨n12, e12, hD⟩ := dInt_elim hD; obtain ⟨n13, e13, hD⟩ := dInt_elim hD; obtain ⟨l14, e14, hD⟩ := dSl_elim hD; obtain ⟨n15, e15, hD⟩ := dInt_elim hD; exact F38_13_ok R J1 l5 l6 l8 l9 m11 n12 n13 l14 n15 ds' w' ρ' e5 e6 e8 e9 e11 e12 e13 e14 e15 hD) h
theorem F38_15_ok (R : Rt) (J1 : (SV × Int) → World → Prop) (l5 : SV) (l6 : SV) (l8 : SV) (l9 : SV) (m11 : Option Nat) (n12 : Int) (ds : Ds) (w : World) (ρ : Env) (e5 : ρ 5 = .slice l5.a l5.len l5.cap) (e6 : ρ 6 = .slice l6.a l6.len l6.cap) (e8 : ρ 8 = .slice l8.a l8.len l8.cap) (e9 : ρ 9 = .slice l9.a l9.len l9.cap) (e11 : ρ 11 = .map m11) (e12 : ρ 12 = .int .i64 n12) (h : F38_15 R J1 l5 l6 l8 l9 m11 n12 ds w) :
    TrL Try.prog Try.f38.ntmps [c38_15_0_2, c38_15_0_3] (F38_q5 R J1) ρ ds w :=
  TrL_head (K := (F38_k6 R J1)) (Tr_block' (c := innerC c38_15_0_2) (by kernel_rfl) c38_15_0_2_l (F38_14_ok R J1 l5 l6 l8 l9 m11 n12 ds w ρ e5 e6 e8 e9 e11 e12 h))
    (fun ρ' ds' w' hD => by
      obtain ⟨l5, e5, hD⟩ := dSl_elim hD; obtain ⟨l6, e6, hD⟩ := dSl_elim hD; obtain ⟨l8, e8, hD⟩ := dSl_elim hD; obtain ⟨l9, e9, hD⟩ := dSl_elim hD; obtain ⟨m11, e11, hD⟩ := dMap_elim hD; obtain ⟨n12, e12, hD⟩ := dInt_elim hD; exact F38_2_ok R J1 l5 l6 l8 l9 m11 n12 ds' w' ρ' e5 e6 e8 e9 e11 e12 hD)
theorem F38_16_ok (R : Rt) (J1 : (SV × Int) → World → Prop) (l5 : SV) (l6 : SV) (l8 : SV) (l9 : SV) (m11 : Option Nat) (n12 : Int) (ds : Ds) (w : World) (ρ : Env) (e5 : ρ 5 = .slice l5.a l5.len l5.cap) (e6 : ρ 6 = .slice l6.a l6.len l6.cap) (e8 : ρ 8 = .slice l8.a l8.len l8.cap) (e9 : ρ 9 = .slice l9.a l9.len l9.cap) (e11 : ρ 11 = .map m11) (e12 : ρ 12 = .int .i64 n12) (h : F38_16 R J1 l5 l6 l8 l9 m11 n12 ds w) :
    TrL Try.prog Try.f38.ntmps [c38_15_0_0, c38_15_0_1, c38_15_0_2, c38_15_0_3] (F38_q5 R J1) ρ ds w :=
  TrL_piece (pre := [c38_15_0_0, c38_15_0_1]) (K := (F38_k22 R J1)) (X := F38_16 R J1 l5 l6 l8 l9 m11 n12 ds w) (setAll_cons e5 (setAll_cons e6 (setAll_cons e8 (setAll_cons e9 (setAll_cons e11 (setAll_cons e12 setAll_nil)))))) (by kernel_rfl) (by kernel_rfl)
    (fun ρ' ds' w' hD => by
      obtain ⟨l5, e5, hD⟩ := dSl_elim hD; obtain ⟨l6, e6, hD⟩ := dSl_elim hD; obtain ⟨l8, e8, hD⟩ := dSl_elim hD; obtain ⟨l9, e9, hD⟩ := dSl_elim hD; obtain ⟨m11, e11, hD⟩ := dMap_elim hD; obtain ⟨n12, e12, hD⟩ := dInt_elim hD; exact F38_15_ok R J1 l5 l6 l8 l9 m11 n12 ds' w' ρ' e5 e6 e8 e9 e11 e12 hD) h
theorem F38_17_ok (R : Rt) (l5 : SV) (l6 : SV) (l8 : SV) (l9 : SV) (m11 : Option Nat) (n12 : Int) (ds : Ds) (w : World) (ρ : Env) (e5 : ρ 5 = .slice l5.a l5.len l5.cap) (e6 : ρ 6 = .slice l6.a l6.len l6.cap) (e8 : ρ 8 = .slice l8.a l8.len l8.cap) (e9 : ρ 9 = .slice l9.a l9.len l9.cap) (e11 : ρ 11 = .map m11) (e12 : ρ 12 = .int .i64 n12) (h : F38_17 R l5 l6 l8 l9 m11 n12 ds w) :
    TrL Try.prog Try.f38.ntmps [c38_15_0] (F38_q4 R) ρ ds w :=
  TrL_one (Tr_loop' (c := innerC c38_15_0) (σ := SV × Int) (enc := (fun (s : SV × Int) (ρ : Env) => ρ 8 = .slice s.1.a s.1.len s.1.cap ∧ ρ 12 = .int .i64 s.2)) (D := (fun ρ K => dSl (ρ 8) fun l8 => dInt .i64 (ρ 12) fun n12 => K (l8, n12))) (F := (fun (J1 : (SV × Int) → World → Prop) (s : SV × Int) (w : World) => F38_16 R J1 l5 l6 s.1 l9 m11 s.2 ds w)) (s0 := (l8, n12)) (by kernel_rfl) c38_15_0_l ⟨e8, e12⟩ (by kernel_rfl) (fun ρ K hD => by obtain ⟨l8, e8, hD⟩ := dSl_elim hD; obtain ⟨n12, e12, hD⟩ := dInt_elim hD; exact ⟨(l8, n12), ⟨e8, e12⟩, hD⟩)
      (fun J1 s ρ' w' he ha hF => by
      obtain ⟨e8', e12'⟩ := he
      exact F38_16_ok R J1 l5 l6 s.1 l9 m11 s.2 ds w' ρ' ((ha 5 (by kernel_rfl)).trans e5) ((ha 6 (by kernel_rfl)).trans e6) e8' ((ha 9 (by kernel_rfl)).trans e9) ((ha 11 (by kernel_rfl)).trans e11) e12' hF) h)
theorem F38_18_ok (R : Rt) (l5 : SV) (l6 : SV) (l8 : SV) (l9 : SV) (m11 : Option Nat) (n12 : Int) (ds : Ds) (w : World) (ρ : Env) (e5 : ρ 5 = .slice l5.a l5.len l5.cap) (e6 : ρ 6 = .slice l6.a l6.len l6.cap) (e8 : ρ 8 = .slice l8.a l8.len l8.cap) (e9 : ρ 9 = .slice l9.a l9.len l9.cap) (e11 : ρ 11 = .map m11) (e12 : ρ 12 = .int .i64 n12) (h : F38_18 R l5 l6 l8 l9 m11 n12 ds w) :
    TrL Try.prog Try.f38.ntmps [c38_15, c38_16, c38_17] (F38_q1 R) ρ ds w :=
  TrL_head (K := (F38_k2 R)) (Tr_block' (c := innerC c38_15) (by kernel_rfl) c38_15_l (F38_17_ok R l5 l6 l8 l9 m11 n12 ds w ρ e5 e6 e8 e9 e11 e12 h))
    (fun ρ' ds' w' hD => by
      obtain ⟨l8, e8, hD⟩ := dSl_elim hD; exact F38_1_ok R l8 ds' w' ρ' e8 hD)
theorem F38_19_ok (R : Rt) (l5 : SV) (l6 : SV) (l8 : SV) (l9 : SV) (ds : Ds) (w : World) (ρ : Env) (e5 : ρ 5 = .slice l5.a l5.len l5.cap) (e6 : ρ 6 = .slice l6.a l6.len l6.cap) (e8 : ρ 8 = .slice l8.a l8.len l8.cap) (e9 : ρ 9 = .slice l9.a l9.len l9.cap) (h : F38_19 R l5 l6 l8 l9 ds w) :
    TrL Try.prog Try.f38.ntmps [c38_12, c38_13, c38_14, c38_15, c38_16, c38_17] (F38_q1 R) ρ ds w :=
  TrL_piece (pre := [c38_12, c38_13, c38_14]) (K := (F38_k23 R)) (X := F38_19 R l5 l6 l8 l9 ds w) (setAll_cons e5 (setAll_cons e6 (setAll_cons e8 (setAll_cons e9 setAll_nil)))) (by kernel_rfl) (by kernel_rfl)
    (fun ρ' ds' w' hD => by
      obtain ⟨l5, e5, hD⟩ := dSl_elim hD; obtain ⟨l6, e6, hD⟩ := dSl_elim hD; obtain ⟨l8, e8, hD⟩ := dSl_elim hD; obtain ⟨l9, e9, hD⟩ := dSl_elim hD; obtain ⟨m11, e11, hD⟩ := dMap_elim hD; obtain ⟨n12, e12, hD⟩ := dInt_elim hD; exact F38_18_ok R l5 l6 l8 l9 m11 n12 ds' w' ρ' e5 e6 e8 e9 e11 e12 hD) h
theorem F38_20_ok (R : Rt) (J1 : (Int) → World → Prop) (l5 : SV) (l6 : SV) (l8 : SV) (l9 : SV) (n10 : Int) (ds : Ds) (w : World) (ρ : Env) (e5 : ρ 5 = .slice l5.a l5.len l5.cap) (e6 : ρ 6 = .slice l6.a l6.len l6.cap) (e8 : ρ 8 = .slice l8.a l8.len l8.cap) (e9 : ρ 9 = .slice l9.a l9.len l9.cap) (e10 : ρ 10 = .int .i64 n10) (h : F38_20 R J1 l5 l6 l8 l9 n10 ds w) :
    TrL Try.prog Try.f38.ntmps [c38_11_0_0, c38_11_0_1, c38_11_0_2, c38_11_0_3] (F38_q27 R J1) ρ ds w :=
  TrL_leaf (X := F38_20 R J1 l5 l6 l8 l9 n10 ds w) (setAll_cons e5 (setAll_cons e6 (setAll_cons e8 (setAll_cons e9 (setAll_cons e10 setAll_nil))))) (by kernel_rfl) (by kernel_rfl) h
theorem F38_21_ok (R : Rt) (l5 : SV) (l6 : SV) (l8 : SV) (l9 : SV) (n10 : Int) (ds : Ds) (w : World) (ρ : Env) (e5 : ρ 5 = .slice l5.a l5.len l5.cap) (e6 : ρ 6 = .slice l6.a l6.len l6.cap) (e8 : ρ 8 = .slice l8.a l8.len l8.cap) (e9 : ρ 9 = .slice l9.a l9.len l9.cap) (e10 : ρ 10 = .int .i64 n10) (h : F38_21 R l5 l6 l8 l9 n10 ds w) :
    TrL Try.prog Try.f38.ntmps [c38_11_0] (F38_q26 R) ρ ds w :=
  TrL_one (Tr_loop' (c := innerC c38_11_0) (σ := Int) (enc := (fun (s : Int) (ρ : Env) => ρ 10 = .int .i64 s)) (D := (fun ρ K => dInt .i64 (ρ 10) fun n10 => K n10)) (F := (fun (J1 : (Int) → World → Prop) (s : Int) (w : World) => F38_20 R J1 l5 l6 l8 l9 s ds w)) (s0 := n10) (by kernel_rfl) c38_11_0_l e10 (by kernel_rfl) (fun ρ K hD => by obtain ⟨n10, e10, hD⟩ := dInt_elim hD; exact ⟨n10, e10, hD⟩)
      (fun J1 s ρ' w' he ha hF => by
      have e10' := he
      exact F38_20_ok R J1 l5 l6 l8 l9 s ds w' ρ' ((ha 5 (by kernel_rfl)).trans e5) ((ha 6 (by kernel_rfl)).trans e6) ((ha 8 (by kernel_rfl)).trans e8) ((ha 9 (by kernel_rfl)).trans e9) e10' hF) h)
theorem F38_22_ok (R : Rt) (l5 : SV) (l6 : SV) (l8 : SV) (l9 : SV) (n10 : Int) (ds : Ds) (w : World) (ρ : Env) (e5 : ρ 5 = .slice l5.a l5.len l5.cap) (e6 : ρ 6 = .slice l6.a l6.len l6.cap) (e8 : ρ 8 = .slice l8.a l8.len l8.cap) (e9 : ρ 9 = .slice l9.a l9.len l9.cap) (e10 : ρ 10 = .int .i64 n10) (h : F38_22 R l5 l6 l8 l9 n10 ds w) :
    TrL Try.prog Try.f38.ntmps [c38_11, c38_12, c38_13, c38_14, c38_15, c38_16, c38_17] (F38_q1 R) ρ ds w :=
  TrL_head (K := (F38_k24 R)) (Tr_block' (c := innerC c38_11) (by kernel_rfl) c38_11_l (F38_21_ok R l5 l6 l8 l9 n10 ds w ρ e5 e6 e8 e9 e10 h))
    (fun ρ' ds' w' hD => by
      obtain ⟨l5, e5, hD⟩ := dSl_elim hD; obtain ⟨l6, e6, hD⟩ := dSl_elim hD; obtain ⟨l8, e8, hD⟩ := dSl_elim hD; obtain ⟨l9, e9, hD⟩ := dSl_elim hD; exact F38_19_ok R l5 l6 l8 l9 ds' w' ρ' e5 e6 e8 e9 hD)
theorem F38_23_ok (R : Rt) (l5 : SV) (l6 : SV) (ds : Ds) (w : World) (ρ : Env) (e5 : ρ 5 = .slice l5.a l5.len l5.cap) (e6 : ρ 6 = .slice l6.a l6.len l6.cap) (h : F38_23 R l5 l6 ds w) :
    TrL Try.prog Try.f38.ntmps [c38_8, c38_9, c38_10, c38_11, c38_12, c38_13, c38_14, c38_15, c38_16, c38_17] (F38_q1 R) ρ ds w :=
  TrL_piece (pre := [c38_8, c38_9, c38_10]) (K := (F38_k28 R)) (X := F38_23 R l5 l6 ds w) (setAll_cons e5 (setAll_cons e6 setAll_nil)) (by kernel_rfl) (by kernel_rfl)
    (fun ρ' ds' w' hD => by
      obtain ⟨l5, e5, hD⟩ := dSl_elim hD; obtain ⟨l6, e6, hD⟩ := dSl_elim hD; obtain ⟨l8, e8, hD⟩ := dSl_elim hD; obtain ⟨l9, e9, hD⟩ := dSl_elim hD; obtain ⟨n10, e10, hD⟩ := dInt_elim hD; exact F38_22_ok R l5 l6 l8 l9 n10 ds' w' ρ' e5 e6 e8 e9 e10 hD) h
theorem F38_24_ok (R : Rt) (J1 : (Int) → World → Prop) (l5 : SV) (l6 : SV) (n7 : Int) (ds : Ds) (w : World) (ρ : Env) (e5 : ρ 5 = .slice l5.a l5.len l5.cap) (e6 : ρ 6 = .slice l6.a l6.len l6.cap) (e7 : ρ 7 = .int .i64 n7) (h : F38_24 R J1 l5 l6 n7 ds w) :
    TrL Try.prog Try.f38.ntmps [c38_7_0_0, c38_7_0_1, c38_7_0_2, c38_7_0_3] (F38_q32 R J1) ρ ds w :=
  TrL_leaf (X := F38_24 R J1 l5 l6 n7 ds w) (setAll_cons e5 (setAll_cons e6 (setAll_cons e7 setAll_nil))) (by kernel_rfl) (by kernel_rfl) h
theorem F38_25_ok (R : Rt) (l5 : SV) (l6 : SV) (n7 : Int) (ds : Ds) (w : World) (ρ : Env) (e5 : ρ 5 = .slice l5.a l5.len l5.cap) (e6 : ρ 6 = .slice l6.a l6.len l6.cap) (e7 : ρ 7 = .int .i64 n7) (h : F38_25 R l5 l6 n7 ds w) :
    TrL Try.prog Try.f38.ntmps [c38_7_0] (F38_q31 R) ρ ds w :=
  TrL_one (Tr_loop' (c := innerC c38_7_0) (σ := Int) (enc := (fun (s : Int) (ρ : Env) => ρ 7 = .int .i64 s)) (D := (fun ρ K => dInt .i64 (ρ 7) fun n7 => K n7)) (F := (fun (J1 : (Int) → World → Prop) (s : Int) (w : World) => F38_24 R J1 l5 l6 s ds w)) (s0 := n7) (by kernel_rfl) c38_7_0_l e7 (by kernel_rfl) (fun ρ K hD => by obtain ⟨n7, e7, hD⟩ := dInt_elim hD; exact ⟨n7, e7, hD⟩)
      (fun J1 s ρ' w' he ha hF => by
      have e7' := he
      exact F38_24_ok R J1 l5 l6 s ds w' ρ' ((ha 5 (by kernel_rfl)).trans e5) ((ha 6 (by kernel_rfl)).trans e6) e7' hF) h)
theorem F38_26_ok (R : Rt) (l5 : SV) (l6 : SV) (n7 : Int) (ds : Ds) (w : World) (ρ : Env) (e5 : ρ 5 = .slice l5.a l5.len l5.cap) (e6 : ρ 6 = .slice l6.a l6.len l6.cap) (e7 : ρ 7 = .int .i64 n7) (h : F38_26 R l5 l6 n7 ds w) :
    TrL Try.prog Try.f38.ntmps [c38_7, c38_8, c38_9, c38_10, c38_11, c38_12, c38_13, c38_14, c38_15, c38_16, c38_17] (F38_q1 R) ρ ds w :=
  TrL_head (K := (F38_k29 R)) (Tr_block' (c := innerC c38_7) (by kernel_rfl) c38_7_l (F38_25_ok R l5 l6 n7 ds w ρ e5 e6 e7 h))
    (fun ρ' ds' w' hD => by
      obtain ⟨l5, e5, hD⟩ := dSl_elim hD; obtain ⟨l6, e6, hD⟩ := dSl_elim hD; exact F38_23_ok R l5 l6 ds' w' ρ' e5 e6 hD)
theorem F38_27_ok (R : Rt) (l0 : SV) (ds : Ds) (w : World) (ρ : Env) (e0 : ρ 0 = .slice l0.a l0.len l0.cap) (h : F38_27 R l0 ds w) :
    TrL Try.prog Try.f38.ntmps [c38_0, c38_1, c38_2, c38_3, c38_4, c38_5, c38_6, c38_7, c38_8, c38_9, c38_10, c38_11, c38_12, c38_13, c38_14, c38_15, c38_16, c38_17] (F38_q1 R) ρ ds w :=
  TrL_piece (pre := [c38_0, c38_1, c38_2, c38_3, c38_4, c38_5, c38_6]) (K := (F38_k33 R)) (X := F38_27 R l0 ds w) (setAll_cons e0 setAll_nil) (by kernel_rfl) (by kernel_rfl)
    (fun ρ' ds' w' hD => by
      obtain ⟨l5, e5, hD⟩ := dSl_elim hD; obtain ⟨l6, e6, hD⟩ := dSl_elim hD; obtain ⟨n7, e7, hD⟩ := dInt_elim hD; exact F38_26_ok R l5 l6 n7 ds' w' ρ' e5 e6 e7 hD) h
theorem F38_calls (l0 : SV) (w : World) (R : Rt) (h : F38_27 R l0 [] w) : Calls Try.prog 38 #[.slice l0.a l0.len l0.cap] w R :=
  calls_of_L (l := [c38_0, c38_1, c38_2, c38_3, c38_4, c38_5, c38_6, c38_7, c38_8, c38_9, c38_10, c38_11, c38_12, c38_13, c38_14, c38_15, c38_16, c38_17]) Try.func38 (by kernel_rfl) (by rw [Try.ntmps38]; exact Nat.le_of_ble_eq_true (by kernel_rfl)) c38_l
    (F38_27_ok R l0 [] w _ rfl h)
theorem F38_callsD (l0 : SV) (w : World) (R : Rt) (u : FrameMode) (h : F38_27 R l0 [] w) : CallsD Try.prog 38 #[.slice l0.a l0.len l0.cap] u w fun e u' w' => u' = u ∧ R e w' :=
  callsD_of_L (l := [c38_0, c38_1, c38_2, c38_3, c38_4, c38_5, c38_6, c38_7, c38_8, c38_9, c38_10, c38_11, c38_12, c38_13, c38_14, c38_15, c38_16, c38_17]) Try.func38 (by kernel_rfl) (by rw [Try.ntmps38]; exact Nat.le_of_ble_eq_true (by kernel_rfl)) (by kernel_rfl) c38_l
    (F38_27_ok R l0 [] w _ rfl h) u

/-! function 39: cabinetry/link.Order -/
noncomputable def c39_0 : Code := itemAt (flat (bodyOf Try.f39)) 0
noncomputable def c39_1 : Code := itemAt (flat (bodyOf Try.f39)) 1
noncomputable def c39_2 : Code := itemAt (flat (bodyOf Try.f39)) 2
noncomputable def c39_3 : Code := itemAt (flat (bodyOf Try.f39)) 3
noncomputable def c39_4 : Code := itemAt (flat (bodyOf Try.f39)) 4
noncomputable def c39_5 : Code := itemAt (flat (bodyOf Try.f39)) 5
noncomputable def c39_6 : Code := itemAt (flat (bodyOf Try.f39)) 6
noncomputable def c39_7 : Code := itemAt (flat (bodyOf Try.f39)) 7
noncomputable def c39_8 : Code := itemAt (flat (bodyOf Try.f39)) 8
noncomputable def c39_9 : Code := itemAt (flat (bodyOf Try.f39)) 9
noncomputable def c39_7_0 : Code := itemAt (flat (innerC c39_7)) 0
noncomputable def c39_7_0_0 : Code := itemAt (flat (innerC c39_7_0)) 0
noncomputable def c39_7_0_1 : Code := itemAt (flat (innerC c39_7_0)) 1
noncomputable def c39_7_0_2 : Code := itemAt (flat (innerC c39_7_0)) 2
def F39_q1 (R : Rt) : EQ := endQ Try.prog Try.f39.results.toList R
def F39_1 (R : Rt) (l7 : SV) (ds : Ds) (w : World) : Prop :=
 runD Try.prog ds w fun w1 =>
 R (.returned (.tuple #[.slice l7.a l7.len l7.cap, .bool true, .int .i64 0])) w1
def F39_k2 (R : Rt) : EP := (fun ρ ds w => dSl (ρ 7) fun l7 => F39_1 R l7 ds w)
def F39_q3 (R : Rt) : EQ := (thenQ (F39_k2 R) (F39_q1 R))
def F39_q4 (R : Rt) : EQ := (blockQ 0 (F39_q3 R))
def F39_q5 (R : Rt) (J1 : (SV) → World → Prop) : EQ := (thenQ (fun ρ _ w => dSl (ρ 7) fun l7 => J1 l7 w) (F39_q4 R))
def F39_2 (R : Rt) (J1 : (SV) → World → Prop) (p5 : Option Addr) (l7 : SV) (p8 : Option Addr) (l9 : SV) (ds : Ds) (w : World) : Prop :=
 Br (decide (((l7.len : Nat) : Int) < ((l9.len : Nat) : Int))) (
 Calls Try.prog 78 #[.slice l9.a l9.len l9.cap, .func (.func 79) #[] #[.pointer p8, .pointer p5]] w fun e w2 =>
 ∃ n30 : Int, e = .returned (.int .i64 n30) ∧
 Br (decide (n30 < 0)) (
 runD Try.prog ds w2 fun w3 =>
 R (.returned (.tuple #[.slice none 0 0, .bool false, .int .i64 0])) w3) (
 dwE w2 fun w4 =>
 ptrE p8 fun a5 =>
 ∃ m33 : Option Nat, w4.cell? a5 = some (.map m33) ∧
 ∃ a6 : Addr, l9.a = some a6 ∧ 0 ≤ n30 ∧ n30 < ((l9.len : Nat) : Int) ∧
 ∃ s37 : ByteArray, w4.cell? (a6.add (n30.toNat * 1)) = some (.string s37) ∧
 doE Try.prog (Instr.mapUpdate 82 (.map m33) (.string s37) (.bool true)) w4 fun w7 =>
 ∃ a8 : Addr, l9.a = some a8 ∧ 0 ≤ n30 ∧ n30 < ((l9.len : Nat) : Int) ∧
 ∃ s42 : ByteArray, w7.cell? (a8.add (n30.toNat * 1)) = some (.string s42) ∧
 alE (.cells #[.string s42] 9) w7 fun r43 w9 =>
 ∃ l44 : SV, ∃ w10 : World, (Builtin.append_ #[23, 23] 23 #[.slice l7.a l7.len l7.cap, .slice (some ⟨r43, 0, none⟩) 1 1]).run Try.prog w9 = .ok (.slice l44.a l44.len l44.cap) w10 ∧
 J1 l44 w10)) (
 F39_1 R l7 ds w)
def F39_3 (R : Rt) (p5 : Option Addr) (l7 : SV) (p8 : Option Addr) (l9 : SV) (ds : Ds) (w : World) : Prop :=
 loopT (fun (J1 : (SV) → World → Prop) (s : SV) (w : World) => F39_2 R J1 p5 s p8 l9 ds w) l7 w
@[reducible] def F39_4 (R : Rt) (p5 : Option Addr) (l7 : SV) (p8 : Option Addr) (l9 : SV) (ds : Ds) (w : World) : Prop := F39_3 R p5 l7 p8 l9 ds w
def F39_k6 (R : Rt) : EP := (fun ρ ds w => dPtr (ρ 5) fun p5 => dSl (ρ 7) fun l7 => dPtr (ρ 8) fun p8 => dSl (ρ 9) fun l9 => F39_4 R p5 l7 p8 l9 ds w)
def F39_5 (R : Rt) (l0 : SV) (ds : Ds) (w : World) : Prop :=
 Calls Try.prog 62 #[.slice l0.a l0.len l0.cap] w fun e w11 =>
 ∃ m13_0 : Option Nat, ∃ n13_1 : Int, e = .returned (.tuple #[.map m13_0, .int .i64 n13_1]) ∧
 alE (.cells #[.map none] 57) w11 fun r5 w12 =>
 st1 (⟨r5, 0, none⟩ : Addr) (.map m13_0) w12 fun w13 =>
 Br (n13_1 != 0) (
 runD Try.prog ds w13 fun w14 =>
 R (.returned (.tuple #[.slice none 0 0, .bool false, .int .i64 n13_1])) w14) (
 alE (.map #[] 0) w13 fun r19 w15 =>
 alE (.cells #[.map none] 82) w15 fun r8 w16 =>
 st1 (⟨r8, 0, none⟩ : Addr) (.map (some r19)) w16 fun w17 =>
 ∃ m20 : Option Nat, w17.cell? (⟨r5, 0, none⟩ : Addr) = some (.map m20) ∧
 Calls Try.prog 77 #[.map m20] w17 fun e w18 =>
 ∃ v21 : Value, e = .returned (v21) ∧
 Calls Try.prog 64 #[v21] w18 fun e w19 =>
 ∃ l22 : SV, e = .returned (.slice l22.a l22.len l22.cap) ∧
 F39_4 R (some (⟨r5, 0, none⟩ : Addr)) ⟨none, 0, 0⟩ (some (⟨r8, 0, none⟩ : Addr)) l22 ds w19)
theorem c39_l : flat (bodyOf Try.f39) = [c39_0, c39_1, c39_2, c39_3, c39_4, c39_5, c39_6, c39_7, c39_8, c39_9] := by kernel_rfl
theorem c39_7_l : flat (innerC c39_7) = [c39_7_0] := by kernel_rfl
theorem c39_7_0_l : flat (innerC c39_7_0) = [c39_7_0_0, c39_7_0_1, c39_7_0_2] := by kernel_rfl
theorem F39_1_ok (R : Rt) (l7 : SV) (ds : Ds) (w : World) (ρ : Env) (e7 : ρ 7 = .slice l7.a l7.len l7.cap) (h : F39_1 R l7 ds w) :
    TrL Try.prog Try.f39.ntmps [c39_8, c39_9] (F39_q1 R) ρ ds w :=
  TrL_leaf (X := F39_1 R l7 ds w) (setAll_cons e7 setAll_nil) (by kernel_rfl) (by kernel_rfl) h
theorem F39_2_ok (R : Rt) (J1 : (SV) → World → Prop) (p5 : Option Addr) (l7 : SV) (p8 : Option Addr) (l9 : SV) (ds : Ds) (w : World) (ρ : Env) (e5 : ρ 5 = .pointer p5) (e7 : ρ 7 = .slice l7.a l7.len l7.cap) (e8 : ρ 8 = .pointer p8) (e9 : ρ 9 = .slice l9.a l9.len l9.cap) (h : F39_2 R J1 p5 l7 p8 l9 ds w) :
    TrL Try.prog Try.f39.ntmps [c39_7_0_0, c39_7_0_1, c39_7_0_2] (F39_q5 R J1) ρ ds w :=
  TrL_leaf (X := F39_2 R J1 p5 l7 p8 l9 ds w) (setAll_cons e5 (setAll_cons e7 (setAll_cons e8 (setAll_cons e9 setAll_nil)))) (by kernel_rfl) (by kernel_rfl) h
theorem F39_3_ok (R : Rt) (p5 : Option Addr) (l7 : SV) (p8 : Option Addr) (l9 : SV) (ds : Ds) (w : World) (ρ : Env) (e5 : ρ 5 = .pointer p5) (e7 : ρ 7 = .slice l7.a l7.len l7.cap) (e8 : ρ 8 = .pointer p8) (e9 : ρ 9 = .slice l9.a l9.len l9.cap) (h : F39_3 R p5 l7 p8 l9 ds w) :
    TrL Try.prog Try.f39.ntmps [c39_7_0] (F39_q4 R) ρ ds w :=
  TrL_one (Tr_loop' (c := innerC c39_7_0) (σ := SV) (enc := (fun (s : SV) (ρ : Env) => ρ 7 = .slice s.a s.len s.cap)) (D := (fun ρ K => dSl (ρ 7) fun l7 => K l7)) (F := (fun (J1 : (SV) → World → Prop) (s : SV) (w : World) => F39_2 R J1 p5 s p8 l9 ds w)) (s0 := l7) (by kernel_rfl) c39_7_0_l e7 (by kernel_rfl) (fun ρ K hD => by obtain ⟨l7, e7, hD⟩ := dSl_elim hD; exact ⟨l7, e7, hD⟩)
      (fun J1 s ρ' w' he ha hF => by
      have e7' := he
      exact F39_2_ok R J1 p5 s p8 l9 ds w' ρ' ((ha 5 (by kernel_rfl)).trans e5) e7' ((ha 8 (by kernel_rfl)).trans e8) ((ha 9 (by kernel_rfl)).trans e9) hF) h)
theorem F39_4_ok (R : Rt) (p5 : Option Addr) (l7 : SV) (p8 : Option Addr) (l9 : SV) (ds : Ds) (w : World) (ρ : Env) (e5 : ρ 5 = .pointer p5) (e7 : ρ 7 = .slice l7.a l7.len l7.cap) (e8 : ρ 8 = .pointer p8) (e9 : ρ 9 = .slice l9.a l9.len l9.cap) (h : F39_4 R p5 l7 p8 l9 ds w) :
    TrL Try.prog Try.f39.ntmps [c39_7, c39_8, c39_9] (F39_q1 R) ρ ds w :=
  TrL_head (K := (F39_k2 R)) (Tr_block' (c := innerC c39_7) (by kernel_rfl) c39_7_l (F39_3_ok R p5 l7 p8 l9 ds w ρ e5 e7 e8 e9 h))
    (fun ρ' ds' w' hD => by
      obtain ⟨l7, e7, hD⟩ := dSl_elim hD; exact F39_1_ok R l7 ds' w' ρ' e7 hD)
theorem F39_5_ok (R : Rt) (l0 : SV) (ds : Ds) (w : World) (ρ : Env) (e0 : ρ 0 = .slice l0.a l0.len l0.cap) (h : F39_5 R l0 ds w) :
    TrL Try.prog Try.f39.ntmps [c39_0, c39_1, c39_2, c39_3, c39_4, c39_5, c39_6, c39_7, c39_8, c39_9] (F39_q1 R) ρ ds w :=
  TrL_piece (pre := [c39_0, c39_1, c39_2, c39_3, c39_4, c39_5, c39_6]) (K := (F39_k6 R)) (X := F39_5 R l0 ds w) (setAll_cons e0 setAll_nil) (by kernel_rfl) (by kernel_rfl)
    (fun ρ' ds' w' hD => by
      obtain ⟨p5, e5, hD⟩ := dPtr_elim hD; obtain ⟨l7, e7, hD⟩ := dSl_elim hD; obtain ⟨p8, e8, hD⟩ := dPtr_elim hD; obtain ⟨l9, e9, hD⟩ := dSl_elim hD; exact F39_4_ok R p5 l7 p8 l9 ds' w' ρ' e5 e7 e8 e9 hD) h
theorem F39_calls (l0 : SV) (w : World) (R : Rt) (h : F39_5 R l0 [] w) : Calls Try.prog 39 #[.slice l0.a l0.len l0.cap] w R :=
  calls_of_L (l := [c39_0, c39_1, c39_2, c39_3, c39_4, c39_5, c39_6, c39_7, c39_8, c39_9]) Try.func39 (by kernel_rfl) (by rw [Try.ntmps39]; exact Nat.le_of_ble_eq_true (by kernel_rfl)) c39_l
    (F39_5_ok R l0 [] w _ rfl h)
theorem F39_callsD (l0 : SV) (w : World) (R : Rt) (u : FrameMode) (h : F39_5 R l0 [] w) : CallsD Try.prog 39 #[.slice l0.a l0.len l0.cap] u w fun e u' w' => u' = u ∧ R e w' :=
  callsD_of_L (l := [c39_0, c39_1, c39_2, c39_3, c39_4, c39_5, c39_6, c39_7, c39_8, c39_9]) Try.func39 (by kernel_rfl) (by rw [Try.ntmps39]; exact Nat.le_of_ble_eq_true (by kernel_rfl)) (by kernel_rfl) c39_l
    (F39_5_ok R l0 [] w _ rfl h) u

/-! function 40: cabinetry/cabinetryref24.Order -/
noncomputable def c40_0 : Code := itemAt (flat (bodyOf Try.f40)) 0
noncomputable def c40_1 : Code := itemAt (flat (bodyOf Try.f40)) 1
noncomputable def c40_2 : Code := itemAt (flat (bodyOf Try.f40)) 2
noncomputable def c40_3 : Code := itemAt (flat (bodyOf Try.f40)) 3
noncomputable def c40_4 : Code := itemAt (flat (bodyOf Try.f40)) 4
noncomputable def c40_5 : Code := itemAt (flat (bodyOf Try.f40)) 5
noncomputable def c40_6 : Code := itemAt (flat (bodyOf Try.f40)) 6
noncomputable def c40_7 : Code := itemAt (flat (bodyOf Try.f40)) 7
noncomputable def c40_8 : Code := itemAt (flat (bodyOf Try.f40)) 8
noncomputable def c40_9 : Code := itemAt (flat (bodyOf Try.f40)) 9
noncomputable def c40_7_0 : Code := itemAt (flat (innerC c40_7)) 0
noncomputable def c40_7_0_0 : Code := itemAt (flat (innerC c40_7_0)) 0
noncomputable def c40_7_0_1 : Code := itemAt (flat (innerC c40_7_0)) 1
noncomputable def c40_7_0_2 : Code := itemAt (flat (innerC c40_7_0)) 2
noncomputable def c40_7_0_2_0 : Code := itemAt (flat (innerC c40_7_0_2)) 0
noncomputable def c40_7_0_2_1 : Code := itemAt (flat (innerC c40_7_0_2)) 1
noncomputable def c40_7_0_2_2 : Code := itemAt (flat (innerC c40_7_0_2)) 2
noncomputable def c40_7_0_2_3 : Code := itemAt (flat (innerC c40_7_0_2)) 3
noncomputable def c40_7_0_2_4 : Code := itemAt (flat (innerC c40_7_0_2)) 4
noncomputable def c40_7_0_2_5 : Code := itemAt (flat (innerC c40_7_0_2)) 5
noncomputable def c40_7_0_2_6 : Code := itemAt (flat (innerC c40_7_0_2)) 6
noncomputable def c40_7_0_2_2_0 : Code := itemAt (flat (innerC c40_7_0_2_2)) 0
noncomputable def c40_7_0_2_2_0_0 : Code := itemAt (flat (innerC c40_7_0_2_2_0)) 0
noncomputable def c40_7_0_2_2_0_1 : Code := itemAt (flat (innerC c40_7_0_2_2_0)) 1
noncomputable def c40_7_0_2_2_0_2 : Code := itemAt (flat (innerC c40_7_0_2_2_0)) 2
noncomputable def c40_7_0_2_2_0_3 : Code := itemAt (flat (innerC c40_7_0_2_2_0)) 3
noncomputable def c40_7_0_2_2_0_2_0 : Code := itemAt (flat (innerC c40_7_0_2_2_0_2)) 0
noncomputable def c40_7_0_2_2_0_2_1 : Code := itemAt (flat (innerC c40_7_0_2_2_0_2)) 1
noncomputable def c40_7_0_2_2_0_2_2 : Code := itemAt (flat (innerC c40_7_0_2_2_0_2)) 2
noncomputable def c40_7_0_2_2_0_2_3 : Code := itemAt (flat (innerC c40_7_0_2_2_0_2)) 3
noncomputable def c40_7_0_2_2_0_2_4 : Code := itemAt (flat (innerC c40_7_0_2_2_0_2)) 4
noncomputable def c40_7_0_2_2_0_2_2_0 : Code := itemAt (flat (innerC c40_7_0_2_2_0_2_2)) 0
noncomputable def c40_7_0_2_2_0_2_2_0_0 : Code := itemAt (flat (innerC c40_7_0_2_2_0_2_2_0)) 0
noncomputable def c40_7_0_2_2_0_2_2_0_1 : Code := itemAt (flat (innerC c40_7_0_2_2_0_2_2_0)) 1
noncomputable def c40_7_0_2_2_0_2_2_0_2 : Code := itemAt (flat (innerC c40_7_0_2_2_0_2_2_0)) 2
noncomputable def c40_7_0_2_2_0_2_2_0_3 : Code := itemAt (flat (innerC c40_7_0_2_2_0_2_2_0)) 3
def F40_q1 (R : Rt) : EQ := endQ Try.prog Try.f40.results.toList R
def F40_1 (R : Rt) (l7 : SV) (ds : Ds) (w : World) : Prop :=
 runD Try.prog ds w fun w1 =>
 R (.returned (.tuple #[.slice l7.a l7.len l7.cap, .bool true, .int .i64 0])) w1
def F40_k2 (R : Rt) : EP := (fun ρ ds w => dSl (ρ 7) fun l7 => F40_1 R l7 ds w)
def F40_q3 (R : Rt) : EQ := (thenQ (F40_k2 R) (F40_q1 R))
def F40_q4 (R : Rt) : EQ := (blockQ 0 (F40_q3 R))
def F40_q5 (R : Rt) (J1 : (SV) → World → Prop) : EQ := (thenQ (fun ρ _ w => dSl (ρ 7) fun l7 => J1 l7 w) (F40_q4 R))
def F40_q6 (R : Rt) (J1 : (SV) → World → Prop) : EQ := (blockQ 1 (F40_q5 R J1))
def F40_2 (R : Rt) (J1 : (SV) → World → Prop) (l6 : SV) (l7 : SV) (m8 : Option Nat) (s9 : ByteArray) (ds : Ds) (w : World) : Prop :=
 Br (s9.toList == (⟨#[]⟩ : ByteArray).toList) (
 runD Try.prog ds w fun w2 =>
 R (.returned (.tuple #[.slice none 0 0, .bool false, .int .i64 0])) w2) (
 alE (.cells #[.string s9] 9) w fun r86 w3 =>
 ∃ l87 : SV, ∃ w4 : World, (Builtin.append_ #[23, 23] 23 #[.slice l7.a l7.len l7.cap, .slice (some ⟨r86, 0, none⟩) 1 1]).run Try.prog w3 = .ok (.slice l87.a l87.len l87.cap) w4 ∧
 doE Try.prog (Instr.mapUpdate 82 (.map m8) (.string s9) (.bool true)) w4 fun w5 =>
 J1 l87 w5)
def F40_k7 (R : Rt) (J1 : (SV) → World → Prop) : EP := (fun ρ ds w => dSl (ρ 6) fun l6 => dSl (ρ 7) fun l7 => dMap (ρ 8) fun m8 => dStr (ρ 9) fun s9 => F40_2 R J1 l6 l7 m8 s9 ds w)
def F40_q8 (R : Rt) (J1 : (SV) → World → Prop) : EQ := (thenQ (F40_k7 R J1) (F40_q6 R J1))
def F40_q9 (R : Rt) (J1 : (SV) → World → Prop) : EQ := (blockQ 2 (F40_q8 R J1))
def F40_q10 (R : Rt) (J1 : (SV) → World → Prop) (J2 : (ByteArray × Int) → World → Prop) : EQ := (thenQ (fun ρ _ w => dStr (ρ 9) fun s9 => dInt .i64 (ρ 10) fun n10 => J2 (s9, n10) w) (F40_q9 R J1))
def F40_3 (R : Rt) (J1 : (SV) → World → Prop) (J2 : (ByteArray × Int) → World → Prop) (l6 : SV) (l7 : SV) (m8 : Option Nat) (s9 : ByteArray) (n10 : Int) (ds : Ds) (w : World) : Prop :=
 J2 (s9, (IntKind.i64.wrap (n10 + 1))) w
def F40_k11 (R : Rt) (J1 : (SV) → World → Prop) (J2 : (ByteArray × Int) → World → Prop) : EP := (fun ρ ds w => dSl (ρ 6) fun l6 => dSl (ρ 7) fun l7 => dMap (ρ 8) fun m8 => dStr (ρ 9) fun s9 => dInt .i64 (ρ 10) fun n10 => F40_3 R J1 J2 l6 l7 m8 s9 n10 ds w)
def F40_q12 (R : Rt) (J1 : (SV) → World → Prop) (J2 : (ByteArray × Int) → World → Prop) : EQ := (thenQ (F40_k11 R J1 J2) (F40_q10 R J1 J2))
def F40_q13 (R : Rt) (J1 : (SV) → World → Prop) (J2 : (ByteArray × Int) → World → Prop) : EQ := (blockQ 3 (F40_q12 R J1 J2))
def F40_4 (R : Rt) (J1 : (SV) → World → Prop) (J2 : (ByteArray × Int) → World → Prop) (l6 : SV) (l7 : SV) (m8 : Option Nat) (s9 : ByteArray) (n10 : Int) (b11 : Bool) (ds : Ds) (w : World) : Prop :=
 Br b11 (
 Br (s9.toList == (⟨#[]⟩ : ByteArray).toList) (
 ∃ a6 : Addr, l6.a = some a6 ∧ 0 ≤ n10 ∧ n10 < ((l6.len : Nat) : Int) ∧
 ∃ s81 : ByteArray, w.cell? (a6.add (n10.toNat * 4)) = some (.string s81) ∧
 F40_3 R J1 J2 l6 l7 m8 s81 n10 ds w) (
 ∃ a7 : Addr, l6.a = some a7 ∧ 0 ≤ n10 ∧ n10 < ((l6.len : Nat) : Int) ∧
 ∃ s72 : ByteArray, w.cell? (a7.add (n10.toNat * 4)) = some (.string s72) ∧
 Br (Op.bytesLess s72.toList s9.toList) (
 ∃ a8 : Addr, l6.a = some a8 ∧ 0 ≤ n10 ∧ n10 < ((l6.len : Nat) : Int) ∧
 ∃ s81 : ByteArray, w.cell? (a8.add (n10.toNat * 4)) = some (.string s81) ∧
 F40_3 R J1 J2 l6 l7 m8 s81 n10 ds w) (
 F40_3 R J1 J2 l6 l7 m8 s9 n10 ds w))) (
 F40_3 R J1 J2 l6 l7 m8 s9 n10 ds w)
def F40_k14 (R : Rt) (J1 : (SV) → World → Prop) (J2 : (ByteArray × Int) → World → Prop) : EP := (fun ρ ds w => dSl (ρ 6) fun l6 => dSl (ρ 7) fun l7 => dMap (ρ 8) fun m8 => dStr (ρ 9) fun s9 => dInt .i64 (ρ 10) fun n10 => dBl (ρ 11) fun b11 => F40_4 R J1 J2 l6 l7 m8 s9 n10 b11 ds w)
def F40_q15 (R : Rt) (J1 : (SV) → World → Prop) (J2 : (ByteArray × Int) → World → Prop) : EQ := (thenQ (F40_k14 R J1 J2) (F40_q13 R J1 J2))
def F40_q16 (R : Rt) (J1 : (SV) → World → Prop) (J2 : (ByteArray × Int) → World → Prop) : EQ := (blockQ 4 (F40_q15 R J1 J2))
def F40_q17 (R : Rt) (J1 : (SV) → World → Prop) (J2 : (ByteArray × Int) → World → Prop) (J3 : (Bool × Int) → World → Prop) : EQ := (thenQ (fun ρ _ w => dBl (ρ 11) fun b11 => dInt .i64 (ρ 12) fun n12 => J3 (b11, n12) w) (F40_q16 R J1 J2))
def F40_5 (R : Rt) (J1 : (SV) → World → Prop) (J2 : (ByteArray × Int) → World → Prop) (J3 : (Bool × Int) → World → Prop) (l6 : SV) (l7 : SV) (m8 : Option Nat) (s9 : ByteArray) (n10 : Int) (b11 : Bool) (n12 : Int) (ds : Ds) (w : World) : Prop :=
 ∃ a9 : Addr, l6.a = some a9 ∧ 0 ≤ n10 ∧ n10 < ((l6.len : Nat) : Int) ∧
 ∃ l45 : SV, w.cell? ((a9.add (n10.toNat * 4)).add 3) = some (.slice l45.a l45.len l45.cap) ∧
 Br (decide (n12 < ((l45.len : Nat) : Int))) (
 Br b11 (
 ∃ a10 : Addr, l6.a = some a10 ∧ 0 ≤ n10 ∧ n10 < ((l6.len : Nat) : Int) ∧
 ∃ l57 : SV, w.cell? ((a10.add (n10.toNat * 4)).add 3) = some (.slice l57.a l57.len l57.cap) ∧
 ∃ a11 : Addr, l57.a = some a11 ∧ 0 ≤ n12 ∧ n12 < ((l57.len : Nat) : Int) ∧
 ∃ s60 : ByteArray, w.cell? (a11.add (n12.toNat * 1)) = some (.string s60) ∧
 ∃ b61 : Bool, ∃ w12 : World, (Instr.lookup 82 (.map m8) (.string s60) false).run Try.prog w = .ok (.bool b61) w12 ∧
 J3 (b61, (IntKind.i64.wrap (n12 + 1))) w12) (
 J3 (false, (IntKind.i64.wrap (n12 + 1))) w)) (
 F40_4 R J1 J2 l6 l7 m8 s9 n10 b11 ds w)
def F40_6 (R : Rt) (J1 : (SV) → World → Prop) (J2 : (ByteArray × Int) → World → Prop) (l6 : SV) (l7 : SV) (m8 : Option Nat) (s9 : ByteArray) (n10 : Int) (b11 : Bool) (n12 : Int) (ds : Ds) (w : World) : Prop :=
 loopT (fun (J3 : (Bool × Int) → World → Prop) (s : Bool × Int) (w : World) => F40_5 R J1 J2 J3 l6 l7 m8 s9 n10 s.1 s.2 ds w) (b11, n12) w
@[reducible] def F40_7 (R : Rt) (J1 : (SV) → World → Prop) (J2 : (ByteArray × Int) → World → Prop) (l6 : SV) (l7 : SV) (m8 : Option Nat) (s9 : ByteArray) (n10 : Int) (b11 : Bool) (n12 : Int) (ds : Ds) (w : World) : Prop := F40_6 R J1 J2 l6 l7 m8 s9 n10 b11 n12 ds w
def F40_k18 (R : Rt) (J1 : (SV) → World → Prop) (J2 : (ByteArray × Int) → World → Prop) : EP := (fun ρ ds w => dSl (ρ 6) fun l6 => dSl (ρ 7) fun l7 => dMap (ρ 8) fun m8 => dStr (ρ 9) fun s9 => dInt .i64 (ρ 10) fun n10 => dBl (ρ 11) fun b11 => dInt .i64 (ρ 12) fun n12 => F40_7 R J1 J2 l6 l7 m8 s9 n10 b11 n12 ds w)
def F40_8 (R : Rt) (J1 : (SV) → World → Prop) (J2 : (ByteArray × Int) → World → Prop) (l6 : SV) (l7 : SV) (m8 : Option Nat) (s9 : ByteArray) (n10 : Int) (ds : Ds) (w : World) : Prop :=
 ∃ a13 : Addr, l6.a = some a13 ∧ 0 ≤ n10 ∧ n10 < ((l6.len : Nat) : Int) ∧
 ∃ s37 : ByteArray, w.cell? (a13.add (n10.toNat * 4)) = some (.string s37) ∧
 ∃ b38 : Bool, ∃ w14 : World, (Instr.lookup 82 (.map m8) (.string s37) false).run Try.prog w = .ok (.bool b38) w14 ∧
 F40_7 R J1 J2 l6 l7 m8 s9 n10 (!b38) 0 ds w14
@[reducible] def F40_9 (R : Rt) (J1 : (SV) → World → Prop) (J2 : (ByteArray × Int) → World → Prop) (l6 : SV) (l7 : SV) (m8 : Option Nat) (s9 : ByteArray) (n10 : Int) (ds : Ds) (w : World) : Prop := F40_8 R J1 J2 l6 l7 m8 s9 n10 ds w
def F40_k19 (R : Rt) (J1 : (SV) → World → Prop) (J2 : (ByteArray × Int) → World → Prop) : EP := (fun ρ ds w => dSl (ρ 6) fun l6 => dSl (ρ 7) fun l7 => dMap (ρ 8) fun m8 => dStr (ρ 9) fun s9 => dInt .i64 (ρ 10) fun n10 => F40_9 R J1 J2 l6 l7 m8 s9 n10 ds w)
def F40_10 (R : Rt) (J1 : (SV) → World → Prop) (J2 : (ByteArray × Int) → World → Prop) (l6 : SV) (l7 : SV) (m8 : Option Nat) (s9 : ByteArray) (n10 : Int) (ds : Ds) (w : World) : Prop :=
 Br (decide (n10 < ((l6.len : Nat) : Int))) (
 F40_9 R J1 J2 l6 l7 m8 s9 n10 ds w) (
 F40_2 R J1 l6 l7 m8 s9 ds w)
def F40_11 (R : Rt) (J1 : (SV) → World → Prop) (l6 : SV) (l7 : SV) (m8 : Option Nat) (s9 : ByteArray) (n10 : Int) (ds : Ds) (w : World) : Prop :=
 loopT (fun (J2 : (ByteArray × Int) → World → Prop) (s : ByteArray × Int) (w : World) => F40_10 R J1 J2 l6 l7 m8 s.1 s.2 ds w) (s9, n10) w
@[reducible] def F40_12 (R : Rt) (J1 : (SV) → World → Prop) (l6 : SV) (l7 : SV) (m8 : Option Nat) (s9 : ByteArray) (n10 : Int) (ds : Ds) (w : World) : Prop := F40_11 R J1 l6 l7 m8 s9 n10 ds w
def F40_k20 (R : Rt) (J1 : (SV) → World → Prop) : EP := (fun ρ ds w => dSl (ρ 6) fun l6 => dSl (ρ 7) fun l7 => dMap (ρ 8) fun m8 => dStr (ρ 9) fun s9 => dInt .i64 (ρ 10) fun n10 => F40_12 R J1 l6 l7 m8 s9 n10 ds w)
def F40_13 (R : Rt) (J1 : (SV) → World → Prop) (l6 : SV) (l7 : SV) (m8 : Option Nat) (ds : Ds) (w : World) : Prop :=
 F40_12 R J1 l6 l7 m8 (⟨#[]⟩ : ByteArray) 0 ds w
@[reducible] def F40_14 (R : Rt) (J1 : (SV) → World → Prop) (l6 : SV) (l7 : SV) (m8 : Option Nat) (ds : Ds) (w : World) : Prop := F40_13 R J1 l6 l7 m8 ds w
def F40_k21 (R : Rt) (J1 : (SV) → World → Prop) : EP := (fun ρ ds w => dSl (ρ 6) fun l6 => dSl (ρ 7) fun l7 => dMap (ρ 8) fun m8 => F40_14 R J1 l6 l7 m8 ds w)
def F40_15 (R : Rt) (J1 : (SV) → World → Prop) (l6 : SV) (l7 : SV) (m8 : Option Nat) (ds : Ds) (w : World) : Prop :=
 Br (decide (((l7.len : Nat) : Int) < ((l6.len : Nat) : Int))) (
 F40_14 R J1 l6 l7 m8 ds w) (
 F40_1 R l7 ds w)
def F40_16 (R : Rt) (l6 : SV) (l7 : SV) (m8 : Option Nat) (ds : Ds) (w : World) : Prop :=
 loopT (fun (J1 : (SV) → World → Prop) (s : SV) (w : World) => F40_15 R J1 l6 s m8 ds w) l7 w
@[reducible] def F40_17 (R : Rt) (l6 : SV) (l7 : SV) (m8 : Option Nat) (ds : Ds) (w : World) : Prop := F40_16 R l6 l7 m8 ds w
def F40_k22 (R : Rt) : EP := (fun ρ ds w => dSl (ρ 6) fun l6 => dSl (ρ 7) fun l7 => dMap (ρ 8) fun m8 => F40_17 R l6 l7 m8 ds w)
def F40_18 (R : Rt) (l0 : SV) (ds : Ds) (w : World) : Prop :=
 Calls Try.prog 63 #[.slice l0.a l0.len l0.cap] w fun e w15 =>
 ∃ n14 : Int, e = .returned (.int .i64 n14) ∧
 Br (n14 != 0) (
 runD Try.prog ds w15 fun w16 =>
 R (.returned (.tuple #[.slice none 0 0, .bool false, .int .i64 n14])) w16) (
 Calls Try.prog 59 #[.slice l0.a l0.len l0.cap] w15 fun e w17 =>
 ∃ l19 : SV, e = .returned (.slice l19.a l19.len l19.cap) ∧
 alE (.map #[] 0) w17 fun r20 w18 =>
 F40_17 R l19 ⟨none, 0, 0⟩ (some r20) ds w18)
theorem c40_l : flat (bodyOf Try.f40) = [c40_0, c40_1, c40_2, c40_3, c40_4, c40_5, c40_6, c40_7, c40_8, c40_9] := by kernel_rfl
theorem c40_7_l : flat (innerC c40_7) = [c40_7_0] := by kernel_rfl
theorem c40_7_0_l : flat (innerC c40_7_0) = [c40_7_0_0, c40_7_0_1, c40_7_0_2] := by kernel_rfl
theorem c40_7_0_2_l : flat (innerC c40_7_0_2) = [c40_7_0_2_0, c40_7_0_2_1, c40_7_0_2_2, c40_7_0_2_3, c40_7_0_2_4, c40_7_0_2_5, c40_7_0_2_6] := by kernel_rfl
theorem c40_7_0_2_2_l : flat (innerC c40_7_0_2_2) = [c40_7_0_2_2_0] := by kernel_rfl
theorem c40_7_0_2_2_0_l : flat (innerC c40_7_0_2_2_0) = [c40_7_0_2_2_0_0, c40_7_0_2_2_0_1, c40_7_0_2_2_0_2, c40_7_0_2_2_0_3] := by kernel_rfl
theorem c40_7_0_2_2_0_2_l : flat (innerC c40_7_0_2_2_0_2) = [c40_7_0_2_2_0_2_0, c40_7_0_2_2_0_2_1, c40_7_0_2_2_0_2_2, c40_7_0_2_2_0_2_3, c40_7_0_2_2_0_2_4] := by kernel_rfl
theorem c40_7_0_2_2_0_2_2_l : flat (innerC c40_7_0_2_2_0_2_2) = [c40_7_0_2_2_0_2_2_0] := by kernel_rfl
theorem c40_7_0_2_2_0_2_2_0_l : flat (innerC c40_7_0_2_2_0_2_2_0) = [c40_7_0_2_2_0_2_2_0_0, c40_7_0_2_2_0_2_2_0_1, c40_7_0_2_2_0_2_2_0_2, c40_7_0_2_2_0_2_2_0_3] := by kernel_rfl
theorem F40_1_ok (R : Rt) (l7 : SV) (ds : Ds) (w : World) (ρ : Env) (e7 : ρ 7 = .slice l7.a l7.len l7.cap) (h : F40_1 R l7 ds w) :
    TrL Try.prog Try.f40.ntmps [c40_8, c40_9] (F40_q1 R) ρ ds w :=
  TrL_leaf (X := F40_1 R l7 ds w) (setAll_cons e7 setAll_nil) (by kernel_rfl) (by kernel_rfl) h
theorem F40_2_ok (R : Rt) (J1 : (SV) → World → Prop) (l6 : SV) (l7 : SV) (m8 : Option Nat) (s9 : ByteArray) (ds : Ds) (w : World) (ρ : Env) (e6 : ρ 6 = .slice l6.a l6.len l6.cap) (e7 : ρ 7 = .slice l7.a l7.len l7.cap) (e8 : ρ 8 = .map m8) (e9 : ρ 9 = .string s9) (h : F40_2 R J1 l6 l7 m8 s9 ds w) :
    TrL Try.prog Try.f40.ntmps [c40_7_0_2_3, c40_7_0_2_4, c40_7_0_2_5, c40_7_0_2_6] (F40_q6 R J1) ρ ds w :=
  TrL_leaf (X := F40_2 R J1 l6 l7 m8 s9 ds w) (setAll_cons e6 (setAll_cons e7 (setAll_cons e8 (setAll_cons e9 setAll_nil)))) (by kernel_rfl) (by kernel_rfl) h
theorem F40_3_ok (R : Rt) (J1 : (SV) → World → Prop) (J2 : (ByteArray × Int) → World → Prop) (l6 : SV) (l7 : SV) (m8 : Option Nat) (s9 : ByteArray) (n10 : Int) (ds : Ds) (w : World) (ρ : Env) (e6 : ρ 6 = .slice l6.a l6.len l6.cap) (e7 : ρ 7 = .slice l7.a l7.len l7.cap) (e8 : ρ 8 = .map m8) (e9 : ρ 9 = .string s9) (e10 : ρ 10 = .int .i64 n10) (h : F40_3 R J1 J2 l6 l7 m8 s9 n10 ds w) :
    TrL Try.prog Try.f40.ntmps [c40_7_0_2_2_0_3] (F40_q10 R J1 J2) ρ ds w :=
  TrL_leaf (X := F40_3 R J1 J2 l6 l7 m8 s9 n10 ds w) (setAll_cons e6 (setAll_cons e7 (setAll_cons e8 (setAll_cons e9 (setAll_cons e10 setAll_nil))))) (by kernel_rfl) (by kernel_rfl) h
theorem F40_4_ok (R : Rt) (J1 : (SV) → World → Prop) (J2 : (ByteArray × Int) → World → Prop) (l6 : SV) (l7 : SV) (m8 : Option Nat) (s9 : ByteArray) (n10 : Int) (b11 : Bool) (ds : Ds) (w : World) (ρ : Env) (e6 : ρ 6 = .slice l6.a l6.len l6.cap) (e7 : ρ 7 = .slice l7.a l7.len l7.cap) (e8 : ρ 8 = .map m8) (e9 : ρ 9 = .string s9) (e10 : ρ 10 = .int .i64 n10) (e11 : ρ 11 = .bool b11) (h : F40_4 R J1 J2 l6 l7 m8 s9 n10 b11 ds w) :
    TrL Try.prog Try.f40.ntmps [c40_7_0_2_2_0_2_3, c40_7_0_2_2_0_2_4] (F40_q13 R J1 J2) ρ ds w :=
  TrL_leaf (X := F40_4 R J1 J2 l6 l7 m8 s9 n10 b11 ds w) (setAll_cons e6 (setAll_cons e7 (setAll_cons e8 (setAll_cons e9 (setAll_cons e10 (setAll_cons e11 setAll_nil)))))) (by kernel_rfl) (by kernel_rfl) h
theorem F40_5_ok (R : Rt) (J1 : (SV) → World → Prop) (J2 : (ByteArray × Int) → World → Prop) (J3 : (Bool × Int) → World → Prop) (l6 : SV) (l7 : SV) (m8 : Option Nat) (s9 : ByteArray) (n10 : Int) (b11 : Bool) (n12 : Int) (ds : Ds) (w : World) (ρ : Env) (e6 : ρ 6 = .slice l6.a l6.len l6.cap) (e7 : ρ 7 = .slice l7.a l7.len l7.cap) (e8 : ρ 8 = .map m8) (e9 : ρ 9 = .string s9) (e10 : ρ 10 = .int .i64 n10) (e11 : ρ 11 = .bool b11) (e12 : ρ 12 = .int .i64 n12) (h : F40_5 R J1 J2 J3 l6 l7 m8 s9 n10 b11 n12 ds w) :
    TrL Try.prog Try.f40.ntmps [c40_7_0_2_2_0_2_2_0_0, c40_7_0_2_2_0_2_2_0_1, c40_7_0_2_2_0_2_2_0_2, c40_7_0_2_2_0_2_2_0_3] (F40_q17 R J1 J2 J3) ρ ds w :=
  TrL_leaf (X := F40_5 R J1 J2 J3 l6 l7 m8 s9 n10 b11 n12 ds w) (setAll_cons e6 (setAll_cons e7 (setAll_cons e8 (setAll_cons e9 (setAll_cons e10 (setAll_cons e11 (setAll_cons e12 setAll_nil))))))) (by kernel_rfl) (by kernel_rfl) h
theorem F40_6_ok (R : Rt) (J1 : (SV) → World → Prop) (J2 : (ByteArray × Int) → World → Prop) (l6 : SV) (l7 : SV) (m8 : Option Nat) (s9 : ByteArray) (n10 : Int) (b11 : Bool) (n12 : Int) (ds : Ds) (w : World) (ρ : Env) (e6 : ρ 6 = .slice l6.a l6.len l6.cap) (e7 : ρ 7 = .slice l7.a l7.len l7.cap) (e8 : ρ 8 = .map m8) (e9 : ρ 9 = .string s9) (e10 : ρ 10 = .int .i64 n10) (e11 : ρ 11 = .bool b11) (e12 : ρ 12 = .int .i64 n12) (h : F40_6 R J1 J2 l6 l7 m8 s9 n10 b11 n12 ds w) :
    TrL Try.prog Try.f40.ntmps [c40_7_0_2_2_0_2_2_0] (F40_q16 R J1 J2) ρ ds w :=
  TrL_one (Tr_loop' (c := innerC c40_7_0_2_2_0_2_2_0) (σ := Bool × Int) (enc := (fun (s : Bool × Int) (ρ : Env) => ρ 11 = .bool s.1 ∧ ρ 12 = .int .i64 s.2)) (D := (fun ρ K => dBl (ρ 11) fun b11 => dInt .i64 (ρ 12) fun n12 => K (b11, n12))) (F := (fun (J3 : (Bool × Int) → World → Prop) (s : Bool × Int) (w : World) => F40_5 R J1 J2 J3 l6 l7 m8 s9 n10 s.1 s.2 ds w)) (s0 := (b11, n12)) (by kernel_rfl) c40_7_0_2_2_0_2_2_0_l ⟨e11, e12⟩ (by kernel_rfl) (fun ρ K hD => by obtain ⟨b11, e11, hD⟩ := dBl_elim hD; obtain ⟨n12, e12, hD⟩ := dInt_elim hD; exact ⟨(b11, n12), ⟨e11, e12⟩, hD⟩)
      (fun J3 s ρ' w' he ha hF => by
      obtain ⟨e11', e12'⟩ := he
      exact F40_5_ok R J1 J2 J3 l6 l7 m8 s9 n10 s.1 s.2 ds w' ρ' ((ha 6 (by kernel_rfl)).trans e6) ((ha 7 (by kernel_rfl)).trans e7) ((ha 8 (by kernel_rfl)).trans e8) ((ha 9 (by kernel_rfl)).trans e9) ((ha 10 (by kernel_rfl)).trans e10) e11' e12' hF) h)
theorem F40_7_ok (R : Rt) (J1 : (SV) → World → Prop) (J2 : (ByteArray × Int) → World → Prop) (l6 : SV) (l7 : SV) (m8 : Option Nat) (s9 : ByteArray) (n10 : Int) (b11 : Bool) (n12 : Int) (ds : Ds) (w : World) (ρ : Env) (e6 : ρ 6 = .slice l6.a l6.len l6.cap) (e7 : ρ 7 = .slice l7.a l7.len l7.cap) (e8 : ρ 8 = .map m8) (e9 : ρ 9 = .string s9) (e10 : ρ 10 = .int .i64 n10) (e11 : ρ 11 = .bool b11) (e12 : ρ 12 = .int .i64 n12) (h : F40_7 R J1 J2 l6 l7 m8 s9 n10 b11 n12 ds w) :
    TrL Try.prog Try.f40.ntmps [c40_7_0_2_2_0_2_2, c40_7_0_2_2_0_2_3, c40_7_0_2_2_0_2_4] (F40_q13 R J1 J2) ρ ds w :=
  TrL_head (K := (F40_k14 R J1 J2)) (Tr_block' (c := innerC c40_7_0_2_2_0_2_2) (by kernel_rfl) c40_7_0_2_2_0_2_2_l (F40_6_ok R J1 J2 l6 l7 m8 s9 n10 b11 n12 ds w ρ e6 e7 e8 e9 e10 e11 e12 h))
    (fun ρ' ds' w' hD => by
      obtain ⟨l6, e6, hD⟩ := dSl_elim hD; obtain ⟨l7, e7, hD⟩ := dSl_elim hD; obtain ⟨m8, e8, hD⟩ := dMap_elim hD; obtain ⟨s9, e9, hD⟩ := dStr_elim hD; obtain ⟨n10, e10, hD⟩ := dInt_elim hD; obtain ⟨b11, e11, hD⟩ := dBl_elim hD; exact F40_4_ok R J1 J2 l6 l7 m8 s9 n10 b11 ds' w' ρ' e6 e7 e8 e9 e10 e11 hD)
theorem F40_8_ok (R : Rt) (J1 : (SV) → World → Prop) (J2 : (ByteArray × Int) → World → Prop) (l6 : SV) (l7 : SV) (m8 : Option Nat) (s9 : ByteArray) (n10 : Int) (ds : Ds) (w : World) (ρ : Env) (e6 : ρ 6 = .slice l6.a l6.len l6.cap) (e7 : ρ 7 = .slice l7.a l7.len l7.cap) (e8 : ρ 8 = .map m8) (e9 : ρ 9 = .string s9) (e10 : ρ 10 = .int .i64 n10) (h : F40_8 R J1 J2 l6 l7 m8 s9 n10 ds w) :
    TrL Try.prog Try.f40.ntmps [c40_7_0_2_2_0_2_0, c40_7_0_2_2_0_2_1, c40_7_0_2_2_0_2_2, c40_7_0_2_2_0_2_3, c40_7_0_2_2_0_2_4] (F40_q13 R J1 J2) ρ ds w :=
  TrL_piece (pre := [c40_7_0_2_2_0_2_0, c40_7_0_2_2_0_2_1]) (K := (F40_k18 R J1 J2)) (X := F40_8 R J1 J2 l6 l7 m8 s9 n10 ds w) (setAll_cons e6 (setAll_cons e7 (setAll_cons e8 (setAll_cons e9 (setAll_cons e10 setAll_nil))))) (by kernel_rfl) (by kernel_rfl)
    (fun ρ' ds' w' hD => by
      obtain ⟨l6, e6, hD⟩ := dSl_elim hD; obtain ⟨l7, e7, hD⟩ := dSl_elim hD; obtain ⟨m8, e8, hD⟩ := dMap_elim hD; obtain ⟨s9, e9, hD⟩ := dStr_elim hD; obtain ⟨n10, e10, hD⟩ := dInt_elim hD; obtain ⟨b11, e11, hD⟩ := dBl_elim hD; obtain ⟨n12, e12, hD⟩ := dInt_elim hD; exact F40_7_ok R J1 J2 l6 l7 m8 s9 n10 b11 n12 ds' w' ρ' e6 e7 e8 e9 e10 e11 e12 hD) h
theorem F40_9_ok (R : Rt) (J1 : (SV) → World → Prop) (J2 : (ByteArray × Int) → World → Prop) (l6 : SV) (l7 : SV) (m8 : Option Nat) (s9 : ByteArray) (n10 : Int) (ds : Ds) (w : World) (ρ : Env) (e6 : ρ 6 = .slice l6.a l6.len l6.cap) (e7 : ρ 7 = .slice l7.a l7.len l7.cap) (e8 : ρ 8 = .map m8) (e9 : ρ 9 = .string s9) (e10 : ρ 10 = .int .i64 n10) (h : F40_9 R J1 J2 l6 l7 m8 s9 n10 ds w) :
    TrL Try.prog Try.f40.ntmps [c40_7_0_2_2_0_2, c40_7_0_2_2_0_3] (F40_q10 R J1 J2) ρ ds w :=
  TrL_head (K := (F40_k11 R J1 J2)) (Tr_block' (c := innerC c40_7_0_2_2_0_2) (by kernel_rfl) c40_7_0_2_2_0_2_l (F40_8_ok R J1 J2 l6 l7 m8 s9 n10 ds w ρ e6 e7 e8 e9 e10 h))
    (fun ρ' ds' w' hD => by
      obtain ⟨l6, e6, hD⟩ := dSl_elim hD; obtain ⟨l7, e7, hD⟩ := dSl_elim hD; obtain ⟨m8, e8, hD⟩ := dMap_elim hD; obtain ⟨s9, e9, hD⟩ := dStr_elim hD; obtain ⟨n10, e10, hD⟩ := dInt_elim hD; exact F40_3_ok R J1 J2 l6 l7 m8 s9 n10 ds' w' ρ' e6 e7 e8 e9 e10 hD)
theorem F40_10_ok (R : Rt) (J1 : (SV) → World → Prop) (J2 : (ByteArray × Int) → World → Prop) (l6 : SV) (l7 : SV) (m8 : Option Nat) (s9 : ByteArray) (n10 : Int) (ds : Ds) (w : World) (ρ : Env) (e6 : ρ 6 = .slice l6.a l6.len l6.cap) (e7 : ρ 7 = .slice l7.a l7.len l7.cap) (e8 : ρ 8 = .map m8) (e9 : ρ 9 = .string s9) (e10 : ρ 10 = .int .i64 n10) (h : F40_10 R J1 J2 l6 l7 m8 s9 n10 ds w) :
    TrL Try.prog Try.f40.ntmps [c40_7_0_2_2_0_0, c40_7_0_2_2_0_1, c40_7_0_2_2_0_2, c40_7_0_2_2_0_3] (F40_q10 R J1 J2) ρ ds w :=
  TrL_piece (pre := [c40_7_0_2_2_0_0, c40_7_0_2_2_0_1]) (K := (F40_k19 R J1 J2)) (X := F40_10 R J1 J2 l6 l7 m8 s9 n10 ds w) (setAll_cons e6 (setAll_cons e7 (setAll_cons e8 (setAll_cons e9 (setAll_cons e10 setAll_nil))))) (by kernel_rfl) (by kernel_rfl)
    (fun ρ' ds' w' hD => by
      obtain ⟨l6, e6, hD⟩ := dSl_elim hD; obtain ⟨l7, e7, hD⟩ := dSl_elim hD; obtain ⟨m8, e8, hD⟩ := dMap_elim hD; obtain ⟨s9, e9, hD⟩ := dStr_elim hD; obtain ⟨n10, e10, hD⟩ := dInt_elim hD; exact F40_9_ok R J1 J2 l6 l7 m8 s9 n10 ds' w' ρ' e6 e7 e8 e9 e10 hD) h
theorem F40_11_ok (R : Rt) (J1 : (SV) → World → Prop) (l6 : SV) (l7 : SV) (m8 : Option Nat) (s9 : ByteArray) (n10 : Int) (ds : Ds) (w : World) (ρ : Env) (e6 : ρ 6 = .slice l6.a l6.len l6.cap) (e7 : ρ 7 = .slice l7.a l7.len l7.cap) (e8 : ρ 8 = .map m8) (e9 : ρ 9 = .string s9) (e10 : ρ 10 = .int .i64 n10) (h : F40_11 R J1 l6 l7 m8 s9 n10 ds w) :
    TrL Try.prog Try.f40.ntmps [c40_7_0_2_2_0] (F40_q9 R J1) ρ ds w :=
  TrL_one (Tr_loop' (c := innerC c40_7_0_2_2_0) (σ := ByteArray × Int) (enc := (fun (s : ByteArray × Int) (ρ : Env) => ρ 9 = .string s.1 ∧ ρ 10 = .int .i64 s.2)) (D := (fun ρ K => dStr (ρ 9) fun s9 => dInt .i64 (ρ 10) fun n10 => K (s9, n10))) (F := (fun (J2 : (ByteArray × Int) → World → Prop) (s : ByteArray × Int) (w : World) => F40_10 R J1 J2 l6 l7 m8 s.1 s.2 ds w)) (s0 := (s9, n10)) (by kernel_rfl) c40_7_0_2_2_0_l ⟨e9, e10⟩ (by kernel_rfl) (fun ρ K hD => by obtain ⟨s9, e9, hD⟩ := dStr_elim hD; obtain ⟨n10, e10, hD⟩ := dInt_elim hD; exact ⟨(s9, n10), ⟨e9, e10⟩, hD⟩)
      (fun J2 s ρ' w' he ha hF => by
      obtain ⟨e9', e10'⟩ := he
      exact F40_10_ok R J1 J2 l6 l7 m8 s.1 s.2 ds w' ρ' ((ha 6 (by kernel_rfl)).trans e6) ((ha 7 (by kernel_rfl)).trans e7) ((ha 8 (by kernel_rfl)).trans e8) e9' e10' hF) h)
theorem F40_12_ok (R : Rt) (J1 : (SV) → World → Prop) (l6 : SV) (l7 : SV) (m8 : Option Nat) (s9 : ByteArray) (n10 : Int) (ds : Ds) (w : World) (ρ : Env) (e6 : ρ 6 = .slice l6.a l6.len l6.cap) (e7 : ρ 7 = .slice l7.a l7.len l7.cap) (e8 : ρ 8 = .map m8) (e9 : ρ 9 = .string s9) (e10 : ρ 10 = .int .i64 n10) (h : F40_12 R J1 l6 l7 m8 s9 n10 ds w) :
    TrL Try.prog Try.f40.ntmps [c40_7_0_2_2, c40_7_0_2_3, c40_7_0_2_4, c40_7_0_2_5, c40_7_0_2_6] (F40_q6 R J1) ρ ds w :=
  TrL_head (K := (F40_k7 R J1)) (Tr_block' (c := innerC c40_7_0_2_2) (by kernel_rfl) c40_7_0_2_2_l (F40_11_ok R J1 l6 l7 m8 s9 n10 ds w ρ e6 e7 e8 e9 e10 h))
    (fun ρ' ds' w' hD => by
      obtain ⟨l6, e6, hD⟩ := dSl_elim hD; obtain ⟨l7, e7, hD⟩ := dSl_elim hD; obtain ⟨m8, e8, hD⟩ := dMap_elim hD; obtain ⟨s9, e9, hD⟩ := dStr_elim hD; exact F40_2_ok R J1 l6 l7 m8 s9 ds' w' ρ' e6 e7 e8 e9 hD)
theorem F40_13_ok (R : Rt) (J1 : (SV) → World → Prop) (l6 : SV) (l7 : SV) (m8 : Option Nat) (ds : Ds) (w : World) (ρ : Env) (e6 : ρ 6 = .slice l6.a l6.len l6.cap) (e7 : ρ 7 = .slice l7.a l7.len l7.cap) (e8 : ρ 8 = .map m8) (h : F40_13 R J1 l6 l7 m8 ds w) :
    TrL Try.prog Try.f40.ntmps [c40_7_0_2_0, c40_7_0_2_1, c40_7_0_2_2, c40_7_0_2_3, c40_7_0_2_4, c40_7_0_2_5, c40_7_0_2_6] (F40_q6 R J1) ρ ds w :=
  TrL_piece (pre := [c40_7_0_2_0, c40_7_0_2_1]) (K := (F40_k20 R J1)) (X := F40_13 R J1 l6 l7 m8 ds w) (setAll_cons e6 (setAll_cons e7 (setAll_cons e8 setAll_nil))) (by kernel_rfl) (by kernel_rfl)
    (fun ρ' ds' w' hD => by
      obtain ⟨l6, e6, hD⟩ := dSl_elim hD; obtain ⟨l7, e7, hD⟩ := dSl_elim hD; obtain ⟨m8, e8, hD⟩ := dMap_elim hD; obtain ⟨s9, e9, hD⟩ := dStr_elim hD; obtain ⟨n10, e10, hD⟩ := dInt_elim hD; exact F40_12_ok R J1 l6 l7 m8 s9 n10 ds' w' ρ' e6 e7 e8 e9 e10 hD) h
theorem F40_14_ok (R : Rt) (J1 : (SV) → World → Prop) (l6 : SV) (l7 : SV) (m8 : Option Nat) (ds : Ds) (w : World) (ρ : Env) (e6 : ρ 6 = .slice l6.a l6.len l6.cap) (e7 : ρ 7 = .slice l7.a l7.len l7.cap) (e8 : ρ 8 = .map m8) (h : F40_14 R J1 l6 l7 m8 ds w) :
    TrL Try.prog Try.f40.ntmps [c40_7_0_2] (F40_q5 R J1) ρ ds w :=
  TrL_one (Tr_block' (c := innerC c40_7_0_2) (by kernel_rfl) c40_7_0_2_l (F40_13_ok R J1 l6 l7 m8 ds w ρ e6 e7 e8 h))
theorem F40_15_ok (R : Rt) (J1 : (SV) → World → Prop) (l6 : SV) (l7 : SV) (m8 : Option Nat) (ds : Ds) (w : World) (ρ : Env) (e6 : ρ 6 = .slice l6.a l6.len l6.cap) (e7 : ρ 7 = .slice l7.a l7.len l7.cap) (e8 : ρ 8 = .map m8) (h : F40_15 R J1 l6 l7 m8 ds w) :
    TrL Try.prog Try.f40.ntmps [c40_7_0_0, c40_7_0_1, c40_7_0_2] (F40_q5 R J1) ρ ds w :=
  TrL_piece (pre := [c40_7_0_0, c40_7_0_1]) (K := (F40_k21 R J1)) (X := F40_15 R J1 l6 l7 m8 ds w) (setAll_cons e6 (setAll_cons e7 (setAll_cons e8 setAll_nil))) (by kernel_rfl) (by kernel_rfl)
    (fun ρ' ds' w' hD => by
      obtain ⟨l6, e6, hD⟩ := dSl_elim hD; obtain ⟨l7, e7, hD⟩ := dSl_elim hD; obtain ⟨m8, e8, hD⟩ := dMap_elim hD; exact F40_14_ok R J1 l6 l7 m8 ds' w' ρ' e6 e7 e8 hD) h
theorem F40_16_ok (R : Rt) (l6 : SV) (l7 : SV) (m8 : Option Nat) (ds : Ds) (w : World) (ρ : Env) (e6 : ρ 6 = .slice l6.a l6.len l6.cap) (e7 : ρ 7 = .slice l7.a l7.len l7.cap) (e8 : ρ 8 = .map m8) (h : F40_16 R l6 l7 m8 ds w) :
    TrL Try.prog Try.f40.ntmps [c40_7_0] (F40_q4 R) ρ ds w :=
  TrL_one (Tr_loop' (c := innerC c40_7_0) (σ := SV) (enc := (fun (s : SV) (ρ : Env) => ρ 7 = .slice s.a s.len s.cap)) (D := (fun ρ K => dSl (ρ 7) fun l7 => K l7)) (F := (fun (J1 : (SV) → World → Prop) (s : SV) (w : World) => F40_15 R J1 l6 s m8 ds w)) (s0 := l7) (by kernel_rfl) c40_7_0_l e7 (by kernel_rfl) (fun ρ K hD => by obtain ⟨l7, e7, hD⟩ := dSl_elim hD; exact ⟨l7, e7, hD⟩)
      (fun J1 s ρ' w' he ha hF => by
      have e7' := he
      exact F40_15_ok R J1 l6 s m8 ds w' ρ' ((ha 6 (by kernel_rfl)).trans e6) e7' ((ha 8 (by kernel_rfl)).trans e8) hF) h)
theorem F40_17_ok (R : Rt) (l6 : SV) (l7 : SV) (m8 : Option Nat) (ds : Ds) (w : World) (ρ : Env) (e6 : ρ 6 = .slice l6.a l6.len l6.cap) (e7 : ρ 7 = .slice l7.a l7.len l7.cap) (e8 : ρ 8 = .map m8) (h : F40_17 R l6 l7 m8 ds w) :
    TrL Try.prog Try.f40.ntmps [c40_7, c40_8, c40_9] (F40_q1 R) ρ ds w :=
  TrL_head (K := (F40_k2 R)) (Tr_block' (c := innerC c40_7) (by kernel_rfl) c40_7_l (F40_16_ok R l6 l7 m8 ds w ρ e6 e7 e8 h))
    (fun ρ' ds' w' hD => by
      obtain ⟨l7, e7, hD⟩ := dSl_elim hD; exact F40_1_ok R l7 ds' w' ρ' e7 hD)
theorem F40_18_ok (R : Rt) (l0 : SV) (ds : Ds) (w : World) (ρ : Env) (e0 : ρ 0 = .slice l0.a l0.len l0.cap) (h : F40_18 R l0 ds w) :
    TrL Try.prog Try.f40.ntmps [c40_0, c40_1, c40_2, c40_3, c40_4, c40_5, c40_6, c40_7, c40_8, c40_9] (F40_q1 R) ρ ds w :=
  TrL_piece (pre := [c40_0, c40_1, c40_2, c40_3, c40_4, c40_5, c40_6]) (K := (F40_k22 R)) (X := F40_18 R l0 ds w) (setAll_cons e0 setAll_nil) (by kernel_rfl) (by kernel_rfl)
    (fun ρ' ds' w' hD => by
      obtain ⟨l6, e6, hD⟩ := dSl_elim hD; obtain ⟨l7, e7, hD⟩ := dSl_elim hD; obtain ⟨m8, e8, hD⟩ := dMap_elim hD; exact F40_17_ok R l6 l7 m8 ds' w' ρ' e6 e7 e8 hD) h
theorem F40_calls (l0 : SV) (w : World) (R : Rt) (h : F40_18 R l0 [] w) : Calls Try.prog 40 #[.slice l0.a l0.len l0.cap] w R :=
  calls_of_L (l := [c40_0, c40_1, c40_2, c40_3, c40_4, c40_5, c40_6, c40_7, c40_8, c40_9]) Try.func40 (by kernel_rfl) (by rw [Try.ntmps40]; exact Nat.le_of_ble_eq_true (by kernel_rfl)) c40_l
    (F40_18_ok R l0 [] w _ rfl h)
theorem F40_callsD (l0 : SV) (w : World) (R : Rt) (u : FrameMode) (h : F40_18 R l0 [] w) : CallsD Try.prog 40 #[.slice l0.a l0.len l0.cap] u w fun e u' w' => u' = u ∧ R e w' :=
  callsD_of_L (l := [c40_0, c40_1, c40_2, c40_3, c40_4, c40_5, c40_6, c40_7, c40_8, c40_9]) Try.func40 (by kernel_rfl) (by rw [Try.ntmps40]; exact Nat.le_of_ble_eq_true (by kernel_rfl)) (by kernel_rfl) c40_l
    (F40_18_ok R l0 [] w _ rfl h) u

/-! function 77: maps.Keys[map[string]cabinetry/link.proc,string,cabinetry/link.proc] -/
noncomputable def c77_0 : Code := itemAt (flat (bodyOf Try.f77)) 0
noncomputable def c77_1 : Code := itemAt (flat (bodyOf Try.f77)) 1
noncomputable def c77_2 : Code := itemAt (flat (bodyOf Try.f77)) 2
def F77_q1 (R : Rt) : EQ := endQ Try.prog Try.f77.results.toList R
def F77_1 (R : Rt) (m0 : Option Nat) (ds : Ds) (w : World) : Prop :=
 alE (.cells #[.map m0] 57) w fun r1 w1 =>
 runD Try.prog ds w1 fun w2 =>
 R (.returned (.func (.func 106) #[] #[.pointer (some (⟨r1, 0, none⟩ : Addr))])) w2
theorem c77_l : flat (bodyOf Try.f77) = [c77_0, c77_1, c77_2] := by kernel_rfl
theorem F77_1_ok (R : Rt) (m0 : Option Nat) (ds : Ds) (w : World) (ρ : Env) (e0 : ρ 0 = .map m0) (h : F77_1 R m0 ds w) :
    TrL Try.prog Try.f77.ntmps [c77_0, c77_1, c77_2] (F77_q1 R) ρ ds w :=
  TrL_leaf (X := F77_1 R m0 ds w) (setAll_cons e0 setAll_nil) (by kernel_rfl) (by kernel_rfl) h
theorem F77_calls (m0 : Option Nat) (w : World) (R : Rt) (h : F77_1 R m0 [] w) : Calls Try.prog 77 #[.map m0] w R :=
  calls_of_L (l := [c77_0, c77_1, c77_2]) Try.func77 (by kernel_rfl) (by rw [Try.ntmps77]; exact Nat.le_of_ble_eq_true (by kernel_rfl)) c77_l
    (F77_1_ok R m0 [] w _ rfl h)
theorem F77_callsD (m0 : Option Nat) (w : World) (R : Rt) (u : FrameMode) (h : F77_1 R m0 [] w) : CallsD Try.prog 77 #[.map m0] u w fun e u' w' => u' = u ∧ R e w' :=
  callsD_of_L (l := [c77_0, c77_1, c77_2]) Try.func77 (by kernel_rfl) (by rw [Try.ntmps77]; exact Nat.le_of_ble_eq_true (by kernel_rfl)) (by kernel_rfl) c77_l
    (F77_1_ok R m0 [] w _ rfl h) u

/-! function 79: cabinetry/link.Order$1 -/
noncomputable def c79_0 : Code := itemAt (flat (bodyOf Try.f79)) 0
noncomputable def c79_1 : Code := itemAt (flat (bodyOf Try.f79)) 1
noncomputable def c79_2 : Code := itemAt (flat (bodyOf Try.f79)) 2
def F79_q1 (R : Rt) : EQ := endQ Try.prog Try.f79.results.toList R
def F79_1 (R : Rt) (s0 : ByteArray) (v1 : Value) (v2 : Value) (ds : Ds) (w : World) : Prop :=
 addrE v1 fun a1 =>
 ∃ m5 : Option Nat, w.cell? a1 = some (.map m5) ∧
 ∃ b7 : Bool, ∃ w2 : World, (Instr.lookup 82 (.map m5) (.string s0) false).run Try.prog w = .ok (.bool b7) w2 ∧
 Br (!b7) (
 addrE v2 fun a3 =>
 ∃ m10 : Option Nat, w2.cell? a3 = some (.map m10) ∧
 ∃ n12_0 : Int, ∃ l12_1 : SV, ∃ w4 : World, (Instr.lookup 57 (.map m10) (.string s0) false).run Try.prog w2 = .ok (.agg #[.int .i64 n12_0, .slice l12_1.a l12_1.len l12_1.cap]) w4 ∧
 Calls Try.prog 80 #[.slice l12_1.a l12_1.len l12_1.cap, .func (.func 81) #[] #[v1]] w4 fun e w5 =>
 ∃ b15 : Bool, e = .returned (.bool b15) ∧
 runD Try.prog ds w5 fun w6 =>
 R (.returned (.bool (!b15))) w6) (
 runD Try.prog ds w2 fun w7 =>
 R (.returned (.bool false)) w7)
theorem c79_l : flat (bodyOf Try.f79) = [c79_0, c79_1, c79_2] := by kernel_rfl
theorem F79_1_ok (R : Rt) (s0 : ByteArray) (v1 : Value) (v2 : Value) (ds : Ds) (w : World) (ρ : Env) (e0 : ρ 0 = .string s0) (e1 : ρ 1 = v1) (e2 : ρ 2 = v2) (h : F79_1 R s0 v1 v2 ds w) :
    TrL Try.prog Try.f79.ntmps [c79_0, c79_1, c79_2] (F79_q1 R) ρ ds w :=
  TrL_leaf (X := F79_1 R s0 v1 v2 ds w) (setAll_cons e0 (setAll_cons e1 (setAll_cons e2 setAll_nil))) (by kernel_rfl) (by kernel_rfl) h
theorem F79_calls (s0 : ByteArray) (v1 : Value) (v2 : Value) (w : World) (R : Rt) (h : F79_1 R s0 v1 v2 [] w) : Calls Try.prog 79 #[.string s0, v1, v2] w R :=
  calls_of_L (l := [c79_0, c79_1, c79_2]) Try.func79 (by kernel_rfl) (by rw [Try.ntmps79]; exact Nat.le_of_ble_eq_true (by kernel_rfl)) c79_l
    (F79_1_ok R s0 v1 v2 [] w _ rfl rfl rfl h)
theorem F79_callsD (s0 : ByteArray) (v1 : Value) (v2 : Value) (w : World) (R : Rt) (u : FrameMode) (h : F79_1 R s0 v1 v2 [] w) : CallsD Try.prog 79 #[.string s0, v1, v2] u w fun e u' w' => u' = u ∧ R e w' :=
  callsD_of_L (l := [c79_0, c79_1, c79_2]) Try.func79 (by kernel_rfl) (by rw [Try.ntmps79]; exact Nat.le_of_ble_eq_true (by kernel_rfl)) (by kernel_rfl) c79_l
    (F79_1_ok R s0 v1 v2 [] w _ rfl rfl rfl h) u

/-! function 81: cabinetry/link.Order$1$1 -/
noncomputable def c81_0 : Code := itemAt (flat (bodyOf Try.f81)) 0
noncomputable def c81_1 : Code := itemAt (flat (bodyOf Try.f81)) 1
noncomputable def c81_2 : Code := itemAt (flat (bodyOf Try.f81)) 2
def F81_q1 (R : Rt) : EQ := endQ Try.prog Try.f81.results.toList R
def F81_1 (R : Rt) (s0 : ByteArray) (v1 : Value) (ds : Ds) (w : World) : Prop :=
 addrE v1 fun a1 =>
 ∃ m4 : Option Nat, w.cell? a1 = some (.map m4) ∧
 ∃ b6 : Bool, ∃ w2 : World, (Instr.lookup 82 (.map m4) (.string s0) false).run Try.prog w = .ok (.bool b6) w2 ∧
 runD Try.prog ds w2 fun w3 =>
 R (.returned (.bool (!b6))) w3
theorem c81_l : flat (bodyOf Try.f81) = [c81_0, c81_1, c81_2] := by kernel_rfl
theorem F81_1_ok (R : Rt) (s0 : ByteArray) (v1 : Value) (ds : Ds) (w : World) (ρ : Env) (e0 : ρ 0 = .string s0) (e1 : ρ 1 = v1) (h : F81_1 R s0 v1 ds w) :
    TrL Try.prog Try.f81.ntmps [c81_0, c81_1, c81_2] (F81_q1 R) ρ ds w :=
  TrL_leaf (X := F81_1 R s0 v1 ds w) (setAll_cons e0 (setAll_cons e1 setAll_nil)) (by kernel_rfl) (by kernel_rfl) h
theorem F81_calls (s0 : ByteArray) (v1 : Value) (w : World) (R : Rt) (h : F81_1 R s0 v1 [] w) : Calls Try.prog 81 #[.string s0, v1] w R :=
  calls_of_L (l := [c81_0, c81_1, c81_2]) Try.func81 (by kernel_rfl) (by rw [Try.ntmps81]; exact Nat.le_of_ble_eq_true (by kernel_rfl)) c81_l
    (F81_1_ok R s0 v1 [] w _ rfl rfl h)
theorem F81_callsD (s0 : ByteArray) (v1 : Value) (w : World) (R : Rt) (u : FrameMode) (h : F81_1 R s0 v1 [] w) : CallsD Try.prog 81 #[.string s0, v1] u w fun e u' w' => u' = u ∧ R e w' :=
  callsD_of_L (l := [c81_0, c81_1, c81_2]) Try.func81 (by kernel_rfl) (by rw [Try.ntmps81]; exact Nat.le_of_ble_eq_true (by kernel_rfl)) (by kernel_rfl) c81_l
    (F81_1_ok R s0 v1 [] w _ rfl rfl h) u

end Go.Proofs.Ytcnenlmhbpijlaa
