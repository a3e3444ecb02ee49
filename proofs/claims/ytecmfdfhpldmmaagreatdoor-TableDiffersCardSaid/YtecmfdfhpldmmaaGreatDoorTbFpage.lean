import Derived.Test.YtecmfdfhpldmmaaGreatDoorProg
import Derived.Test.YtecmfdfhpldmmaaGreatDoorShEight
/- Shallow texts of functions, printed by program, each checked by the kernel against the loaded code. No condition. -/
set_option maxRecDepth 100000
set_option linter.unusedVariables false
namespace Go.Proofs.YtecmfdfhpldmmaaGreatDoor
open Go.Sh
/-! function 52: cabinetry/table.isText -/
noncomputable def c52_0 : Code := itemAt (flat (bodyOf Tryz.f52)) 0
noncomputable def c52_1 : Code := itemAt (flat (bodyOf Tryz.f52)) 1
noncomputable def c52_2 : Code := itemAt (flat (bodyOf Tryz.f52)) 2
noncomputable def c52_3 : Code := itemAt (flat (bodyOf Tryz.f52)) 3
def F52_q1 (R : Rt) : EQ := endQ Tryz.prog Tryz.f52.results.toList R
def F52_1 (R : Rt) (s0 : ByteArray) (n1 : Int) (ds : Ds) (w : World) : Prop :=
 Calls Tryz.prog 96 #[.string s0, .int .i64 n1] w fun e w1 =>
 ∃ b10_0 : Bool, ∃ n10_1 : Int, e = .returned (.tuple #[.bool b10_0, .int .i64 n10_1]) ∧
 Br b10_0 (
 runD Tryz.prog ds w1 fun w2 =>
 R (.returned (.bool (n10_1 == 0))) w2) (
 runD Tryz.prog ds w1 fun w3 =>
 R (.returned (.bool false)) w3)
theorem c52_l : flat (bodyOf Tryz.f52) = [c52_0, c52_1, c52_2, c52_3] := by kernel_rfl
theorem F52_1_ok (R : Rt) (s0 : ByteArray) (n1 : Int) (ds : Ds) (w : World) (ρ : Env) (e0 : ρ 0 = .string s0) (e1 : ρ 1 = .int .i64 n1) (h : F52_1 R s0 n1 ds w) :
    TrL Tryz.prog Tryz.f52.ntmps [c52_0, c52_1, c52_2, c52_3] (F52_q1 R) ρ ds w :=
  TrL_leaf (X := F52_1 R s0 n1 ds w) (setAll_cons e0 (setAll_cons e1 setAll_nil)) (by kernel_rfl) (by kernel_rfl) h
theorem F52_calls (s0 : ByteArray) (n1 : Int) (w : World) (R : Rt) (h : F52_1 R s0 n1 [] w) : Calls Tryz.prog 52 #[.string s0, .int .i64 n1] w R :=
  calls_of_L (l := [c52_0, c52_1, c52_2, c52_3]) Tryz.func52 (by kernel_rfl) (by rw [Tryz.ntmps52]; exact Nat.le_of_ble_eq_true (by kernel_rfl)) c52_l
    (F52_1_ok R s0 n1 [] w _ rfl rfl h)
theorem F52_callsD (s0 : ByteArray) (n1 : Int) (w : World) (R : Rt) (u : FrameMode) (h : F52_1 R s0 n1 [] w) : CallsD Tryz.prog 52 #[.string s0, .int .i64 n1] u w fun e u' w' => u' = u ∧ R e w' :=
  callsD_of_L (l := [c52_0, c52_1, c52_2, c52_3]) Tryz.func52 (by kernel_rfl) (by rw [Tryz.ntmps52]; exact Nat.le_of_ble_eq_true (by kernel_rfl)) (by kernel_rfl) c52_l
    (F52_1_ok R s0 n1 [] w _ rfl rfl h) u

/-! function 96: cabinetry/page.Valid -/
noncomputable def c96_0 : Code := itemAt (flat (bodyOf Tryz.f96)) 0
noncomputable def c96_1 : Code := itemAt (flat (bodyOf Tryz.f96)) 1
noncomputable def c96_2 : Code := itemAt (flat (bodyOf Tryz.f96)) 2
noncomputable def c96_3 : Code := itemAt (flat (bodyOf Tryz.f96)) 3
noncomputable def c96_4 : Code := itemAt (flat (bodyOf Tryz.f96)) 4
noncomputable def c96_5 : Code := itemAt (flat (bodyOf Tryz.f96)) 5
noncomputable def c96_6 : Code := itemAt (flat (bodyOf Tryz.f96)) 6
noncomputable def c96_7 : Code := itemAt (flat (bodyOf Tryz.f96)) 7
noncomputable def c96_8 : Code := itemAt (flat (bodyOf Tryz.f96)) 8
noncomputable def c96_6_0 : Code := itemAt (flat (innerC c96_6)) 0
noncomputable def c96_6_0_0 : Code := itemAt (flat (innerC c96_6_0)) 0
noncomputable def c96_6_0_1 : Code := itemAt (flat (innerC c96_6_0)) 1
noncomputable def c96_6_0_2 : Code := itemAt (flat (innerC c96_6_0)) 2
noncomputable def c96_6_0_3 : Code := itemAt (flat (innerC c96_6_0)) 3
def F96_q1 (R : Rt) : EQ := endQ Tryz.prog Tryz.f96.results.toList R
def F96_1 (R : Rt) (ds : Ds) (w : World) : Prop :=
 runD Tryz.prog ds w fun w1 =>
 R (.returned (.tuple #[.bool true, .int .i64 0])) w1
def F96_k2 (R : Rt) : EP := (fun ρ ds w => F96_1 R ds w)
def F96_q3 (R : Rt) : EQ := (thenQ (F96_k2 R) (F96_q1 R))
def F96_q4 (R : Rt) : EQ := (blockQ 0 (F96_q3 R))
def F96_q5 (R : Rt) (J1 : (Int) → World → Prop) : EQ := (thenQ (fun ρ _ w => dInt .i64 (ρ 23) fun n23 => J1 n23 w) (F96_q4 R))
def F96_2 (R : Rt) (J1 : (Int) → World → Prop) (p7 : Option Addr) (l21 : SV) (n22 : Int) (n23 : Int) (ds : Ds) (w : World) : Prop :=
 Br (decide (n23 < n22)) (
 ∃ a2 : Addr, l21.a = some a2 ∧ 0 ≤ n23 ∧ n23 < ((l21.len : Nat) : Int) ∧
 ∃ n26 : Int, w.cell? (a2.add (n23.toNat * 1)) = some (.int .u8 n26) ∧
 ptrE p7 fun a3 =>
 0 ≤ n26 ∧ n26 < ((256 : Nat) : Int) ∧
 ∃ n29 : Int, w.cell? (a3.add (n26.toNat * 1)) = some (.int .i32 n29) ∧
 Br (decide (n29 < 0)) (
 runD Tryz.prog ds w fun w4 =>
 R (.returned (.tuple #[.bool false, .int .i64 0])) w4) (
 J1 (IntKind.i64.wrap (n23 + 1)) w)) (
 F96_1 R ds w)
def F96_3 (R : Rt) (p7 : Option Addr) (l21 : SV) (n22 : Int) (n23 : Int) (ds : Ds) (w : World) : Prop :=
 loopT (fun (J1 : (Int) → World → Prop) (s : Int) (w : World) => F96_2 R J1 p7 l21 n22 s ds w) n23 w
@[reducible] def F96_4 (R : Rt) (p7 : Option Addr) (l21 : SV) (n22 : Int) (n23 : Int) (ds : Ds) (w : World) : Prop := F96_3 R p7 l21 n22 n23 ds w
def F96_k6 (R : Rt) : EP := (fun ρ ds w => dPtr (ρ 7) fun p7 => dSl (ρ 21) fun l21 => dInt .i64 (ρ 22) fun n22 => dInt .i64 (ρ 23) fun n23 => F96_4 R p7 l21 n22 n23 ds w)
def F96_5 (R : Rt) (s0 : ByteArray) (n1 : Int) (ds : Ds) (w : World) : Prop :=
 alE (.cells #[.string s0] 9) w fun r12 w5 =>
 Calls Tryz.prog 140 #[.int .i64 n1, .slice (some ⟨r12, 0, none⟩) 1 1] w5 fun e w6 =>
 ∃ n13 : Int, e = .returned (.int .i64 n13) ∧
 Br (n13 != 0) (
 runD Tryz.prog ds w6 fun w7 =>
 R (.returned (.tuple #[.bool false, .int .i64 n13])) w7) (
 Calls Tryz.prog 141 #[] w6 fun e w8 =>
 ∃ c17 : Array Value, c17.size = 768 ∧ e = .returned (.agg c17) ∧
 ∃ c19 : Array Value, c19.size = 256 ∧ ∃ w9 : World, (Instr.index 149 (.agg c17) (.int .i64 n1)).run Tryz.prog w8 = .ok (.agg c19) w9 ∧
 alE (.cells (zc Tryz.prog 148) 148) w9 fun r7 w10 =>
 stA Tryz.prog 148 (⟨r7, 0, none⟩ : Addr) c19 w10 fun w11 =>
 ∃ l21 : SV, ∃ w12 : World, (convert 9 37 (.string s0)).run Tryz.prog w11 = .ok (.slice l21.a l21.len l21.cap) w12 ∧
 F96_4 R (some (⟨r7, 0, none⟩ : Addr)) l21 ((l21.len : Nat) : Int) 0 ds w12)
theorem c96_l : flat (bodyOf Tryz.f96) = [c96_0, c96_1, c96_2, c96_3, c96_4, c96_5, c96_6, c96_7, c96_8] := by kernel_rfl
theorem c96_6_l : flat (innerC c96_6) = [c96_6_0] := by kernel_rfl
theorem c96_6_0_l : flat (innerC c96_6_0) = [c96_6_0_0, c96_6_0_1, c96_6_0_2, c96_6_0_3] := by kernel_rfl
theorem F96_1_ok (R : Rt) (ds : Ds) (w : World) (ρ : Env) (h : F96_1 R ds w) :
    TrL Tryz.prog Tryz.f96.ntmps [c96_7, c96_8] (F96_q1 R) ρ ds w :=
  TrL_leaf (X := F96_1 R ds w) setAll_nil (by kernel_rfl) (by kernel_rfl) h
theorem F96_2_ok (R : Rt) (J1 : (Int) → World → Prop) (p7 : Option Addr) (l21 : SV) (n22 : Int) (n23 : Int) (ds : Ds) (w : World) (ρ : Env) (e7 : ρ 7 = .pointer p7) (e21 : ρ 21 = .slice l21.a l21.len l21.cap) (e22 : ρ 22 = .int .i64 n22) (e23 : ρ 23 = .int .i64 n23) (h : F96_2 R J1 p7 l21 n22 n23 ds w) :
    TrL Tryz.prog Tryz.f96.ntmps [c96_6_0_0, c96_6_0_1, c96_6_0_2, c96_6_0_3] (F96_q5 R J1) ρ ds w :=
  TrL_leaf (X := F96_2 R J1 p7 l21 n22 n23 ds w) (setAll_cons e7 (setAll_cons e21 (setAll_cons e22 (setAll_cons e23 setAll_nil)))) (by kernel_rfl) (by kernel_rfl) h
theorem F96_3_ok (R : Rt) (p7 : Option Addr) (l21 : SV) (n22 : Int) (n23 : Int) (ds : Ds) (w : World) (ρ : Env) (e7 : ρ 7 = .pointer p7) (e21 : ρ 21 = .slice l21.a l21.len l21.cap) (e22 : ρ 22 = .int .i64 n22) (e23 : ρ 23 = .int .i64 n23) (h : F96_3 R p7 l21 n22 n23 ds w) :
    TrL Tryz.prog Tryz.f96.ntmps [c96_6_0] (F96_q4 R) ρ ds w :=
  TrL_one (Tr_loop' (c := innerC c96_6_0) (σ := Int) (enc := (fun (s : Int) (ρ : Env) => ρ 23 = .int .i64 s)) (D := (fun ρ K => dInt .i64 (ρ 23) fun n23 => K n23)) (F := (fun (J1 : (Int) → World → Prop) (s : Int) (w : World) => F96_2 R J1 p7 l21 n22 s ds w)) (s0 := n23) (by kernel_rfl) c96_6_0_l e23 (by kernel_rfl) (fun ρ K hD => by obtain ⟨n23, e23, hD⟩ := dInt_elim hD; exact ⟨n23, e23, hD⟩)
      (fun J1 s ρ' w' he ha hF => by
      have e23' := he
      exact F96_2_ok R J1 p7 l21 n22 s ds w' ρ' ((ha 7 (by kernel_rfl)).trans e7) ((ha 21 (by kernel_rfl)).trans e21) ((ha 22 (by kernel_rfl)).trans e22) e23' hF) h)
theorem F96_4_ok (R : Rt) (p7 : Option Addr) (l21 : SV) (n22 : Int) (n23 : Int) (ds : Ds) (w : World) (ρ : Env) (e7 : ρ 7 = .pointer p7) (e21 : ρ 21 = .slice l21.a l21.len l21.cap) (e22 : ρ 22 = .int .i64 n22) (e23 : ρ 23 = .int .i64 n23) (h : F96_4 R p7 l21 n22 n23 ds w) :
    TrL Tryz.prog Tryz.f96.ntmps [c96_6, c96_7, c96_8] (F96_q1 R) ρ ds w :=
  TrL_head (K := (F96_k2 R)) (Tr_block' (c := innerC c96_6) (by kernel_rfl) c96_6_l (F96_3_ok R p7 l21 n22 n23 ds w ρ e7 e21 e22 e23 h))
    (fun ρ' ds' w' hD => by
      exact F96_1_ok R ds' w' ρ'  hD)
theorem F96_5_ok (R : Rt) (s0 : ByteArray) (n1 : Int) (ds : Ds) (w : World) (ρ : Env) (e0 : ρ 0 = .string s0) (e1 : ρ 1 = .int .i64 n1) (h : F96_5 R s0 n1 ds w) :
    TrL Tryz.prog Tryz.f96.ntmps [c96_0, c96_1, c96_2, c96_3, c96_4, c96_5, c96_6, c96_7, c96_8] (F96_q1 R) ρ ds w :=
  TrL_piece (pre := [c96_0, c96_1, c96_2, c96_3, c96_4, c96_5]) (K := (F96_k6 R)) (X := F96_5 R s0 n1 ds w) (setAll_cons e0 (setAll_cons e1 setAll_nil)) (by kernel_rfl) (by kernel_rfl)
    (fun ρ' ds' w' hD => by
      obtain ⟨p7, e7, hD⟩ := dPtr_elim hD; obtain ⟨l21, e21, hD⟩ := dSl_elim hD; obtain ⟨n22, e22, hD⟩ := dInt_elim hD; obtain ⟨n23, e23, hD⟩ := dInt_elim hD; exact F96_4_ok R p7 l21 n22 n23 ds' w' ρ' e7 e21 e22 e23 hD) h
theorem F96_calls (s0 : ByteArray) (n1 : Int) (w : World) (R : Rt) (h : F96_5 R s0 n1 [] w) : Calls Tryz.prog 96 #[.string s0, .int .i64 n1] w R :=
  calls_of_L (l := [c96_0, c96_1, c96_2, c96_3, c96_4, c96_5, c96_6, c96_7, c96_8]) Tryz.func96 (by kernel_rfl) (by rw [Tryz.ntmps96]; exact Nat.le_of_ble_eq_true (by kernel_rfl)) c96_l
    (F96_5_ok R s0 n1 [] w _ rfl rfl h)
theorem F96_callsD (s0 : ByteArray) (n1 : Int) (w : World) (R : Rt) (u : FrameMode) (h : F96_5 R s0 n1 [] w) : CallsD Tryz.prog 96 #[.string s0, .int .i64 n1] u w fun e u' w' => u' = u ∧ R e w' :=
  callsD_of_L (l := [c96_0, c96_1, c96_2, c96_3, c96_4, c96_5, c96_6, c96_7, c96_8]) Tryz.func96 (by kernel_rfl) (by rw [Tryz.ntmps96]; exact Nat.le_of_ble_eq_true (by kernel_rfl)) (by kernel_rfl) c96_l
    (F96_5_ok R s0 n1 [] w _ rfl rfl h) u

/-! function 140: cabinetry/page.asked -/
noncomputable def c140_0 : Code := itemAt (flat (bodyOf Tryz.f140)) 0
noncomputable def c140_1 : Code := itemAt (flat (bodyOf Tryz.f140)) 1
noncomputable def c140_2 : Code := itemAt (flat (bodyOf Tryz.f140)) 2
noncomputable def c140_3 : Code := itemAt (flat (bodyOf Tryz.f140)) 3
noncomputable def c140_4 : Code := itemAt (flat (bodyOf Tryz.f140)) 4
noncomputable def c140_5 : Code := itemAt (flat (bodyOf Tryz.f140)) 5
noncomputable def c140_6 : Code := itemAt (flat (bodyOf Tryz.f140)) 6
noncomputable def c140_2_0 : Code := itemAt (flat (innerC c140_2)) 0
noncomputable def c140_2_0_0 : Code := itemAt (flat (innerC c140_2_0)) 0
noncomputable def c140_2_0_1 : Code := itemAt (flat (innerC c140_2_0)) 1
noncomputable def c140_2_0_2 : Code := itemAt (flat (innerC c140_2_0)) 2
noncomputable def c140_2_0_3 : Code := itemAt (flat (innerC c140_2_0)) 3
def F140_q1 (R : Rt) : EQ := endQ Tryz.prog Tryz.f140.results.toList R
def F140_1 (R : Rt) (n0 : Int) (ds : Ds) (w : World) : Prop :=
 Br (decide (n0 < 0)) (
 runD Tryz.prog ds w fun w1 =>
 R (.returned (.int .i64 1)) w1) (
 Br (decide (n0 > 2)) (
 runD Tryz.prog ds w fun w2 =>
 R (.returned (.int .i64 1)) w2) (
 runD Tryz.prog ds w fun w3 =>
 R (.returned (.int .i64 0)) w3))
def F140_k2 (R : Rt) : EP := (fun ρ ds w => dInt .i64 (ρ 0) fun n0 => F140_1 R n0 ds w)
def F140_q3 (R : Rt) : EQ := (thenQ (F140_k2 R) (F140_q1 R))
def F140_q4 (R : Rt) : EQ := (blockQ 0 (F140_q3 R))
def F140_q5 (R : Rt) (J1 : (Int) → World → Prop) : EQ := (thenQ (fun ρ _ w => dInt .i64 (ρ 9) fun n9 => J1 n9 w) (F140_q4 R))
def F140_2 (R : Rt) (J1 : (Int) → World → Prop) (n0 : Int) (l7 : SV) (n8 : Int) (n9 : Int) (ds : Ds) (w : World) : Prop :=
 Br (decide (n9 < n8)) (
 ∃ a4 : Addr, l7.a = some a4 ∧ 0 ≤ n9 ∧ n9 < ((l7.len : Nat) : Int) ∧
 ∃ s12 : ByteArray, w.cell? (a4.add (n9.toNat * 1)) = some (.string s12) ∧
 Br (decide (((s12.size : Nat) : Int) > 2048)) (
 runD Tryz.prog ds w fun w5 =>
 R (.returned (.int .i64 3)) w5) (
 J1 (IntKind.i64.wrap (n9 + 1)) w)) (
 F140_1 R n0 ds w)
def F140_3 (R : Rt) (n0 : Int) (l7 : SV) (n8 : Int) (n9 : Int) (ds : Ds) (w : World) : Prop :=
 loopT (fun (J1 : (Int) → World → Prop) (s : Int) (w : World) => F140_2 R J1 n0 l7 n8 s ds w) n9 w
@[reducible] def F140_4 (R : Rt) (n0 : Int) (l7 : SV) (n8 : Int) (n9 : Int) (ds : Ds) (w : World) : Prop := F140_3 R n0 l7 n8 n9 ds w
def F140_k6 (R : Rt) : EP := (fun ρ ds w => dInt .i64 (ρ 0) fun n0 => dSl (ρ 7) fun l7 => dInt .i64 (ρ 8) fun n8 => dInt .i64 (ρ 9) fun n9 => F140_4 R n0 l7 n8 n9 ds w)
def F140_5 (R : Rt) (n0 : Int) (l1 : SV) (ds : Ds) (w : World) : Prop :=
 F140_4 R n0 l1 ((l1.len : Nat) : Int) 0 ds w
theorem c140_l : flat (bodyOf Tryz.f140) = [c140_0, c140_1, c140_2, c140_3, c140_4, c140_5, c140_6] := by kernel_rfl
theorem c140_2_l : flat (innerC c140_2) = [c140_2_0] := by kernel_rfl
theorem c140_2_0_l : flat (innerC c140_2_0) = [c140_2_0_0, c140_2_0_1, c140_2_0_2, c140_2_0_3] := by kernel_rfl
theorem F140_1_ok (R : Rt) (n0 : Int) (ds : Ds) (w : World) (ρ : Env) (e0 : ρ 0 = .int .i64 n0) (h : F140_1 R n0 ds w) :
    TrL Tryz.prog Tryz.f140.ntmps [c140_3, c140_4, c140_5, c140_6] (F140_q1 R) ρ ds w :=
  TrL_leaf (X := F140_1 R n0 ds w) (setAll_cons e0 setAll_nil) (by kernel_rfl) (by kernel_rfl) h
theorem F140_2_ok (R : Rt) (J1 : (Int) → World → Prop) (n0 : Int) (l7 : SV) (n8 : Int) (n9 : Int) (ds : Ds) (w : World) (ρ : Env) (e0 : ρ 0 = .int .i64 n0) (e7 : ρ 7 = .slice l7.a l7.len l7.cap) (e8 : ρ 8 = .int .i64 n8) (e9 : ρ 9 = .int .i64 n9) (h : F140_2 R J1 n0 l7 n8 n9 ds w) :
    TrL Tryz.prog Tryz.f140.ntmps [c140_2_0_0, c140_2_0_1, c140_2_0_2, c140_2_0_3] (F140_q5 R J1) ρ ds w :=
  TrL_leaf (X := F140_2 R J1 n0 l7 n8 n9 ds w) (setAll_cons e0 (setAll_cons e7 (setAll_cons e8 (setAll_cons e9 setAll_nil)))) (by kernel_rfl) (by kernel_rfl) h
theorem F140_3_ok (R : Rt) (n0 : Int) (l7 : SV) (n8 : Int) (n9 : Int) (ds : Ds) (w : World) (ρ : Env) (e0 : ρ 0 = .int .i64 n0) (e7 : ρ 7 = .slice l7.a l7.len l7.cap) (e8 : ρ 8 = .int .i64 n8) (e9 : ρ 9 = .int .i64 n9) (h : F140_3 R n0 l7 n8 n9 ds w) :
    TrL Tryz.prog Tryz.f140.ntmps [c140_2_0] (F140_q4 R) ρ ds w :=
  TrL_one (Tr_loop' (c := innerC c140_2_0) (σ := Int) (enc := (fun (s : Int) (ρ : Env) => ρ 9 = .int .i64 s)) (D := (fun ρ K => dInt .i64 (ρ 9) fun n9 => K n9)) (F := (fun (J1 : (Int) → World → Prop) (s : Int) (w : World) => F140_2 R J1 n0 l7 n8 s ds w)) (s0 := n9) (by kernel_rfl) c140_2_0_l e9 (by kernel_rfl) (fun ρ K hD => by obtain ⟨n9, e9, hD⟩ := dInt_elim hD; exact ⟨n9, e9, hD⟩)
      (fun J1 s ρ' w' he ha hF => by
      have e9' := he
      exact F140_2_ok R J1 n0 l7 n8 s ds w' ρ' ((ha 0 (by kernel_rfl)).trans e0) ((ha 7 (by kernel_rfl)).trans e7) ((ha 8 (by kernel_rfl)).trans e8) e9' hF) h)
theorem F140_4_ok (R : Rt) (n0 : Int) (l7 : SV) (n8 : Int) (n9 : Int) (ds : Ds) (w : World) (ρ : Env) (e0 : ρ 0 = .int .i64 n0) (e7 : ρ 7 = .slice l7.a l7.len l7.cap) (e8 : ρ 8 = .int .i64 n8) (e9 : ρ 9 = .int .i64 n9) (h : F140_4 R n0 l7 n8 n9 ds w) :
    TrL Tryz.prog Tryz.f140.ntmps [c140_2, c140_3, c140_4, c140_5, c140_6] (F140_q1 R) ρ ds w :=
  TrL_head (K := (F140_k2 R)) (Tr_block' (c := innerC c140_2) (by kernel_rfl) c140_2_l (F140_3_ok R n0 l7 n8 n9 ds w ρ e0 e7 e8 e9 h))
    (fun ρ' ds' w' hD => by
      obtain ⟨n0, e0, hD⟩ := dInt_elim hD; exact F140_1_ok R n0 ds' w' ρ' e0 hD)
theorem F140_5_ok (R : Rt) (n0 : Int) (l1 : SV) (ds : Ds) (w : World) (ρ : Env) (e0 : ρ 0 = .int .i64 n0) (e1 : ρ 1 = .slice l1.a l1.len l1.cap) (h : F140_5 R n0 l1 ds w) :
    TrL Tryz.prog Tryz.f140.ntmps [c140_0, c140_1, c140_2, c140_3, c140_4, c140_5, c140_6] (F140_q1 R) ρ ds w :=
  TrL_piece (pre := [c140_0, c140_1]) (K := (F140_k6 R)) (X := F140_5 R n0 l1 ds w) (setAll_cons e0 (setAll_cons e1 setAll_nil)) (by kernel_rfl) (by kernel_rfl)
    (fun ρ' ds' w' hD => by
      obtain ⟨n0, e0, hD⟩ := dInt_elim hD; obtain ⟨l7, e7, hD⟩ := dSl_elim hD; obtain ⟨n8, e8, hD⟩ := dInt_elim hD; obtain ⟨n9, e9, hD⟩ := dInt_elim hD; exact F140_4_ok R n0 l7 n8 n9 ds' w' ρ' e0 e7 e8 e9 hD) h
theorem F140_calls (n0 : Int) (l1 : SV) (w : World) (R : Rt) (h : F140_5 R n0 l1 [] w) : Calls Tryz.prog 140 #[.int .i64 n0, .slice l1.a l1.len l1.cap] w R :=
  calls_of_L (l := [c140_0, c140_1, c140_2, c140_3, c140_4, c140_5, c140_6]) Tryz.func140 (by kernel_rfl) (by rw [Tryz.ntmps140]; exact Nat.le_of_ble_eq_true (by kernel_rfl)) c140_l
    (F140_5_ok R n0 l1 [] w _ rfl rfl h)
theorem F140_callsD (n0 : Int) (l1 : SV) (w : World) (R : Rt) (u : FrameMode) (h : F140_5 R n0 l1 [] w) : CallsD Tryz.prog 140 #[.int .i64 n0, .slice l1.a l1.len l1.cap] u w fun e u' w' => u' = u ∧ R e w' :=
  callsD_of_L (l := [c140_0, c140_1, c140_2, c140_3, c140_4, c140_5, c140_6]) Tryz.func140 (by kernel_rfl) (by rw [Tryz.ntmps140]; exact Nat.le_of_ble_eq_true (by kernel_rfl)) (by kernel_rfl) c140_l
    (F140_5_ok R n0 l1 [] w _ rfl rfl h) u

/-! function 141: cabinetry/page.pages -/
noncomputable def c141_0 : Code := itemAt (flat (bodyOf Tryz.f141)) 0
noncomputable def c141_1 : Code := itemAt (flat (bodyOf Tryz.f141)) 1
noncomputable def c141_2 : Code := itemAt (flat (bodyOf Tryz.f141)) 2
noncomputable def c141_3 : Code := itemAt (flat (bodyOf Tryz.f141)) 3
noncomputable def c141_4 : Code := itemAt (flat (bodyOf Tryz.f141)) 4
noncomputable def c141_5 : Code := itemAt (flat (bodyOf Tryz.f141)) 5
noncomputable def c141_6 : Code := itemAt (flat (bodyOf Tryz.f141)) 6
noncomputable def c141_7 : Code := itemAt (flat (bodyOf Tryz.f141)) 7
noncomputable def c141_8 : Code := itemAt (flat (bodyOf Tryz.f141)) 8
noncomputable def c141_9 : Code := itemAt (flat (bodyOf Tryz.f141)) 9
noncomputable def c141_7_0 : Code := itemAt (flat (innerC c141_7)) 0
noncomputable def c141_7_0_0 : Code := itemAt (flat (innerC c141_7_0)) 0
noncomputable def c141_7_0_1 : Code := itemAt (flat (innerC c141_7_0)) 1
noncomputable def c141_7_0_2 : Code := itemAt (flat (innerC c141_7_0)) 2
noncomputable def c141_7_0_3 : Code := itemAt (flat (innerC c141_7_0)) 3
noncomputable def c141_5_0 : Code := itemAt (flat (innerC c141_5)) 0
noncomputable def c141_5_0_0 : Code := itemAt (flat (innerC c141_5_0)) 0
noncomputable def c141_5_0_1 : Code := itemAt (flat (innerC c141_5_0)) 1
noncomputable def c141_5_0_2 : Code := itemAt (flat (innerC c141_5_0)) 2
noncomputable def c141_5_0_3 : Code := itemAt (flat (innerC c141_5_0)) 3
noncomputable def c141_3_0 : Code := itemAt (flat (innerC c141_3)) 0
noncomputable def c141_3_0_0 : Code := itemAt (flat (innerC c141_3_0)) 0
noncomputable def c141_3_0_1 : Code := itemAt (flat (innerC c141_3_0)) 1
noncomputable def c141_3_0_2 : Code := itemAt (flat (innerC c141_3_0)) 2
noncomputable def c141_3_0_3 : Code := itemAt (flat (innerC c141_3_0)) 3
def F141_q1 (R : Rt) : EQ := endQ Tryz.prog Tryz.f141.results.toList R
def F141_1 (R : Rt) (p0 : Option Addr) (p1 : Option Addr) (ds : Ds) (w : World) : Prop :=
 ptrE p1 fun a1 =>
 ∃ c48 : Array Value, c48.size = 768 ∧ (∀ i, i < 768 → w.cell? (a1.add i) = c48[i]?) ∧
 ptrE p0 fun a2 =>
 stA Tryz.prog 149 a2 c48 w fun w3 =>
 runD Tryz.prog ds w3 fun w4 =>
 ptrE p0 fun a5 =>
 ∃ cR0 : Array Value, cR0.size = 768 ∧ (∀ i, i < 768 → w4.cell? (a5.add i) = cR0[i]?) ∧
 R (.returned (.agg cR0)) w4
def F141_k2 (R : Rt) : EP := (fun ρ ds w => dPtr (ρ 0) fun p0 => dPtr (ρ 1) fun p1 => F141_1 R p0 p1 ds w)
def F141_q3 (R : Rt) : EQ := (thenQ (F141_k2 R) (F141_q1 R))
def F141_q4 (R : Rt) : EQ := (blockQ 4 (F141_q3 R))
def F141_q5 (R : Rt) (J1 : (Int) → World → Prop) : EQ := (thenQ (fun ρ _ w => dInt .i64 (ρ 5) fun n5 => J1 n5 w) (F141_q4 R))
def F141_2 (R : Rt) (J1 : (Int) → World → Prop) (p0 : Option Addr) (p1 : Option Addr) (n5 : Int) (ds : Ds) (w : World) : Prop :=
 Br (decide (n5 ≤ 239)) (
 ptrE p1 fun a6 =>
 0 ≤ (2 : Int) ∧ (2 : Int) < ((3 : Nat) : Int) ∧
 0 ≤ n5 ∧ n5 < ((256 : Nat) : Int) ∧
 st1 ((a6.add ((2 : Int).toNat * 256)).add (n5.toNat * 1)) (.int .i32 (IntKind.i32.wrap ((1088 : Int) + (IntKind.i32.wrap (IntKind.i64.wrap (n5 - 224)))))) w fun w7 =>
 J1 (IntKind.i64.wrap (n5 + 1)) w7) (
 F141_1 R p0 p1 ds w)
def F141_3 (R : Rt) (p0 : Option Addr) (p1 : Option Addr) (n5 : Int) (ds : Ds) (w : World) : Prop :=
 loopT (fun (J1 : (Int) → World → Prop) (s : Int) (w : World) => F141_2 R J1 p0 p1 s ds w) n5 w
@[reducible] def F141_4 (R : Rt) (p0 : Option Addr) (p1 : Option Addr) (n5 : Int) (ds : Ds) (w : World) : Prop := F141_3 R p0 p1 n5 ds w
def F141_k6 (R : Rt) : EP := (fun ρ ds w => dPtr (ρ 0) fun p0 => dPtr (ρ 1) fun p1 => dInt .i64 (ρ 5) fun n5 => F141_4 R p0 p1 n5 ds w)
def F141_5 (R : Rt) (p0 : Option Addr) (p1 : Option Addr) (ds : Ds) (w : World) : Prop :=
 F141_4 R p0 p1 224 ds w
def F141_k7 (R : Rt) : EP := (fun ρ ds w => dPtr (ρ 0) fun p0 => dPtr (ρ 1) fun p1 => F141_5 R p0 p1 ds w)
def F141_q8 (R : Rt) : EQ := (thenQ (F141_k7 R) (F141_q1 R))
def F141_q9 (R : Rt) : EQ := (blockQ 2 (F141_q8 R))
def F141_q10 (R : Rt) (J1 : (Int) → World → Prop) : EQ := (thenQ (fun ρ _ w => dInt .i64 (ρ 4) fun n4 => J1 n4 w) (F141_q9 R))
def F141_6 (R : Rt) (J1 : (Int) → World → Prop) (p0 : Option Addr) (p1 : Option Addr) (n4 : Int) (ds : Ds) (w : World) : Prop :=
 Br (decide (n4 ≤ 175)) (
 ptrE p1 fun a8 =>
 0 ≤ (2 : Int) ∧ (2 : Int) < ((3 : Nat) : Int) ∧
 0 ≤ n4 ∧ n4 < ((256 : Nat) : Int) ∧
 st1 ((a8.add ((2 : Int).toNat * 256)).add (n4.toNat * 1)) (.int .i32 (IntKind.i32.wrap ((1040 : Int) + (IntKind.i32.wrap (IntKind.i64.wrap (n4 - 128)))))) w fun w9 =>
 J1 (IntKind.i64.wrap (n4 + 1)) w9) (
 F141_5 R p0 p1 ds w)
def F141_7 (R : Rt) (p0 : Option Addr) (p1 : Option Addr) (n4 : Int) (ds : Ds) (w : World) : Prop :=
 loopT (fun (J1 : (Int) → World → Prop) (s : Int) (w : World) => F141_6 R J1 p0 p1 s ds w) n4 w
@[reducible] def F141_8 (R : Rt) (p0 : Option Addr) (p1 : Option Addr) (n4 : Int) (ds : Ds) (w : World) : Prop := F141_7 R p0 p1 n4 ds w
def F141_k11 (R : Rt) : EP := (fun ρ ds w => dPtr (ρ 0) fun p0 => dPtr (ρ 1) fun p1 => dInt .i64 (ρ 4) fun n4 => F141_8 R p0 p1 n4 ds w)
def F141_9 (R : Rt) (p0 : Option Addr) (p1 : Option Addr) (ds : Ds) (w : World) : Prop :=
 F141_8 R p0 p1 128 ds w
def F141_k12 (R : Rt) : EP := (fun ρ ds w => dPtr (ρ 0) fun p0 => dPtr (ρ 1) fun p1 => F141_9 R p0 p1 ds w)
def F141_q13 (R : Rt) : EQ := (thenQ (F141_k12 R) (F141_q1 R))
def F141_q14 (R : Rt) : EQ := (blockQ 0 (F141_q13 R))
def F141_q15 (R : Rt) (J1 : (Int) → World → Prop) : EQ := (thenQ (fun ρ _ w => dInt .i64 (ρ 6) fun n6 => J1 n6 w) (F141_q14 R))
def F141_10 (R : Rt) (J1 : (Int) → World → Prop) (p0 : Option Addr) (p1 : Option Addr) (n6 : Int) (ds : Ds) (w : World) : Prop :=
 Br (decide (n6 < 256)) (
 ptrE p1 fun a10 =>
 0 ≤ (1 : Int) ∧ (1 : Int) < ((3 : Nat) : Int) ∧
 0 ≤ n6 ∧ n6 < ((256 : Nat) : Int) ∧
 st1 ((a10.add ((1 : Int).toNat * 256)).add (n6.toNat * 1)) (.int .i32 (IntKind.i32.wrap n6)) w fun w11 =>
 Br (decide (n6 ≥ 128)) (
 ptrE p1 fun a12 =>
 0 ≤ (0 : Int) ∧ (0 : Int) < ((3 : Nat) : Int) ∧
 0 ≤ n6 ∧ n6 < ((256 : Nat) : Int) ∧
 st1 ((a12.add ((0 : Int).toNat * 256)).add (n6.toNat * 1)) (.int .i32 (-1)) w11 fun w13 =>
 ptrE p1 fun a14 =>
 0 ≤ (2 : Int) ∧ (2 : Int) < ((3 : Nat) : Int) ∧
 0 ≤ n6 ∧ n6 < ((256 : Nat) : Int) ∧
 st1 ((a14.add ((2 : Int).toNat * 256)).add (n6.toNat * 1)) (.int .i32 (-1)) w13 fun w15 =>
 J1 (IntKind.i64.wrap (n6 + 1)) w15) (
 ptrE p1 fun a16 =>
 0 ≤ (0 : Int) ∧ (0 : Int) < ((3 : Nat) : Int) ∧
 0 ≤ n6 ∧ n6 < ((256 : Nat) : Int) ∧
 st1 ((a16.add ((0 : Int).toNat * 256)).add (n6.toNat * 1)) (.int .i32 (IntKind.i32.wrap n6)) w11 fun w17 =>
 ptrE p1 fun a18 =>
 0 ≤ (2 : Int) ∧ (2 : Int) < ((3 : Nat) : Int) ∧
 0 ≤ n6 ∧ n6 < ((256 : Nat) : Int) ∧
 st1 ((a18.add ((2 : Int).toNat * 256)).add (n6.toNat * 1)) (.int .i32 (IntKind.i32.wrap n6)) w17 fun w19 =>
 J1 (IntKind.i64.wrap (n6 + 1)) w19)) (
 F141_9 R p0 p1 ds w)
def F141_11 (R : Rt) (p0 : Option Addr) (p1 : Option Addr) (n6 : Int) (ds : Ds) (w : World) : Prop :=
 loopT (fun (J1 : (Int) → World → Prop) (s : Int) (w : World) => F141_10 R J1 p0 p1 s ds w) n6 w
@[reducible] def F141_12 (R : Rt) (p0 : Option Addr) (p1 : Option Addr) (n6 : Int) (ds : Ds) (w : World) : Prop := F141_11 R p0 p1 n6 ds w
def F141_k16 (R : Rt) : EP := (fun ρ ds w => dPtr (ρ 0) fun p0 => dPtr (ρ 1) fun p1 => dInt .i64 (ρ 6) fun n6 => F141_12 R p0 p1 n6 ds w)
def F141_13 (R : Rt) (ds : Ds) (w : World) : Prop :=
 alE (.cells (zc Tryz.prog 149) 149) w fun r0 w20 =>
 alE (.cells (zc Tryz.prog 149) 149) w20 fun r1 w21 =>
 F141_12 R (some (⟨r0, 0, none⟩ : Addr)) (some (⟨r1, 0, none⟩ : Addr)) 0 ds w21
theorem c141_l : flat (bodyOf Tryz.f141) = [c141_0, c141_1, c141_2, c141_3, c141_4, c141_5, c141_6, c141_7, c141_8, c141_9] := by kernel_rfl
theorem c141_7_l : flat (innerC c141_7) = [c141_7_0] := by kernel_rfl
theorem c141_7_0_l : flat (innerC c141_7_0) = [c141_7_0_0, c141_7_0_1, c141_7_0_2, c141_7_0_3] := by kernel_rfl
theorem c141_5_l : flat (innerC c141_5) = [c141_5_0] := by kernel_rfl
theorem c141_5_0_l : flat (innerC c141_5_0) = [c141_5_0_0, c141_5_0_1, c141_5_0_2, c141_5_0_3] := by kernel_rfl
theorem c141_3_l : flat (innerC c141_3) = [c141_3_0] := by kernel_rfl
theorem c141_3_0_l : flat (innerC c141_3_0) = [c141_3_0_0, c141_3_0_1, c141_3_0_2, c141_3_0_3] := by kernel_rfl
theorem F141_1_ok (R : Rt) (p0 : Option Addr) (p1 : Option Addr) (ds : Ds) (w : World) (ρ : Env) (e0 : ρ 0 = .pointer p0) (e1 : ρ 1 = .pointer p1) (h : F141_1 R p0 p1 ds w) :
    TrL Tryz.prog Tryz.f141.ntmps [c141_8, c141_9] (F141_q1 R) ρ ds w :=
  TrL_leaf (X := F141_1 R p0 p1 ds w) (setAll_cons e0 (setAll_cons e1 setAll_nil)) (by kernel_rfl) (by kernel_rfl) h
theorem F141_2_ok (R : Rt) (J1 : (Int) → World → Prop) (p0 : Option Addr) (p1 : Option Addr) (n5 : Int) (ds : Ds) (w : World) (ρ : Env) (e0 : ρ 0 = .pointer p0) (e1 : ρ 1 = .pointer p1) (e5 : ρ 5 = .int .i64 n5) (h : F141_2 R J1 p0 p1 n5 ds w) :
    TrL Tryz.prog Tryz.f141.ntmps [c141_7_0_0, c141_7_0_1, c141_7_0_2, c141_7_0_3] (F141_q5 R J1) ρ ds w :=
  TrL_leaf (X := F141_2 R J1 p0 p1 n5 ds w) (setAll_cons e0 (setAll_cons e1 (setAll_cons e5 setAll_nil))) (by kernel_rfl) (by kernel_rfl) h
theorem F141_3_ok (R : Rt) (p0 : Option Addr) (p1 : Option Addr) (n5 : Int) (ds : Ds) (w : World) (ρ : Env) (e0 : ρ 0 = .pointer p0) (e1 : ρ 1 = .pointer p1) (e5 : ρ 5 = .int .i64 n5) (h : F141_3 R p0 p1 n5 ds w) :
    TrL Tryz.prog Tryz.f141.ntmps [c141_7_0] (F141_q4 R) ρ ds w :=
  TrL_one (Tr_loop' (c := innerC c141_7_0) (σ := Int) (enc := (fun (s : Int) (ρ : Env) => ρ 5 = .int .i64 s)) (D := (fun ρ K => dInt .i64 (ρ 5) fun n5 => K n5)) (F := (fun (J1 : (Int) → World → Prop) (s : Int) (w : World) => F141_2 R J1 p0 p1 s ds w)) (s0 := n5) (by kernel_rfl) c141_7_0_l e5 (by kernel_rfl) (fun ρ K hD => by obtain ⟨n5, e5, hD⟩ := dInt_elim hD; exact ⟨n5, e5, hD⟩)
      (fun J1 s ρ' w' he ha hF => by
      have e5' := he
      exact F141_2_ok R J1 p0 p1 s ds w' ρ' ((ha 0 (by kernel_rfl)).trans e0) ((ha 1 (by kernel_rfl)).trans e1) e5' hF) h)
theorem F141_4_ok (R : Rt) (p0 : Option Addr) (p1 : Option Addr) (n5 : Int) (ds : Ds) (w : World) (ρ : Env) (e0 : ρ 0 = .pointer p0) (e1 : ρ 1 = .pointer p1) (e5 : ρ 5 = .int .i64 n5) (h : F141_4 R p0 p1 n5 ds w) :
    TrL Tryz.prog Tryz.f141.ntmps [c141_7, c141_8, c141_9] (F141_q1 R) ρ ds w :=
  TrL_head (K := (F141_k2 R)) (Tr_block' (c := innerC c141_7) (by kernel_rfl) c141_7_l (F141_3_ok R p0 p1 n5 ds w ρ e0 e1 e5 h))
    (fun ρ' ds' w' hD => by
      obtain ⟨p0, e0, hD⟩ := dPtr_elim hD; obtain ⟨p1, e1, hD⟩ := dPtr_elim hD; exact F141_1_ok R p0 p1 ds' w' ρ' e0 e1 hD)
theorem F141_5_ok (R : Rt) (p0 : Option Addr) (p1 : Option Addr) (ds : Ds) (w : World) (ρ : Env) (e0 : ρ 0 = .pointer p0) (e1 : ρ 1 = .pointer p1) (h : F141_5 R p0 p1 ds w) :
    TrL Tryz.prog Tryz.f141.ntmps [c141_6, c141_7, c141_8, c141_9] (F141_q1 R) ρ ds w :=
  TrL_piece (pre := [c141_6]) (K := (F141_k6 R)) (X := F141_5 R p0 p1 ds w) (setAll_cons e0 (setAll_cons e1 setAll_nil)) (by kernel_rfl) (by kernel_rfl)
    (fun ρ' ds' w' hD => by
      obtain ⟨p0, e0, hD⟩ := dPtr_elim hD; obtain ⟨p1, e1, hD⟩ := dPtr_elim hD; obtain ⟨n5, e5, hD⟩ := dInt_elim hD; exact F141_4_ok R p0 p1 n5 ds' w' ρ' e0 e1 e5 hD) h
theorem F141_6_ok (R : Rt) (J1 : (Int) → World → Prop) (p0 : Option Addr) (p1 : Option Addr) (n4 : Int) (ds : Ds) (w : World) (ρ : Env) (e0 : ρ 0 = .pointer p0) (e1 : ρ 1 = .pointer p1) (e4 : ρ 4 = .int .i64 n4) (h : F141_6 R J1 p0 p1 n4 ds w) :
    TrL Tryz.prog Tryz.f141.ntmps [c141_5_0_0, c141_5_0_1, c141_5_0_2, c141_5_0_3] (F141_q10 R J1) ρ ds w :=
  TrL_leaf (X := F141_6 R J1 p0 p1 n4 ds w) (setAll_cons e0 (setAll_cons e1 (setAll_cons e4 setAll_nil))) (by kernel_rfl) (by kernel_rfl) h
theorem F141_7_ok (R : Rt) (p0 : Option Addr) (p1 : Option Addr) (n4 : Int) (ds : Ds) (w : World) (ρ : Env) (e0 : ρ 0 = .pointer p0) (e1 : ρ 1 = .pointer p1) (e4 : ρ 4 = .int .i64 n4) (h : F141_7 R p0 p1 n4 ds w) :
    TrL Tryz.prog Tryz.f141.ntmps [c141_5_0] (F141_q9 R) ρ ds w :=
  TrL_one (Tr_loop' (c := innerC c141_5_0) (σ := Int) (enc := (fun (s : Int) (ρ : Env) => ρ 4 = .int .i64 s)) (D := (fun ρ K => dInt .i64 (ρ 4) fun n4 => K n4)) (F := (fun (J1 : (Int) → World → Prop) (s : Int) (w : World) => F141_6 R J1 p0 p1 s ds w)) (s0 := n4) (by kernel_rfl) c141_5_0_l e4 (by kernel_rfl) (fun ρ K hD => by obtain ⟨n4, e4, hD⟩ := dInt_elim hD; exact ⟨n4, e4, hD⟩)
      (fun J1 s ρ' w' he ha hF => by
      have e4' := he
      exact F141_6_ok R J1 p0 p1 s ds w' ρ' ((ha 0 (by kernel_rfl)).trans e0) ((ha 1 (by kernel_rfl)).trans e1) e4' hF) h)
theorem F141_8_ok (R : Rt) (p0 : Option Addr) (p1 : Option Addr) (n4 : Int) (ds : Ds) (w : World) (ρ : Env) (e0 : ρ 0 = .pointer p0) (e1 : ρ 1 = .pointer p1) (e4 : ρ 4 = .int .i64 n4) (h : F141_8 R p0 p1 n4 ds w) :
    TrL Tryz.prog Tryz.f141.ntmps [c141_5, c141_6, c141_7, c141_8, c141_9] (F141_q1 R) ρ ds w :=
  TrL_head (K := (F141_k7 R)) (Tr_block' (c := innerC c141_5) (by kernel_rfl) c141_5_l (F141_7_ok R p0 p1 n4 ds w ρ e0 e1 e4 h))
    (fun ρ' ds' w' hD => by
      obtain ⟨p0, e0, hD⟩ := dPtr_elim hD; obtain ⟨p1, e1, hD⟩ := dPtr_elim hD; exact F141_5_ok R p0 p1 ds' w' ρ' e0 e1 hD)
theorem F141_9_ok (R : Rt) (p0 : Option Addr) (p1 : Option Addr) (ds : Ds) (w : World) (ρ : Env) (e0 : ρ 0 = .pointer p0) (e1 : ρ 1 = .pointer p1) (h : F141_9 R p0 p1 ds w) :
    TrL Tryz.prog Tryz.f141.ntmps [c141_4, c141_5, c141_6, c141_7, c141_8, c141_9] (F141_q1 R) ρ ds w :=
  TrL_piece (pre := [c141_4]) (K := (F141_k11 R)) (X := F141_9 R p0 p1 ds w) (setAll_cons e0 (setAll_cons e1 setAll_nil)) (by kernel_rfl) (by kernel_rfl)
    (fun ρ' ds' w' hD => by
      obtain ⟨p0, e0, hD⟩ := dPtr_elim hD; obtain ⟨p1, e1, hD⟩ := dPtr_elim hD; obtain ⟨n4, e4, hD⟩ := dInt_elim hD; exact F141_8_ok R p0 p1 n4 ds' w' ρ' e0 e1 e4 hD) h
theorem F141_10_ok (R : Rt) (J1 : (Int) → World → Prop) (p0 : Option Addr) (p1 : Option Addr) (n6 : Int) (ds : Ds) (w : World) (ρ : Env) (e0 : ρ 0 = .pointer p0) (e1 : ρ 1 = .pointer p1) (e6 : ρ 6 = .int .i64 n6) (h : F141_10 R J1 p0 p1 n6 ds w) :
    TrL Tryz.prog Tryz.f141.ntmps [c141_3_0_0, c141_3_0_1, c141_3_0_2, c141_3_0_3] (F141_q15 R J1) ρ ds w :=
  TrL_leaf (X := F141_10 R J1 p0 p1 n6 ds w) (setAll_cons e0 (setAll_cons e1 (setAll_cons e6 setAll_nil))) (by kernel_rfl) (by kernel_rfl) h
theorem F141_11_ok (R : Rt) (p0 : Option Addr) (p1 : Option Addr) (n6 : Int) (ds : Ds) (w : World) (ρ : Env) (e0 : ρ 0 = .pointer p0) (e1 : ρ 1 = .pointer p1) (e6 : ρ 6 = .int .i64 n6) (h : F141_11 R p0 p1 n6 ds w) :
    TrL Tryz.prog Tryz.f141.ntmps [c141_3_0] (F141_q14 R) ρ ds w :=
  TrL_one (Tr_loop' (c := innerC c141_3_0) (σ := Int) (enc := (fun (s : Int) (ρ : Env) => ρ 6 = .int .i64 s)) (D := (fun ρ K => dInt .i64 (ρ 6) fun n6 => K n6)) (F := (fun (J1 : (Int) → World → Prop) (s : Int) (w : World) => F141_10 R J1 p0 p1 s ds w)) (s0 := n6) (by kernel_rfl) c141_3_0_l e6 (by kernel_rfl) (fun ρ K hD => by obtain ⟨n6, e6, hD⟩ := dInt_elim hD; exact ⟨n6, e6, hD⟩)
      (fun J1 s ρ' w' he ha hF => by
      have e6' := he
      exact F141_10_ok R J1 p0 p1 s ds w' ρ' ((ha 0 (by kernel_rfl)).trans e0) ((ha 1 (by kernel_rfl)).trans e1) e6' hF) h)
theorem F141_12_ok (R : Rt) (p0 : Option Addr) (p1 : Option Addr) (n6 : Int) (ds : Ds) (w : World) (ρ : Env) (e0 : ρ 0 = .pointer p0) (e1 : ρ 1 = .pointer p1) (e6 : ρ 6 = .int .i64 n6) (h : F141_12 R p0 p1 n6 ds w) :
    TrL Tryz.prog Tryz.f141.ntmps [c141_3, c141_4, c141_5, c141_6, c141_7, c141_8, c141_9] (F141_q1 R) ρ ds w :=
  TrL_head (K := (F141_k12 R)) (Tr_block' (c := innerC c141_3) (by kernel_rfl) c141_3_l (F141_11_ok R p0 p1 n6 ds w ρ e0 e1 e6 h))
    (fun ρ' ds' w' hD => by
      obtain ⟨p0, e0, hD⟩ := dPtr_elim hD; obtain ⟨p1, e1, hD⟩ := dPtr_elim hD; exact F141_9_ok R p0 p1 ds' w' ρ' e0 e1 hD)
theorem F141_13_ok (R : Rt) (ds : Ds) (w : World) (ρ : Env) (h : F141_13 R ds w) :
    TrL Tryz.prog Tryz.f141.ntmps [c141_0, c141_1, c141_2, c141_3, c141_4, c141_5, c141_6, c141_7, c141_8, c141_9] (F141_q1 R) ρ ds w :=
  TrL_piece (pre := [c141_0, c141_1, c141_2]) (K := (F141_k16 R)) (X := F141_13 R ds w) setAll_nil (by kernel_rfl) (by kernel_rfl)
    (fun ρ' ds' w' hD => by
      obtain ⟨p0, e0, hD⟩ := dPtr_elim hD; obtain ⟨p1, e1, hD⟩ := dPtr_elim hD; obtain ⟨n6, e6, hD⟩ := dInt_elim hD; exact F141_12_ok R p0 p1 n6 ds' w' ρ' e0 e1 e6 hD) h
theorem F141_calls  (w : World) (R : Rt) (h : F141_13 R [] w) : Calls Tryz.prog 141 #[] w R :=
  calls_of_L (l := [c141_0, c141_1, c141_2, c141_3, c141_4, c141_5, c141_6, c141_7, c141_8, c141_9]) Tryz.func141 (by kernel_rfl) (by rw [Tryz.ntmps141]; exact Nat.le_of_ble_eq_true (by kernel_rfl)) c141_l
    (F141_13_ok R [] w _  h)
theorem F141_callsD  (w : World) (R : Rt) (u : FrameMode) (h : F141_13 R [] w) : CallsD Tryz.prog 141 #[] u w fun e u' w' => u' = u ∧ R e w' :=
  callsD_of_L (l := [c141_0, c141_1, c141_2, c141_3, c141_4, c141_5, c141_6, c141_7, c141_8, c141_9]) Tryz.func141 (by kernel_rfl) (by rw [Tryz.ntmps141]; exact Nat.le_of_ble_eq_true (by kernel_rfl)) (by kernel_rfl) c141_l
    (F141_13_ok R [] w _  h) u

/-! function 104: cabinetry/cabinetryref03.written -/
noncomputable def c104_0 : Code := itemAt (flat (bodyOf Tryz.f104)) 0
noncomputable def c104_1 : Code := itemAt (flat (bodyOf Tryz.f104)) 1
noncomputable def c104_2 : Code := itemAt (flat (bodyOf Tryz.f104)) 2
noncomputable def c104_3 : Code := itemAt (flat (bodyOf Tryz.f104)) 3
noncomputable def c104_4 : Code := itemAt (flat (bodyOf Tryz.f104)) 4
noncomputable def c104_2_0 : Code := itemAt (flat (innerC c104_2)) 0
noncomputable def c104_2_0_0 : Code := itemAt (flat (innerC c104_2_0)) 0
noncomputable def c104_2_0_1 : Code := itemAt (flat (innerC c104_2_0)) 1
noncomputable def c104_2_0_2 : Code := itemAt (flat (innerC c104_2_0)) 2
noncomputable def c104_2_0_3 : Code := itemAt (flat (innerC c104_2_0)) 3
def F104_q1 (R : Rt) : EQ := endQ Tryz.prog Tryz.f104.results.toList R
def F104_1 (R : Rt) (ds : Ds) (w : World) : Prop :=
 runD Tryz.prog ds w fun w1 =>
 R (.returned (.bool true)) w1
def F104_k2 (R : Rt) : EP := (fun ρ ds w => F104_1 R ds w)
def F104_q3 (R : Rt) : EQ := (thenQ (F104_k2 R) (F104_q1 R))
def F104_q4 (R : Rt) : EQ := (blockQ 0 (F104_q3 R))
def F104_q5 (R : Rt) (J1 : (Int) → World → Prop) : EQ := (thenQ (fun ρ _ w => dInt .i64 (ρ 5) fun n5 => J1 n5 w) (F104_q4 R))
def F104_2 (R : Rt) (J1 : (Int) → World → Prop) (s0 : ByteArray) (n1 : Int) (n5 : Int) (ds : Ds) (w : World) : Prop :=
 Br (decide (n5 < ((s0.size : Nat) : Int))) (
 ∃ b14 : UInt8, 0 ≤ n5 ∧ s0[n5.toNat]? = some b14 ∧
 Calls Tryz.prog 146 #[.int .u8 ((b14.toNat : Nat) : Int), .int .i64 n1] w fun e w2 =>
 ∃ b16 : Bool, e = .returned (.bool b16) ∧
 Br (!b16) (
 runD Tryz.prog ds w2 fun w3 =>
 R (.returned (.bool false)) w3) (
 J1 (IntKind.i64.wrap (n5 + 1)) w2)) (
 F104_1 R ds w)
def F104_3 (R : Rt) (s0 : ByteArray) (n1 : Int) (n5 : Int) (ds : Ds) (w : World) : Prop :=
 loopT (fun (J1 : (Int) → World → Prop) (s : Int) (w : World) => F104_2 R J1 s0 n1 s ds w) n5 w
@[reducible] def F104_4 (R : Rt) (s0 : ByteArray) (n1 : Int) (n5 : Int) (ds : Ds) (w : World) : Prop := F104_3 R s0 n1 n5 ds w
def F104_k6 (R : Rt) : EP := (fun ρ ds w => dStr (ρ 0) fun s0 => dInt .i64 (ρ 1) fun n1 => dInt .i64 (ρ 5) fun n5 => F104_4 R s0 n1 n5 ds w)
def F104_5 (R : Rt) (s0 : ByteArray) (n1 : Int) (ds : Ds) (w : World) : Prop :=
 F104_4 R s0 n1 0 ds w
theorem c104_l : flat (bodyOf Tryz.f104) = [c104_0, c104_1, c104_2, c104_3, c104_4] := by kernel_rfl
theorem c104_2_l : flat (innerC c104_2) = [c104_2_0] := by kernel_rfl
theorem c104_2_0_l : flat (innerC c104_2_0) = [c104_2_0_0, c104_2_0_1, c104_2_0_2, c104_2_0_3] := by kernel_rfl
theorem F104_1_ok (R : Rt) (ds : Ds) (w : World) (ρ : Env) (h : F104_1 R ds w) :
    TrL Tryz.prog Tryz.f104.ntmps [c104_3, c104_4] (F104_q1 R) ρ ds w :=
  TrL_leaf (X := F104_1 R ds w) setAll_nil (by kernel_rfl) (by kernel_rfl) h
theorem F104_2_ok (R : Rt) (J1 : (Int) → World → Prop) (s0 : ByteArray) (n1 : Int) (n5 : Int) (ds : Ds) (w : World) (ρ : Env) (e0 : ρ 0 = .string s0) (e1 : ρ 1 = .int .i64 n1) (e5 : ρ 5 = .int .i64 n5) (h : F104_2 R J1 s0 n1 n5 ds w) :
    TrL Tryz.prog Tryz.f104.ntmps [c104_2_0_0, c104_2_0_1, c104_2_0_2, c104_2_0_3] (F104_q5 R J1) ρ ds w :=
  TrL_leaf (X := F104_2 R J1 s0 n1 n5 ds w) (setAll_cons e0 (setAll_cons e1 (setAll_cons e5 setAll_nil))) (by kernel_rfl) (by kernel_rfl) h
theorem F104_3_ok (R : Rt) (s0 : ByteArray) (n1 : Int) (n5 : Int) (ds : Ds) (w : World) (ρ : Env) (e0 : ρ 0 = .string s0) (e1 : ρ 1 = .int .i64 n1) (e5 : ρ 5 = .int .i64 n5) (h : F104_3 R s0 n1 n5 ds w) :
    TrL Tryz.prog Tryz.f104.ntmps [c104_2_0] (F104_q4 R) ρ ds w :=
  TrL_one (Tr_loop' (c := innerC c104_2_0) (σ := Int) (enc := (fun (s : Int) (ρ : Env) => ρ 5 = .int .i64 s)) (D := (fun ρ K => dInt .i64 (ρ 5) fun n5 => K n5)) (F := (fun (J1 : (Int) → World → Prop) (s : Int) (w : World) => F104_2 R J1 s0 n1 s ds w)) (s0 := n5) (by kernel_rfl) c104_2_0_l e5 (by kernel_rfl) (fun ρ K hD => by obtain ⟨n5, e5, hD⟩ := dInt_elim hD; exact ⟨n5, e5, hD⟩)
      (fun J1 s ρ' w' he ha hF => by
      have e5' := he
      exact F104_2_ok R J1 s0 n1 s ds w' ρ' ((ha 0 (by kernel_rfl)).trans e0) ((ha 1 (by kernel_rfl)).trans e1) e5' hF) h)
theorem F104_4_ok (R : Rt) (s0 : ByteArray) (n1 : Int) (n5 : Int) (ds : Ds) (w : World) (ρ : Env) (e0 : ρ 0 = .string s0) (e1 : ρ 1 = .int .i64 n1) (e5 : ρ 5 = .int .i64 n5) (h : F104_4 R s0 n1 n5 ds w) :
    TrL Tryz.prog Tryz.f104.ntmps [c104_2, c104_3, c104_4] (F104_q1 R) ρ ds w :=
  TrL_head (K := (F104_k2 R)) (Tr_block' (c := innerC c104_2) (by kernel_rfl) c104_2_l (F104_3_ok R s0 n1 n5 ds w ρ e0 e1 e5 h))
    (fun ρ' ds' w' hD => by
      exact F104_1_ok R ds' w' ρ'  hD)
theorem F104_5_ok (R : Rt) (s0 : ByteArray) (n1 : Int) (ds : Ds) (w : World) (ρ : Env) (e0 : ρ 0 = .string s0) (e1 : ρ 1 = .int .i64 n1) (h : F104_5 R s0 n1 ds w) :
    TrL Tryz.prog Tryz.f104.ntmps [c104_0, c104_1, c104_2, c104_3, c104_4] (F104_q1 R) ρ ds w :=
  TrL_piece (pre := [c104_0, c104_1]) (K := (F104_k6 R)) (X := F104_5 R s0 n1 ds w) (setAll_cons e0 (setAll_cons e1 setAll_nil)) (by kernel_rfl) (by kernel_rfl)
    (fun ρ' ds' w' hD => by
      obtain ⟨s0, e0, hD⟩ := dStr_elim hD; obtain ⟨n1, e1, hD⟩ := dInt_elim hD; obtain ⟨n5, e5, hD⟩ := dInt_elim hD; exact F104_4_ok R s0 n1 n5 ds' w' ρ' e0 e1 e5 hD) h
theorem F104_calls (s0 : ByteArray) (n1 : Int) (w : World) (R : Rt) (h : F104_5 R s0 n1 [] w) : Calls Tryz.prog 104 #[.string s0, .int .i64 n1] w R :=
  calls_of_L (l := [c104_0, c104_1, c104_2, c104_3, c104_4]) Tryz.func104 (by kernel_rfl) (by rw [Tryz.ntmps104]; exact Nat.le_of_ble_eq_true (by kernel_rfl)) c104_l
    (F104_5_ok R s0 n1 [] w _ rfl rfl h)
theorem F104_callsD (s0 : ByteArray) (n1 : Int) (w : World) (R : Rt) (u : FrameMode) (h : F104_5 R s0 n1 [] w) : CallsD Tryz.prog 104 #[.string s0, .int .i64 n1] u w fun e u' w' => u' = u ∧ R e w' :=
  callsD_of_L (l := [c104_0, c104_1, c104_2, c104_3, c104_4]) Tryz.func104 (by kernel_rfl) (by rw [Tryz.ntmps104]; exact Nat.le_of_ble_eq_true (by kernel_rfl)) (by kernel_rfl) c104_l
    (F104_5_ok R s0 n1 [] w _ rfl rfl h) u

/-! function 146: cabinetry/cabinetryref03.On -/
noncomputable def c146_0 : Code := itemAt (flat (bodyOf Tryz.f146)) 0
noncomputable def c146_1 : Code := itemAt (flat (bodyOf Tryz.f146)) 1
noncomputable def c146_2 : Code := itemAt (flat (bodyOf Tryz.f146)) 2
noncomputable def c146_3 : Code := itemAt (flat (bodyOf Tryz.f146)) 3
noncomputable def c146_4 : Code := itemAt (flat (bodyOf Tryz.f146)) 4
def F146_q1 (R : Rt) : EQ := endQ Tryz.prog Tryz.f146.results.toList R
def F146_1 (R : Rt) (n0 : Int) (n1 : Int) (ds : Ds) (w : World) : Prop :=
 Br (n1 == 0) (
 runD Tryz.prog ds w fun w1 =>
 R (.returned (.bool (decide (n0 < 128)))) w1) (
 Br (n1 == 1) (
 runD Tryz.prog ds w fun w2 =>
 R (.returned (.bool true)) w2) (
 Br (decide (n0 < 176)) (
 runD Tryz.prog ds w fun w3 =>
 R (.returned (.bool true)) w3) (
 Br (decide (n0 ≥ 224)) (
 runD Tryz.prog ds w fun w4 =>
 R (.returned (.bool (decide (n0 < 240)))) w4) (
 runD Tryz.prog ds w fun w5 =>
 R (.returned (.bool false)) w5))))
theorem c146_l : flat (bodyOf Tryz.f146) = [c146_0, c146_1, c146_2, c146_3, c146_4] := by kernel_rfl
theorem F146_1_ok (R : Rt) (n0 : Int) (n1 : Int) (ds : Ds) (w : World) (ρ : Env) (e0 : ρ 0 = .int .u8 n0) (e1 : ρ 1 = .int .i64 n1) (h : F146_1 R n0 n1 ds w) :
    TrL Tryz.prog Tryz.f146.ntmps [c146_0, c146_1, c146_2, c146_3, c146_4] (F146_q1 R) ρ ds w :=
  TrL_leaf (X := F146_1 R n0 n1 ds w) (setAll_cons e0 (setAll_cons e1 setAll_nil)) (by kernel_rfl) (by kernel_rfl) h
theorem F146_calls (n0 : Int) (n1 : Int) (w : World) (R : Rt) (h : F146_1 R n0 n1 [] w) : Calls Tryz.prog 146 #[.int .u8 n0, .int .i64 n1] w R :=
  calls_of_L (l := [c146_0, c146_1, c146_2, c146_3, c146_4]) Tryz.func146 (by kernel_rfl) (by rw [Tryz.ntmps146]; exact Nat.le_of_ble_eq_true (by kernel_rfl)) c146_l
    (F146_1_ok R n0 n1 [] w _ rfl rfl h)
theorem F146_callsD (n0 : Int) (n1 : Int) (w : World) (R : Rt) (u : FrameMode) (h : F146_1 R n0 n1 [] w) : CallsD Tryz.prog 146 #[.int .u8 n0, .int .i64 n1] u w fun e u' w' => u' = u ∧ R e w' :=
  callsD_of_L (l := [c146_0, c146_1, c146_2, c146_3, c146_4]) Tryz.func146 (by kernel_rfl) (by rw [Tryz.ntmps146]; exact Nat.le_of_ble_eq_true (by kernel_rfl)) (by kernel_rfl) c146_l
    (F146_1_ok R n0 n1 [] w _ rfl rfl h) u

end Go.Proofs.YtecmfdfhpldmmaaGreatDoor
