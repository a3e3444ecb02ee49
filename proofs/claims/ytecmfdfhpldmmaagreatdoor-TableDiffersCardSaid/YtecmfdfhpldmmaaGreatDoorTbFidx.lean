import Derived.Test.YtecmfdfhpldmmaaGreatDoorProg
import Derived.Test.YtecmfdfhpldmmaaGreatDoorShEight
/- Shallow texts of functions, printed by program, each checked by the kernel against the loaded code. No condition. -/
set_option maxRecDepth 100000
set_option linter.unusedVariables false
namespace Go.Proofs.YtecmfdfhpldmmaaGreatDoor
open Go.Sh
/-! function 66: slices.IndexFunc[[]cabinetry/api.Field,cabinetry/api.Field] -/
noncomputable def c66_0 : Code := itemAt (flat (bodyOf Tryz.f66)) 0
noncomputable def c66_1 : Code := itemAt (flat (bodyOf Tryz.f66)) 1
noncomputable def c66_2 : Code := itemAt (flat (bodyOf Tryz.f66)) 2
noncomputable def c66_3 : Code := itemAt (flat (bodyOf Tryz.f66)) 3
noncomputable def c66_4 : Code := itemAt (flat (bodyOf Tryz.f66)) 4
noncomputable def c66_2_0 : Code := itemAt (flat (innerC c66_2)) 0
noncomputable def c66_2_0_0 : Code := itemAt (flat (innerC c66_2_0)) 0
noncomputable def c66_2_0_1 : Code := itemAt (flat (innerC c66_2_0)) 1
noncomputable def c66_2_0_2 : Code := itemAt (flat (innerC c66_2_0)) 2
noncomputable def c66_2_0_3 : Code := itemAt (flat (innerC c66_2_0)) 3
def F66_q1 (R : Rt) : EQ := endQ Tryz.prog Tryz.f66.results.toList R
def F66_1 (R : Rt) (ds : Ds) (w : World) : Prop :=
 runD Tryz.prog ds w fun w1 =>
 R (.returned (.int .i64 (-1))) w1
def F66_k2 (R : Rt) : EP := (fun ρ ds w => F66_1 R ds w)
def F66_q3 (R : Rt) : EQ := (thenQ (F66_k2 R) (F66_q1 R))
def F66_q4 (R : Rt) : EQ := (blockQ 0 (F66_q3 R))
def F66_q5 (R : Rt) (J1 : (Int) → World → Prop) : EQ := (thenQ (fun ρ _ w => dInt .i64 (ρ 8) fun n8 => J1 n8 w) (F66_q4 R))
def F66_2 (R : Rt) (J1 : (Int) → World → Prop) (l0 : SV) (v1 : Value) (n7 : Int) (n8 : Int) (ds : Ds) (w : World) : Prop :=
 Br (decide (n8 < n7)) (
 ∃ a2 : Addr, l0.a = some a2 ∧ 0 ≤ n8 ∧ n8 < ((l0.len : Nat) : Int) ∧
 ∃ s15_0 : ByteArray, w.cell? ((a2.add (n8.toNat * 4)).add 0) = some (.string s15_0) ∧
 ∃ n15_1 : Int, w.cell? ((a2.add (n8.toNat * 4)).add 1) = some (.int .i64 n15_1) ∧
 ∃ n15_2 : Int, w.cell? ((a2.add (n8.toNat * 4)).add 2) = some (.int .i64 n15_2) ∧
 ∃ b15_3 : Bool, w.cell? ((a2.add (n8.toNat * 4)).add 3) = some (.bool b15_3) ∧
 fnE v1 fun f16 first16 cap16 =>
 hasBody Tryz.prog f16 = true ∧ Calls Tryz.prog f16 (first16.toList ++ (([.agg #[.string s15_0, .int .i64 n15_1, .int .i64 n15_2, .bool b15_3]] : List Value) ++ cap16.toList)).toArray w fun e w3 =>
 ∃ b16 : Bool, e = .returned (.bool b16) ∧
 Br b16 (
 runD Tryz.prog ds w3 fun w4 =>
 R (.returned (.int .i64 n8)) w4) (
 J1 (IntKind.i64.wrap (n8 + 1)) w3)) (
 F66_1 R ds w)
def F66_3 (R : Rt) (l0 : SV) (v1 : Value) (n7 : Int) (n8 : Int) (ds : Ds) (w : World) : Prop :=
 loopT (fun (J1 : (Int) → World → Prop) (s : Int) (w : World) => F66_2 R J1 l0 v1 n7 s ds w) n8 w
@[reducible] def F66_4 (R : Rt) (l0 : SV) (v1 : Value) (n7 : Int) (n8 : Int) (ds : Ds) (w : World) : Prop := F66_3 R l0 v1 n7 n8 ds w
def F66_k6 (R : Rt) : EP := (fun ρ ds w => dSl (ρ 0) fun l0 => dInt .i64 (ρ 7) fun n7 => dInt .i64 (ρ 8) fun n8 => F66_4 R l0 (ρ 1) n7 n8 ds w)
def F66_5 (R : Rt) (l0 : SV) (v1 : Value) (ds : Ds) (w : World) : Prop :=
 F66_4 R l0 (v1) ((l0.len : Nat) : Int) 0 ds w
theorem c66_l : flat (bodyOf Tryz.f66) = [c66_0, c66_1, c66_2, c66_3, c66_4] := by kernel_rfl
theorem c66_2_l : flat (innerC c66_2) = [c66_2_0] := by kernel_rfl
theorem c66_2_0_l : flat (innerC c66_2_0) = [c66_2_0_0, c66_2_0_1, c66_2_0_2, c66_2_0_3] := by kernel_rfl
theorem F66_1_ok (R : Rt) (ds : Ds) (w : World) (ρ : Env) (h : F66_1 R ds w) :
    TrL Tryz.prog Tryz.f66.ntmps [c66_3, c66_4] (F66_q1 R) ρ ds w :=
  TrL_leaf (X := F66_1 R ds w) setAll_nil (by kernel_rfl) (by kernel_rfl) h
theorem F66_2_ok (R : Rt) (J1 : (Int) → World → Prop) (l0 : SV) (v1 : Value) (n7 : Int) (n8 : Int) (ds : Ds) (w : World) (ρ : Env) (e0 : ρ 0 = .slice l0.a l0.len l0.cap) (e1 : ρ 1 = v1) (e7 : ρ 7 = .int .i64 n7) (e8 : ρ 8 = .int .i64 n8) (h : F66_2 R J1 l0 v1 n7 n8 ds w) :
    TrL Tryz.prog Tryz.f66.ntmps [c66_2_0_0, c66_2_0_1, c66_2_0_2, c66_2_0_3] (F66_q5 R J1) ρ ds w :=
  TrL_leaf (X := F66_2 R J1 l0 v1 n7 n8 ds w) (setAll_cons e0 (setAll_cons e1 (setAll_cons e7 (setAll_cons e8 setAll_nil)))) (by kernel_rfl) (by kernel_rfl) h
theorem F66_3_ok (R : Rt) (l0 : SV) (v1 : Value) (n7 : Int) (n8 : Int) (ds : Ds) (w : World) (ρ : Env) (e0 : ρ 0 = .slice l0.a l0.len l0.cap) (e1 : ρ 1 = v1) (e7 : ρ 7 = .int .i64 n7) (e8 : ρ 8 = .int .i64 n8) (h : F66_3 R l0 v1 n7 n8 ds w) :
    TrL Tryz.prog Tryz.f66.ntmps [c66_2_0] (F66_q4 R) ρ ds w :=
  TrL_one (Tr_loop' (c := innerC c66_2_0) (σ := Int) (enc := (fun (s : Int) (ρ : Env) => ρ 8 = .int .i64 s)) (D := (fun ρ K => dInt .i64 (ρ 8) fun n8 => K n8)) (F := (fun (J1 : (Int) → World → Prop) (s : Int) (w : World) => F66_2 R J1 l0 v1 n7 s ds w)) (s0 := n8) (by kernel_rfl) c66_2_0_l e8 (by kernel_rfl) (fun ρ K hD => by obtain ⟨n8, e8, hD⟩ := dInt_elim hD; exact ⟨n8, e8, hD⟩)
      (fun J1 s ρ' w' he ha hF => by
      have e8' := he
      exact F66_2_ok R J1 l0 v1 n7 s ds w' ρ' ((ha 0 (by kernel_rfl)).trans e0) ((ha 1 (by kernel_rfl)).trans e1) ((ha 7 (by kernel_rfl)).trans e7) e8' hF) h)
theorem F66_4_ok (R : Rt) (l0 : SV) (v1 : Value) (n7 : Int) (n8 : Int) (ds : Ds) (w : World) (ρ : Env) (e0 : ρ 0 = .slice l0.a l0.len l0.cap) (e1 : ρ 1 = v1) (e7 : ρ 7 = .int .i64 n7) (e8 : ρ 8 = .int .i64 n8) (h : F66_4 R l0 v1 n7 n8 ds w) :
    TrL Tryz.prog Tryz.f66.ntmps [c66_2, c66_3, c66_4] (F66_q1 R) ρ ds w :=
  TrL_head (K := (F66_k2 R)) (Tr_block' (c := innerC c66_2) (by kernel_rfl) c66_2_l (F66_3_ok R l0 v1 n7 n8 ds w ρ e0 e1 e7 e8 h))
    (fun ρ' ds' w' hD => by
      exact F66_1_ok R ds' w' ρ'  hD)
theorem F66_5_ok (R : Rt) (l0 : SV) (v1 : Value) (ds : Ds) (w : World) (ρ : Env) (e0 : ρ 0 = .slice l0.a l0.len l0.cap) (e1 : ρ 1 = v1) (h : F66_5 R l0 v1 ds w) :
    TrL Tryz.prog Tryz.f66.ntmps [c66_0, c66_1, c66_2, c66_3, c66_4] (F66_q1 R) ρ ds w :=
  TrL_piece (pre := [c66_0, c66_1]) (K := (F66_k6 R)) (X := F66_5 R l0 v1 ds w) (setAll_cons e0 (setAll_cons e1 setAll_nil)) (by kernel_rfl) (by kernel_rfl)
    (fun ρ' ds' w' hD => by
      obtain ⟨l0, e0, hD⟩ := dSl_elim hD; obtain ⟨n7, e7, hD⟩ := dInt_elim hD; obtain ⟨n8, e8, hD⟩ := dInt_elim hD; exact F66_4_ok R l0 (ρ' 1) n7 n8 ds' w' ρ' e0 rfl e7 e8 hD) h
theorem F66_calls (l0 : SV) (v1 : Value) (w : World) (R : Rt) (h : F66_5 R l0 v1 [] w) : Calls Tryz.prog 66 #[.slice l0.a l0.len l0.cap, v1] w R :=
  calls_of_L (l := [c66_0, c66_1, c66_2, c66_3, c66_4]) Tryz.func66 (by kernel_rfl) (by rw [Tryz.ntmps66]; exact Nat.le_of_ble_eq_true (by kernel_rfl)) c66_l
    (F66_5_ok R l0 v1 [] w _ rfl rfl h)
theorem F66_callsD (l0 : SV) (v1 : Value) (w : World) (R : Rt) (u : FrameMode) (h : F66_5 R l0 v1 [] w) : CallsD Tryz.prog 66 #[.slice l0.a l0.len l0.cap, v1] u w fun e u' w' => u' = u ∧ R e w' :=
  callsD_of_L (l := [c66_0, c66_1, c66_2, c66_3, c66_4]) Tryz.func66 (by kernel_rfl) (by rw [Tryz.ntmps66]; exact Nat.le_of_ble_eq_true (by kernel_rfl)) (by kernel_rfl) c66_l
    (F66_5_ok R l0 v1 [] w _ rfl rfl h) u

/-! function 67: cabinetry/table.Index$1 -/
noncomputable def c67_0 : Code := itemAt (flat (bodyOf Tryz.f67)) 0
noncomputable def c67_1 : Code := itemAt (flat (bodyOf Tryz.f67)) 1
noncomputable def c67_2 : Code := itemAt (flat (bodyOf Tryz.f67)) 2
def F67_q1 (R : Rt) : EQ := endQ Tryz.prog Tryz.f67.results.toList R
def F67_1 (R : Rt) (s0_0 : ByteArray) (n0_1 : Int) (n0_2 : Int) (b0_3 : Bool) (v1 : Value) (ds : Ds) (w : World) : Prop :=
 alE (.cells #[.string s0_0, .int .i64 n0_1, .int .i64 n0_2, .bool b0_3] 23) w fun r2 w1 =>
 ∃ s5 : ByteArray, w1.cell? (⟨r2, 0, none⟩ : Addr) = some (.string s5) ∧
 addrE v1 fun a2 =>
 ∃ s6 : ByteArray, w1.cell? a2 = some (.string s6) ∧
 runD Tryz.prog ds w1 fun w3 =>
 R (.returned (.bool (s5.toList == s6.toList))) w3
theorem c67_l : flat (bodyOf Tryz.f67) = [c67_0, c67_1, c67_2] := by kernel_rfl
theorem F67_1_ok (R : Rt) (s0_0 : ByteArray) (n0_1 : Int) (n0_2 : Int) (b0_3 : Bool) (v1 : Value) (ds : Ds) (w : World) (ρ : Env) (e0 : ρ 0 = .agg #[.string s0_0, .int .i64 n0_1, .int .i64 n0_2, .bool b0_3]) (e1 : ρ 1 = v1) (h : F67_1 R s0_0 n0_1 n0_2 b0_3 v1 ds w) :
    TrL Tryz.prog Tryz.f67.ntmps [c67_0, c67_1, c67_2] (F67_q1 R) ρ ds w :=
  TrL_leaf (X := F67_1 R s0_0 n0_1 n0_2 b0_3 v1 ds w) (setAll_cons e0 (setAll_cons e1 setAll_nil)) (by kernel_rfl) (by kernel_rfl) h
theorem F67_calls (s0_0 : ByteArray) (n0_1 : Int) (n0_2 : Int) (b0_3 : Bool) (v1 : Value) (w : World) (R : Rt) (h : F67_1 R s0_0 n0_1 n0_2 b0_3 v1 [] w) : Calls Tryz.prog 67 #[.agg #[.string s0_0, .int .i64 n0_1, .int .i64 n0_2, .bool b0_3], v1] w R :=
  calls_of_L (l := [c67_0, c67_1, c67_2]) Tryz.func67 (by kernel_rfl) (by rw [Tryz.ntmps67]; exact Nat.le_of_ble_eq_true (by kernel_rfl)) c67_l
    (F67_1_ok R s0_0 n0_1 n0_2 b0_3 v1 [] w _ rfl rfl h)
theorem F67_callsD (s0_0 : ByteArray) (n0_1 : Int) (n0_2 : Int) (b0_3 : Bool) (v1 : Value) (w : World) (R : Rt) (u : FrameMode) (h : F67_1 R s0_0 n0_1 n0_2 b0_3 v1 [] w) : CallsD Tryz.prog 67 #[.agg #[.string s0_0, .int .i64 n0_1, .int .i64 n0_2, .bool b0_3], v1] u w fun e u' w' => u' = u ∧ R e w' :=
  callsD_of_L (l := [c67_0, c67_1, c67_2]) Tryz.func67 (by kernel_rfl) (by rw [Tryz.ntmps67]; exact Nat.le_of_ble_eq_true (by kernel_rfl)) (by kernel_rfl) c67_l
    (F67_1_ok R s0_0 n0_1 n0_2 b0_3 v1 [] w _ rfl rfl h) u

/-! function 27: cabinetry/table.Index -/
noncomputable def c27_0 : Code := itemAt (flat (bodyOf Tryz.f27)) 0
noncomputable def c27_1 : Code := itemAt (flat (bodyOf Tryz.f27)) 1
noncomputable def c27_2 : Code := itemAt (flat (bodyOf Tryz.f27)) 2
noncomputable def c27_3 : Code := itemAt (flat (bodyOf Tryz.f27)) 3
def F27_q1 (R : Rt) : EQ := endQ Tryz.prog Tryz.f27.results.toList R
def F27_1 (R : Rt) (l0 : SV) (s1 : ByteArray) (ds : Ds) (w : World) : Prop :=
 alE (.cells #[.string s1] 9) w fun r3 w1 =>
 Calls Tryz.prog 66 #[.slice l0.a l0.len l0.cap, .func (.func 67) #[] #[.pointer (some (⟨r3, 0, none⟩ : Addr))]] w1 fun e w2 =>
 ∃ n9 : Int, e = .returned (.int .i64 n9) ∧
 ∃ n11 : Int, ∃ w3 : World, (Builtin.max_ #[3, 3] 3 #[.int .i64 n9, .int .i64 0]).run Tryz.prog w2 = .ok (.int .i64 n11) w3 ∧
 runD Tryz.prog ds w3 fun w4 =>
 R (.returned (.tuple #[.int .i64 n11, .bool (decide (n9 ≥ 0))])) w4
theorem c27_l : flat (bodyOf Tryz.f27) = [c27_0, c27_1, c27_2, c27_3] := by kernel_rfl
theorem F27_1_ok (R : Rt) (l0 : SV) (s1 : ByteArray) (ds : Ds) (w : World) (ρ : Env) (e0 : ρ 0 = .slice l0.a l0.len l0.cap) (e1 : ρ 1 = .string s1) (h : F27_1 R l0 s1 ds w) :
    TrL Tryz.prog Tryz.f27.ntmps [c27_0, c27_1, c27_2, c27_3] (F27_q1 R) ρ ds w :=
  TrL_leaf (X := F27_1 R l0 s1 ds w) (setAll_cons e0 (setAll_cons e1 setAll_nil)) (by kernel_rfl) (by kernel_rfl) h
theorem F27_calls (l0 : SV) (s1 : ByteArray) (w : World) (R : Rt) (h : F27_1 R l0 s1 [] w) : Calls Tryz.prog 27 #[.slice l0.a l0.len l0.cap, .string s1] w R :=
  calls_of_L (l := [c27_0, c27_1, c27_2, c27_3]) Tryz.func27 (by kernel_rfl) (by rw [Tryz.ntmps27]; exact Nat.le_of_ble_eq_true (by kernel_rfl)) c27_l
    (F27_1_ok R l0 s1 [] w _ rfl rfl h)
theorem F27_callsD (l0 : SV) (s1 : ByteArray) (w : World) (R : Rt) (u : FrameMode) (h : F27_1 R l0 s1 [] w) : CallsD Tryz.prog 27 #[.slice l0.a l0.len l0.cap, .string s1] u w fun e u' w' => u' = u ∧ R e w' :=
  callsD_of_L (l := [c27_0, c27_1, c27_2, c27_3]) Tryz.func27 (by kernel_rfl) (by rw [Tryz.ntmps27]; exact Nat.le_of_ble_eq_true (by kernel_rfl)) (by kernel_rfl) c27_l
    (F27_1_ok R l0 s1 [] w _ rfl rfl h) u

/-! function 28: cabinetry/cabinetryref03.Index -/
noncomputable def c28_0 : Code := itemAt (flat (bodyOf Tryz.f28)) 0
noncomputable def c28_1 : Code := itemAt (flat (bodyOf Tryz.f28)) 1
noncomputable def c28_2 : Code := itemAt (flat (bodyOf Tryz.f28)) 2
noncomputable def c28_3 : Code := itemAt (flat (bodyOf Tryz.f28)) 3
noncomputable def c28_4 : Code := itemAt (flat (bodyOf Tryz.f28)) 4
noncomputable def c28_2_0 : Code := itemAt (flat (innerC c28_2)) 0
noncomputable def c28_2_0_0 : Code := itemAt (flat (innerC c28_2_0)) 0
noncomputable def c28_2_0_1 : Code := itemAt (flat (innerC c28_2_0)) 1
noncomputable def c28_2_0_2 : Code := itemAt (flat (innerC c28_2_0)) 2
noncomputable def c28_2_0_3 : Code := itemAt (flat (innerC c28_2_0)) 3
def F28_q1 (R : Rt) : EQ := endQ Tryz.prog Tryz.f28.results.toList R
def F28_1 (R : Rt) (ds : Ds) (w : World) : Prop :=
 runD Tryz.prog ds w fun w1 =>
 R (.returned (.tuple #[.int .i64 0, .bool false])) w1
def F28_k2 (R : Rt) : EP := (fun ρ ds w => F28_1 R ds w)
def F28_q3 (R : Rt) : EQ := (thenQ (F28_k2 R) (F28_q1 R))
def F28_q4 (R : Rt) : EQ := (blockQ 0 (F28_q3 R))
def F28_q5 (R : Rt) (J1 : (Int) → World → Prop) : EQ := (thenQ (fun ρ _ w => dInt .i64 (ρ 6) fun n6 => J1 n6 w) (F28_q4 R))
def F28_2 (R : Rt) (J1 : (Int) → World → Prop) (l0 : SV) (s1 : ByteArray) (n6 : Int) (ds : Ds) (w : World) : Prop :=
 Br (decide (n6 < ((l0.len : Nat) : Int))) (
 ∃ a2 : Addr, l0.a = some a2 ∧ 0 ≤ n6 ∧ n6 < ((l0.len : Nat) : Int) ∧
 ∃ s17 : ByteArray, w.cell? (a2.add (n6.toNat * 4)) = some (.string s17) ∧
 Br (s17.toList == s1.toList) (
 runD Tryz.prog ds w fun w3 =>
 R (.returned (.tuple #[.int .i64 n6, .bool true])) w3) (
 J1 (IntKind.i64.wrap (n6 + 1)) w)) (
 F28_1 R ds w)
def F28_3 (R : Rt) (l0 : SV) (s1 : ByteArray) (n6 : Int) (ds : Ds) (w : World) : Prop :=
 loopT (fun (J1 : (Int) → World → Prop) (s : Int) (w : World) => F28_2 R J1 l0 s1 s ds w) n6 w
@[reducible] def F28_4 (R : Rt) (l0 : SV) (s1 : ByteArray) (n6 : Int) (ds : Ds) (w : World) : Prop := F28_3 R l0 s1 n6 ds w
def F28_k6 (R : Rt) : EP := (fun ρ ds w => dSl (ρ 0) fun l0 => dStr (ρ 1) fun s1 => dInt .i64 (ρ 6) fun n6 => F28_4 R l0 s1 n6 ds w)
def F28_5 (R : Rt) (l0 : SV) (s1 : ByteArray) (ds : Ds) (w : World) : Prop :=
 F28_4 R l0 s1 0 ds w
theorem c28_l : flat (bodyOf Tryz.f28) = [c28_0, c28_1, c28_2, c28_3, c28_4] := by kernel_rfl
theorem c28_2_l : flat (innerC c28_2) = [c28_2_0] := by kernel_rfl
theorem c28_2_0_l : flat (innerC c28_2_0) = [c28_2_0_0, c28_2_0_1, c28_2_0_2, c28_2_0_3] := by kernel_rfl
theorem F28_1_ok (R : Rt) (ds : Ds) (w : World) (ρ : Env) (h : F28_1 R ds w) :
    TrL Tryz.prog Tryz.f28.ntmps [c28_3, c28_4] (F28_q1 R) ρ ds w :=
  TrL_leaf (X := F28_1 R ds w) setAll_nil (by kernel_rfl) (by kernel_rfl) h
theorem F28_2_ok (R : Rt) (J1 : (Int) → World → Prop) (l0 : SV) (s1 : ByteArray) (n6 : Int) (ds : Ds) (w : World) (ρ : Env) (e0 : ρ 0 = .slice l0.a l0.len l0.cap) (e1 : ρ 1 = .string s1) (e6 : ρ 6 = .int .i64 n6) (h : F28_2 R J1 l0 s1 n6 ds w) :
    TrL Tryz.prog Tryz.f28.ntmps [c28_2_0_0, c28_2_0_1, c28_2_0_2, c28_2_0_3] (F28_q5 R J1) ρ ds w :=
  TrL_leaf (X := F28_2 R J1 l0 s1 n6 ds w) (setAll_cons e0 (setAll_cons e1 (setAll_cons e6 setAll_nil))) (by kernel_rfl) (by kernel_rfl) h
theorem F28_3_ok (R : Rt) (l0 : SV) (s1 : ByteArray) (n6 : Int) (ds : Ds) (w : World) (ρ : Env) (e0 : ρ 0 = .slice l0.a l0.len l0.cap) (e1 : ρ 1 = .string s1) (e6 : ρ 6 = .int .i64 n6) (h : F28_3 R l0 s1 n6 ds w) :
    TrL Tryz.prog Tryz.f28.ntmps [c28_2_0] (F28_q4 R) ρ ds w :=
  TrL_one (Tr_loop' (c := innerC c28_2_0) (σ := Int) (enc := (fun (s : Int) (ρ : Env) => ρ 6 = .int .i64 s)) (D := (fun ρ K => dInt .i64 (ρ 6) fun n6 => K n6)) (F := (fun (J1 : (Int) → World → Prop) (s : Int) (w : World) => F28_2 R J1 l0 s1 s ds w)) (s0 := n6) (by kernel_rfl) c28_2_0_l e6 (by kernel_rfl) (fun ρ K hD => by obtain ⟨n6, e6, hD⟩ := dInt_elim hD; exact ⟨n6, e6, hD⟩)
      (fun J1 s ρ' w' he ha hF => by
      have e6' := he
      exact F28_2_ok R J1 l0 s1 s ds w' ρ' ((ha 0 (by kernel_rfl)).trans e0) ((ha 1 (by kernel_rfl)).trans e1) e6' hF) h)
theorem F28_4_ok (R : Rt) (l0 : SV) (s1 : ByteArray) (n6 : Int) (ds : Ds) (w : World) (ρ : Env) (e0 : ρ 0 = .slice l0.a l0.len l0.cap) (e1 : ρ 1 = .string s1) (e6 : ρ 6 = .int .i64 n6) (h : F28_4 R l0 s1 n6 ds w) :
    TrL Tryz.prog Tryz.f28.ntmps [c28_2, c28_3, c28_4] (F28_q1 R) ρ ds w :=
  TrL_head (K := (F28_k2 R)) (Tr_block' (c := innerC c28_2) (by kernel_rfl) c28_2_l (F28_3_ok R l0 s1 n6 ds w ρ e0 e1 e6 h))
    (fun ρ' ds' w' hD => by
      exact F28_1_ok R ds' w' ρ'  hD)
theorem F28_5_ok (R : Rt) (l0 : SV) (s1 : ByteArray) (ds : Ds) (w : World) (ρ : Env) (e0 : ρ 0 = .slice l0.a l0.len l0.cap) (e1 : ρ 1 = .string s1) (h : F28_5 R l0 s1 ds w) :
    TrL Tryz.prog Tryz.f28.ntmps [c28_0, c28_1, c28_2, c28_3, c28_4] (F28_q1 R) ρ ds w :=
  TrL_piece (pre := [c28_0, c28_1]) (K := (F28_k6 R)) (X := F28_5 R l0 s1 ds w) (setAll_cons e0 (setAll_cons e1 setAll_nil)) (by kernel_rfl) (by kernel_rfl)
    (fun ρ' ds' w' hD => by
      obtain ⟨l0, e0, hD⟩ := dSl_elim hD; obtain ⟨s1, e1, hD⟩ := dStr_elim hD; obtain ⟨n6, e6, hD⟩ := dInt_elim hD; exact F28_4_ok R l0 s1 n6 ds' w' ρ' e0 e1 e6 hD) h
theorem F28_calls (l0 : SV) (s1 : ByteArray) (w : World) (R : Rt) (h : F28_5 R l0 s1 [] w) : Calls Tryz.prog 28 #[.slice l0.a l0.len l0.cap, .string s1] w R :=
  calls_of_L (l := [c28_0, c28_1, c28_2, c28_3, c28_4]) Tryz.func28 (by kernel_rfl) (by rw [Tryz.ntmps28]; exact Nat.le_of_ble_eq_true (by kernel_rfl)) c28_l
    (F28_5_ok R l0 s1 [] w _ rfl rfl h)
theorem F28_callsD (l0 : SV) (s1 : ByteArray) (w : World) (R : Rt) (u : FrameMode) (h : F28_5 R l0 s1 [] w) : CallsD Tryz.prog 28 #[.slice l0.a l0.len l0.cap, .string s1] u w fun e u' w' => u' = u ∧ R e w' :=
  callsD_of_L (l := [c28_0, c28_1, c28_2, c28_3, c28_4]) Tryz.func28 (by kernel_rfl) (by rw [Tryz.ntmps28]; exact Nat.le_of_ble_eq_true (by kernel_rfl)) (by kernel_rfl) c28_l
    (F28_5_ok R l0 s1 [] w _ rfl rfl h) u

end Go.Proofs.YtecmfdfhpldmmaaGreatDoor
