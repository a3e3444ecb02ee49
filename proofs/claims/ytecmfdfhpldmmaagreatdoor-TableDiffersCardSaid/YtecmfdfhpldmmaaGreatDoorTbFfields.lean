import Derived.Test.YtecmfdfhpldmmaaGreatDoorProg
import Derived.Test.YtecmfdfhpldmmaaGreatDoorShEight
/- Shallow texts of functions, printed by program, each checked by the kernel against the loaded code. No condition. -/
set_option maxRecDepth 100000
set_option linter.unusedVariables false
namespace Go.Proofs.YtecmfdfhpldmmaaGreatDoor
open Go.Sh
/-! function 36: cabinetry/table.ValidateFields -/
noncomputable def c36_0 : Code := itemAt (flat (bodyOf Tryz.f36)) 0
noncomputable def c36_1 : Code := itemAt (flat (bodyOf Tryz.f36)) 1
noncomputable def c36_2 : Code := itemAt (flat (bodyOf Tryz.f36)) 2
noncomputable def c36_3 : Code := itemAt (flat (bodyOf Tryz.f36)) 3
noncomputable def c36_4 : Code := itemAt (flat (bodyOf Tryz.f36)) 4
noncomputable def c36_5 : Code := itemAt (flat (bodyOf Tryz.f36)) 5
noncomputable def c36_6 : Code := itemAt (flat (bodyOf Tryz.f36)) 6
noncomputable def c36_7 : Code := itemAt (flat (bodyOf Tryz.f36)) 7
noncomputable def c36_8 : Code := itemAt (flat (bodyOf Tryz.f36)) 8
noncomputable def c36_9 : Code := itemAt (flat (bodyOf Tryz.f36)) 9
noncomputable def c36_5_0 : Code := itemAt (flat (innerC c36_5)) 0
noncomputable def c36_5_0_0 : Code := itemAt (flat (innerC c36_5_0)) 0
noncomputable def c36_5_0_1 : Code := itemAt (flat (innerC c36_5_0)) 1
noncomputable def c36_5_0_2 : Code := itemAt (flat (innerC c36_5_0)) 2
noncomputable def c36_5_0_3 : Code := itemAt (flat (innerC c36_5_0)) 3
def F36_q1 (R : Rt) : EQ := endQ Tryz.prog Tryz.f36.results.toList R
def F36_1 (R : Rt) (l0 : SV) (ds : Ds) (w : World) : Prop :=
 Br (decide (((l0.len : Nat) : Int) > 16)) (
 runD Tryz.prog ds w fun w1 =>
 R (.returned (.int .i64 3)) w1) (
 Calls Tryz.prog 69 #[.slice l0.a l0.len l0.cap] w fun e w2 =>
 ∃ n33 : Int, e = .returned (.int .i64 n33) ∧
 Br (decide (n33 > 2000)) (
 runD Tryz.prog ds w2 fun w3 =>
 R (.returned (.int .i64 3)) w3) (
 runD Tryz.prog ds w2 fun w4 =>
 R (.returned (.int .i64 0)) w4))
def F36_k2 (R : Rt) : EP := (fun ρ ds w => dSl (ρ 0) fun l0 => F36_1 R l0 ds w)
def F36_q3 (R : Rt) : EQ := (thenQ (F36_k2 R) (F36_q1 R))
def F36_q4 (R : Rt) : EQ := (blockQ 0 (F36_q3 R))
def F36_q5 (R : Rt) (J1 : (Int) → World → Prop) : EQ := (thenQ (fun ρ _ w => dInt .i64 (ρ 16) fun n16 => J1 n16 w) (F36_q4 R))
def F36_2 (R : Rt) (J1 : (Int) → World → Prop) (l0 : SV) (m3 : Option Nat) (l14 : SV) (n15 : Int) (n16 : Int) (ds : Ds) (w : World) : Prop :=
 Br (decide (n16 < n15)) (
 ∃ a5 : Addr, l14.a = some a5 ∧ 0 ≤ n16 ∧ n16 < ((l14.len : Nat) : Int) ∧
 ∃ s19_0 : ByteArray, w.cell? ((a5.add (n16.toNat * 4)).add 0) = some (.string s19_0) ∧
 ∃ n19_1 : Int, w.cell? ((a5.add (n16.toNat * 4)).add 1) = some (.int .i64 n19_1) ∧
 ∃ n19_2 : Int, w.cell? ((a5.add (n16.toNat * 4)).add 2) = some (.int .i64 n19_2) ∧
 ∃ b19_3 : Bool, w.cell? ((a5.add (n16.toNat * 4)).add 3) = some (.bool b19_3) ∧
 alE (.cells #[.string (⟨#[]⟩ : ByteArray), .int .i64 0, .int .i64 0, .bool false] 23) w fun r5 w6 =>
 stA Tryz.prog 23 (⟨r5, 0, none⟩ : Addr) #[.string s19_0, .int .i64 n19_1, .int .i64 n19_2, .bool b19_3] w6 fun w7 =>
 ∃ s22 : ByteArray, w7.cell? (⟨r5, 0, none⟩ : Addr) = some (.string s22) ∧
 ∃ b23 : Bool, ∃ w8 : World, (Instr.lookup 88 (.map m3) (.string s22) false).run Tryz.prog w7 = .ok (.bool b23) w8 ∧
 Br b23 (
 runD Tryz.prog ds w8 fun w9 =>
 R (.returned (.int .i64 5)) w9) (
 ∃ s26 : ByteArray, w8.cell? (⟨r5, 0, none⟩ : Addr) = some (.string s26) ∧
 doE Tryz.prog (Instr.mapUpdate 88 (.map m3) (.string s26) (.bool true)) w8 fun w10 =>
 J1 (IntKind.i64.wrap (n16 + 1)) w10)) (
 F36_1 R l0 ds w)
def F36_3 (R : Rt) (l0 : SV) (m3 : Option Nat) (l14 : SV) (n15 : Int) (n16 : Int) (ds : Ds) (w : World) : Prop :=
 loopT (fun (J1 : (Int) → World → Prop) (s : Int) (w : World) => F36_2 R J1 l0 m3 l14 n15 s ds w) n16 w
@[reducible] def F36_4 (R : Rt) (l0 : SV) (m3 : Option Nat) (l14 : SV) (n15 : Int) (n16 : Int) (ds : Ds) (w : World) : Prop := F36_3 R l0 m3 l14 n15 n16 ds w
def F36_k6 (R : Rt) : EP := (fun ρ ds w => dSl (ρ 0) fun l0 => dMap (ρ 3) fun m3 => dSl (ρ 14) fun l14 => dInt .i64 (ρ 15) fun n15 => dInt .i64 (ρ 16) fun n16 => F36_4 R l0 m3 l14 n15 n16 ds w)
def F36_5 (R : Rt) (l0 : SV) (ds : Ds) (w : World) : Prop :=
 Br (((l0.len : Nat) : Int) == 0) (
 runD Tryz.prog ds w fun w11 =>
 R (.returned (.int .i64 1)) w11) (
 Calls Tryz.prog 75 #[.slice l0.a l0.len l0.cap, .func (.func 76) #[] #[]] w fun e w12 =>
 ∃ b11 : Bool, e = .returned (.bool b11) ∧
 Br b11 (
 runD Tryz.prog ds w12 fun w13 =>
 R (.returned (.int .i64 1)) w13) (
 alE (.map #[] 0) w12 fun r13 w14 =>
 F36_4 R l0 (some r13) l0 ((l0.len : Nat) : Int) 0 ds w14))
theorem c36_l : flat (bodyOf Tryz.f36) = [c36_0, c36_1, c36_2, c36_3, c36_4, c36_5, c36_6, c36_7, c36_8, c36_9] := by kernel_rfl
theorem c36_5_l : flat (innerC c36_5) = [c36_5_0] := by kernel_rfl
theorem c36_5_0_l : flat (innerC c36_5_0) = [c36_5_0_0, c36_5_0_1, c36_5_0_2, c36_5_0_3] := by kernel_rfl
theorem F36_1_ok (R : Rt) (l0 : SV) (ds : Ds) (w : World) (ρ : Env) (e0 : ρ 0 = .slice l0.a l0.len l0.cap) (h : F36_1 R l0 ds w) :
    TrL Tryz.prog Tryz.f36.ntmps [c36_6, c36_7, c36_8, c36_9] (F36_q1 R) ρ ds w :=
  TrL_leaf (X := F36_1 R l0 ds w) (setAll_cons e0 setAll_nil) (by kernel_rfl) (by kernel_rfl) h
theorem F36_2_ok (R : Rt) (J1 : (Int) → World → Prop) (l0 : SV) (m3 : Option Nat) (l14 : SV) (n15 : Int) (n16 : Int) (ds : Ds) (w : World) (ρ : Env) (e0 : ρ 0 = .slice l0.a l0.len l0.cap) (e3 : ρ 3 = .map m3) (e14 : ρ 14 = .slice l14.a l14.len l14.cap) (e15 : ρ 15 = .int .i64 n15) (e16 : ρ 16 = .int .i64 n16) (h : F36_2 R J1 l0 m3 l14 n15 n16 ds w) :
    TrL Tryz.prog Tryz.f36.ntmps [c36_5_0_0, c36_5_0_1, c36_5_0_2, c36_5_0_3] (F36_q5 R J1) ρ ds w :=
  TrL_leaf (X := F36_2 R J1 l0 m3 l14 n15 n16 ds w) (setAll_cons e0 (setAll_cons e3 (setAll_cons e14 (setAll_cons e15 (setAll_cons e16 setAll_nil))))) (by kernel_rfl) (by kernel_rfl) h
theorem F36_3_ok (R : Rt) (l0 : SV) (m3 : Option Nat) (l14 : SV) (n15 : Int) (n16 : Int) (ds : Ds) (w : World) (ρ : Env) (e0 : ρ 0 = .slice l0.a l0.len l0.cap) (e3 : ρ 3 = .map m3) (e14 : ρ 14 = .slice l14.a l14.len l14.cap) (e15 : ρ 15 = .int .i64 n15) (e16 : ρ 16 = .int .i64 n16) (h : F36_3 R l0 m3 l14 n15 n16 ds w) :
    TrL Tryz.prog Tryz.f36.ntmps [c36_5_0] (F36_q4 R) ρ ds w :=
  TrL_one (Tr_loop' (c := innerC c36_5_0) (σ := Int) (enc := (fun (s : Int) (ρ : Env) => ρ 16 = .int .i64 s)) (D := (fun ρ K => dInt .i64 (ρ 16) fun n16 => K n16)) (F := (fun (J1 : (Int) → World → Prop) (s : Int) (w : World) => F36_2 R J1 l0 m3 l14 n15 s ds w)) (s0 := n16) (by kernel_rfl) c36_5_0_l e16 (by kernel_rfl) (fun ρ K hD => by obtain ⟨n16, e16, hD⟩ := dInt_elim hD; exact ⟨n16, e16, hD⟩)
      (fun J1 s ρ' w' he ha hF => by
      have e16' := he
      exact F36_2_ok R J1 l0 m3 l14 n15 s ds w' ρ' ((ha 0 (by kernel_rfl)).trans e0) ((ha 3 (by kernel_rfl)).trans e3) ((ha 14 (by kernel_rfl)).trans e14) ((ha 15 (by kernel_rfl)).trans e15) e16' hF) h)
theorem F36_4_ok (R : Rt) (l0 : SV) (m3 : Option Nat) (l14 : SV) (n15 : Int) (n16 : Int) (ds : Ds) (w : World) (ρ : Env) (e0 : ρ 0 = .slice l0.a l0.len l0.cap) (e3 : ρ 3 = .map m3) (e14 : ρ 14 = .slice l14.a l14.len l14.cap) (e15 : ρ 15 = .int .i64 n15) (e16 : ρ 16 = .int .i64 n16) (h : F36_4 R l0 m3 l14 n15 n16 ds w) :
    TrL Tryz.prog Tryz.f36.ntmps [c36_5, c36_6, c36_7, c36_8, c36_9] (F36_q1 R) ρ ds w :=
  TrL_head (K := (F36_k2 R)) (Tr_block' (c := innerC c36_5) (by kernel_rfl) c36_5_l (F36_3_ok R l0 m3 l14 n15 n16 ds w ρ e0 e3 e14 e15 e16 h))
    (fun ρ' ds' w' hD => by
      obtain ⟨l0, e0, hD⟩ := dSl_elim hD; exact F36_1_ok R l0 ds' w' ρ' e0 hD)
theorem F36_5_ok (R : Rt) (l0 : SV) (ds : Ds) (w : World) (ρ : Env) (e0 : ρ 0 = .slice l0.a l0.len l0.cap) (h : F36_5 R l0 ds w) :
    TrL Tryz.prog Tryz.f36.ntmps [c36_0, c36_1, c36_2, c36_3, c36_4, c36_5, c36_6, c36_7, c36_8, c36_9] (F36_q1 R) ρ ds w :=
  TrL_piece (pre := [c36_0, c36_1, c36_2, c36_3, c36_4]) (K := (F36_k6 R)) (X := F36_5 R l0 ds w) (setAll_cons e0 setAll_nil) (by kernel_rfl) (by kernel_rfl)
    (fun ρ' ds' w' hD => by
      obtain ⟨l0, e0, hD⟩ := dSl_elim hD; obtain ⟨m3, e3, hD⟩ := dMap_elim hD; obtain ⟨l14, e14, hD⟩ := dSl_elim hD; obtain ⟨n15, e15, hD⟩ := dInt_elim hD; obtain ⟨n16, e16, hD⟩ := dInt_elim hD; exact F36_4_ok R l0 m3 l14 n15 n16 ds' w' ρ' e0 e3 e14 e15 e16 hD) h
theorem F36_calls (l0 : SV) (w : World) (R : Rt) (h : F36_5 R l0 [] w) : Calls Tryz.prog 36 #[.slice l0.a l0.len l0.cap] w R :=
  calls_of_L (l := [c36_0, c36_1, c36_2, c36_3, c36_4, c36_5, c36_6, c36_7, c36_8, c36_9]) Tryz.func36 (by kernel_rfl) (by rw [Tryz.ntmps36]; exact Nat.le_of_ble_eq_true (by kernel_rfl)) c36_l
    (F36_5_ok R l0 [] w _ rfl h)
theorem F36_callsD (l0 : SV) (w : World) (R : Rt) (u : FrameMode) (h : F36_5 R l0 [] w) : CallsD Tryz.prog 36 #[.slice l0.a l0.len l0.cap] u w fun e u' w' => u' = u ∧ R e w' :=
  callsD_of_L (l := [c36_0, c36_1, c36_2, c36_3, c36_4, c36_5, c36_6, c36_7, c36_8, c36_9]) Tryz.func36 (by kernel_rfl) (by rw [Tryz.ntmps36]; exact Nat.le_of_ble_eq_true (by kernel_rfl)) (by kernel_rfl) c36_l
    (F36_5_ok R l0 [] w _ rfl h) u

/-! function 75: slices.ContainsFunc[[]cabinetry/api.Field,cabinetry/api.Field] -/
noncomputable def c75_0 : Code := itemAt (flat (bodyOf Tryz.f75)) 0
noncomputable def c75_1 : Code := itemAt (flat (bodyOf Tryz.f75)) 1
noncomputable def c75_2 : Code := itemAt (flat (bodyOf Tryz.f75)) 2
def F75_q1 (R : Rt) : EQ := endQ Tryz.prog Tryz.f75.results.toList R
def F75_1 (R : Rt) (l0 : SV) (v1 : Value) (ds : Ds) (w : World) : Prop :=
 Calls Tryz.prog 66 #[.slice l0.a l0.len l0.cap, v1] w fun e w1 =>
 ∃ n7 : Int, e = .returned (.int .i64 n7) ∧
 runD Tryz.prog ds w1 fun w2 =>
 R (.returned (.bool (decide (n7 ≥ 0)))) w2
theorem c75_l : flat (bodyOf Tryz.f75) = [c75_0, c75_1, c75_2] := by kernel_rfl
theorem F75_1_ok (R : Rt) (l0 : SV) (v1 : Value) (ds : Ds) (w : World) (ρ : Env) (e0 : ρ 0 = .slice l0.a l0.len l0.cap) (e1 : ρ 1 = v1) (h : F75_1 R l0 v1 ds w) :
    TrL Tryz.prog Tryz.f75.ntmps [c75_0, c75_1, c75_2] (F75_q1 R) ρ ds w :=
  TrL_leaf (X := F75_1 R l0 v1 ds w) (setAll_cons e0 (setAll_cons e1 setAll_nil)) (by kernel_rfl) (by kernel_rfl) h
theorem F75_calls (l0 : SV) (v1 : Value) (w : World) (R : Rt) (h : F75_1 R l0 v1 [] w) : Calls Tryz.prog 75 #[.slice l0.a l0.len l0.cap, v1] w R :=
  calls_of_L (l := [c75_0, c75_1, c75_2]) Tryz.func75 (by kernel_rfl) (by rw [Tryz.ntmps75]; exact Nat.le_of_ble_eq_true (by kernel_rfl)) c75_l
    (F75_1_ok R l0 v1 [] w _ rfl rfl h)
theorem F75_callsD (l0 : SV) (v1 : Value) (w : World) (R : Rt) (u : FrameMode) (h : F75_1 R l0 v1 [] w) : CallsD Tryz.prog 75 #[.slice l0.a l0.len l0.cap, v1] u w fun e u' w' => u' = u ∧ R e w' :=
  callsD_of_L (l := [c75_0, c75_1, c75_2]) Tryz.func75 (by kernel_rfl) (by rw [Tryz.ntmps75]; exact Nat.le_of_ble_eq_true (by kernel_rfl)) (by kernel_rfl) c75_l
    (F75_1_ok R l0 v1 [] w _ rfl rfl h) u

/-! function 76: cabinetry/table.ValidateFields$1 -/
noncomputable def c76_0 : Code := itemAt (flat (bodyOf Tryz.f76)) 0
noncomputable def c76_1 : Code := itemAt (flat (bodyOf Tryz.f76)) 1
noncomputable def c76_2 : Code := itemAt (flat (bodyOf Tryz.f76)) 2
def F76_q1 (R : Rt) : EQ := endQ Tryz.prog Tryz.f76.results.toList R
def F76_1 (R : Rt) (s0_0 : ByteArray) (n0_1 : Int) (n0_2 : Int) (b0_3 : Bool) (ds : Ds) (w : World) : Prop :=
 alE (.cells #[.string s0_0, .int .i64 n0_1, .int .i64 n0_2, .bool b0_3] 23) w fun r1 w1 =>
 ∃ s3_0 : ByteArray, w1.cell? ((⟨r1, 0, none⟩ : Addr).add 0) = some (.string s3_0) ∧
 ∃ n3_1 : Int, w1.cell? ((⟨r1, 0, none⟩ : Addr).add 1) = some (.int .i64 n3_1) ∧
 ∃ n3_2 : Int, w1.cell? ((⟨r1, 0, none⟩ : Addr).add 2) = some (.int .i64 n3_2) ∧
 ∃ b3_3 : Bool, w1.cell? ((⟨r1, 0, none⟩ : Addr).add 3) = some (.bool b3_3) ∧
 Calls Tryz.prog 47 #[.agg #[.string s3_0, .int .i64 n3_1, .int .i64 n3_2, .bool b3_3]] w1 fun e w2 =>
 ∃ b4 : Bool, e = .returned (.bool b4) ∧
 runD Tryz.prog ds w2 fun w3 =>
 R (.returned (.bool (!b4))) w3
theorem c76_l : flat (bodyOf Tryz.f76) = [c76_0, c76_1, c76_2] := by kernel_rfl
theorem F76_1_ok (R : Rt) (s0_0 : ByteArray) (n0_1 : Int) (n0_2 : Int) (b0_3 : Bool) (ds : Ds) (w : World) (ρ : Env) (e0 : ρ 0 = .agg #[.string s0_0, .int .i64 n0_1, .int .i64 n0_2, .bool b0_3]) (h : F76_1 R s0_0 n0_1 n0_2 b0_3 ds w) :
    TrL Tryz.prog Tryz.f76.ntmps [c76_0, c76_1, c76_2] (F76_q1 R) ρ ds w :=
  TrL_leaf (X := F76_1 R s0_0 n0_1 n0_2 b0_3 ds w) (setAll_cons e0 setAll_nil) (by kernel_rfl) (by kernel_rfl) h
theorem F76_calls (s0_0 : ByteArray) (n0_1 : Int) (n0_2 : Int) (b0_3 : Bool) (w : World) (R : Rt) (h : F76_1 R s0_0 n0_1 n0_2 b0_3 [] w) : Calls Tryz.prog 76 #[.agg #[.string s0_0, .int .i64 n0_1, .int .i64 n0_2, .bool b0_3]] w R :=
  calls_of_L (l := [c76_0, c76_1, c76_2]) Tryz.func76 (by kernel_rfl) (by rw [Tryz.ntmps76]; exact Nat.le_of_ble_eq_true (by kernel_rfl)) c76_l
    (F76_1_ok R s0_0 n0_1 n0_2 b0_3 [] w _ rfl h)
theorem F76_callsD (s0_0 : ByteArray) (n0_1 : Int) (n0_2 : Int) (b0_3 : Bool) (w : World) (R : Rt) (u : FrameMode) (h : F76_1 R s0_0 n0_1 n0_2 b0_3 [] w) : CallsD Tryz.prog 76 #[.agg #[.string s0_0, .int .i64 n0_1, .int .i64 n0_2, .bool b0_3]] u w fun e u' w' => u' = u ∧ R e w' :=
  callsD_of_L (l := [c76_0, c76_1, c76_2]) Tryz.func76 (by kernel_rfl) (by rw [Tryz.ntmps76]; exact Nat.le_of_ble_eq_true (by kernel_rfl)) (by kernel_rfl) c76_l
    (F76_1_ok R s0_0 n0_1 n0_2 b0_3 [] w _ rfl h) u

/-! function 69: cabinetry/table.length -/
noncomputable def c69_0 : Code := itemAt (flat (bodyOf Tryz.f69)) 0
noncomputable def c69_1 : Code := itemAt (flat (bodyOf Tryz.f69)) 1
noncomputable def c69_2 : Code := itemAt (flat (bodyOf Tryz.f69)) 2
noncomputable def c69_3 : Code := itemAt (flat (bodyOf Tryz.f69)) 3
noncomputable def c69_4 : Code := itemAt (flat (bodyOf Tryz.f69)) 4
noncomputable def c69_5 : Code := itemAt (flat (bodyOf Tryz.f69)) 5
noncomputable def c69_3_0 : Code := itemAt (flat (innerC c69_3)) 0
noncomputable def c69_3_0_0 : Code := itemAt (flat (innerC c69_3_0)) 0
noncomputable def c69_3_0_1 : Code := itemAt (flat (innerC c69_3_0)) 1
noncomputable def c69_3_0_2 : Code := itemAt (flat (innerC c69_3_0)) 2
noncomputable def c69_3_0_3 : Code := itemAt (flat (innerC c69_3_0)) 3
def F69_q1 (R : Rt) : EQ := endQ Tryz.prog Tryz.f69.results.toList R
def F69_1 (R : Rt) (n3 : Int) (ds : Ds) (w : World) : Prop :=
 runD Tryz.prog ds w fun w1 =>
 R (.returned (.int .i64 n3)) w1
def F69_k2 (R : Rt) : EP := (fun ρ ds w => dInt .i64 (ρ 3) fun n3 => F69_1 R n3 ds w)
def F69_q3 (R : Rt) : EQ := (thenQ (F69_k2 R) (F69_q1 R))
def F69_q4 (R : Rt) : EQ := (blockQ 0 (F69_q3 R))
def F69_q5 (R : Rt) (J1 : (Int × Int) → World → Prop) : EQ := (thenQ (fun ρ _ w => dInt .i64 (ρ 3) fun n3 => dInt .i64 (ρ 11) fun n11 => J1 (n3, n11) w) (F69_q4 R))
def F69_2 (R : Rt) (J1 : (Int × Int) → World → Prop) (n3 : Int) (l9 : SV) (n10 : Int) (n11 : Int) (ds : Ds) (w : World) : Prop :=
 Br (decide (n11 < n10)) (
 ∃ a2 : Addr, l9.a = some a2 ∧ 0 ≤ n11 ∧ n11 < ((l9.len : Nat) : Int) ∧
 ∃ s14_0 : ByteArray, w.cell? ((a2.add (n11.toNat * 4)).add 0) = some (.string s14_0) ∧
 ∃ n14_1 : Int, w.cell? ((a2.add (n11.toNat * 4)).add 1) = some (.int .i64 n14_1) ∧
 ∃ n14_2 : Int, w.cell? ((a2.add (n11.toNat * 4)).add 2) = some (.int .i64 n14_2) ∧
 ∃ b14_3 : Bool, w.cell? ((a2.add (n11.toNat * 4)).add 3) = some (.bool b14_3) ∧
 alE (.cells #[.string (⟨#[]⟩ : ByteArray), .int .i64 0, .int .i64 0, .bool false] 23) w fun r5 w3 =>
 stA Tryz.prog 23 (⟨r5, 0, none⟩ : Addr) #[.string s14_0, .int .i64 n14_1, .int .i64 n14_2, .bool b14_3] w3 fun w4 =>
 ∃ n17 : Int, w4.cell? ((⟨r5, 0, none⟩ : Addr).add 2) = some (.int .i64 n17) ∧
 J1 ((IntKind.i64.wrap (n3 + n17)), (IntKind.i64.wrap (n11 + 1))) w4) (
 F69_1 R n3 ds w)
def F69_3 (R : Rt) (n3 : Int) (l9 : SV) (n10 : Int) (n11 : Int) (ds : Ds) (w : World) : Prop :=
 loopT (fun (J1 : (Int × Int) → World → Prop) (s : Int × Int) (w : World) => F69_2 R J1 s.1 l9 n10 s.2 ds w) (n3, n11) w
@[reducible] def F69_4 (R : Rt) (n3 : Int) (l9 : SV) (n10 : Int) (n11 : Int) (ds : Ds) (w : World) : Prop := F69_3 R n3 l9 n10 n11 ds w
def F69_k6 (R : Rt) : EP := (fun ρ ds w => dInt .i64 (ρ 3) fun n3 => dSl (ρ 9) fun l9 => dInt .i64 (ρ 10) fun n10 => dInt .i64 (ρ 11) fun n11 => F69_4 R n3 l9 n10 n11 ds w)
def F69_5 (R : Rt) (l0 : SV) (ds : Ds) (w : World) : Prop :=
 Calls Tryz.prog 71 #[.slice l0.a l0.len l0.cap] w fun e w5 =>
 ∃ n7 : Int, e = .returned (.int .i64 n7) ∧
 F69_4 R (IntKind.i64.wrap ((1 : Int) + n7)) l0 ((l0.len : Nat) : Int) 0 ds w5
theorem c69_l : flat (bodyOf Tryz.f69) = [c69_0, c69_1, c69_2, c69_3, c69_4, c69_5] := by kernel_rfl
theorem c69_3_l : flat (innerC c69_3) = [c69_3_0] := by kernel_rfl
theorem c69_3_0_l : flat (innerC c69_3_0) = [c69_3_0_0, c69_3_0_1, c69_3_0_2, c69_3_0_3] := by kernel_rfl
theorem F69_1_ok (R : Rt) (n3 : Int) (ds : Ds) (w : World) (ρ : Env) (e3 : ρ 3 = .int .i64 n3) (h : F69_1 R n3 ds w) :
    TrL Tryz.prog Tryz.f69.ntmps [c69_4, c69_5] (F69_q1 R) ρ ds w :=
  TrL_leaf (X := F69_1 R n3 ds w) (setAll_cons e3 setAll_nil) (by kernel_rfl) (by kernel_rfl) h
theorem F69_2_ok (R : Rt) (J1 : (Int × Int) → World → Prop) (n3 : Int) (l9 : SV) (n10 : Int) (n11 : Int) (ds : Ds) (w : World) (ρ : Env) (e3 : ρ 3 = .int .i64 n3) (e9 : ρ 9 = .slice l9.a l9.len l9.cap) (e10 : ρ 10 = .int .i64 n10) (e11 : ρ 11 = .int .i64 n11) (h : F69_2 R J1 n3 l9 n10 n11 ds w) :
    TrL Tryz.prog Tryz.f69.ntmps [c69_3_0_0, c69_3_0_1, c69_3_0_2, c69_3_0_3] (F69_q5 R J1) ρ ds w :=
  TrL_leaf (X := F69_2 R J1 n3 l9 n10 n11 ds w) (setAll_cons e3 (setAll_cons e9 (setAll_cons e10 (setAll_cons e11 setAll_nil)))) (by kernel_rfl) (by kernel_rfl) h
theorem F69_3_ok (R : Rt) (n3 : Int) (l9 : SV) (n10 : Int) (n11 : Int) (ds : Ds) (w : World) (ρ : Env) (e3 : ρ 3 = .int .i64 n3) (e9 : ρ 9 = .slice l9.a l9.len l9.cap) (e10 : ρ 10 = .int .i64 n10) (e11 : ρ 11 = .int .i64 n11) (h : F69_3 R n3 l9 n10 n11 ds w) :
    TrL Tryz.prog Tryz.f69.ntmps [c69_3_0] (F69_q4 R) ρ ds w :=
  TrL_one (Tr_loop' (c := innerC c69_3_0) (σ := Int × Int) (enc := (fun (s : Int × Int) (ρ : Env) => ρ 3 = .int .i64 s.1 ∧ ρ 11 = .int .i64 s.2)) (D := (fun ρ K => dInt .i64 (ρ 3) fun n3 => dInt .i64 (ρ 11) fun n11 => K (n3, n11))) (F := (fun (J1 : (Int × Int) → World → Prop) (s : Int × Int) (w : World) => F69_2 R J1 s.1 l9 n10 s.2 ds w)) (s0 := (n3, n11)) (by kernel_rfl) c69_3_0_l ⟨e3, e11⟩ (by kernel_rfl) (fun ρ K hD => by obtain ⟨n3, e3, hD⟩ := dInt_elim hD; obtain ⟨n11, e11, hD⟩ := dInt_elim hD; exact ⟨(n3, n11), ⟨e3, e11⟩, hD⟩)
      (fun J1 s ρ' w' he ha hF => by
      obtain ⟨e3', e11'⟩ := he
      exact F69_2_ok R J1 s.1 l9 n10 s.2 ds w' ρ' e3' ((ha 9 (by kernel_rfl)).trans e9) ((ha 10 (by kernel_rfl)).trans e10) e11' hF) h)
theorem F69_4_ok (R : Rt) (n3 : Int) (l9 : SV) (n10 : Int) (n11 : Int) (ds : Ds) (w : World) (ρ : Env) (e3 : ρ 3 = .int .i64 n3) (e9 : ρ 9 = .slice l9.a l9.len l9.cap) (e10 : ρ 10 = .int .i64 n10) (e11 : ρ 11 = .int .i64 n11) (h : F69_4 R n3 l9 n10 n11 ds w) :
    TrL Tryz.prog Tryz.f69.ntmps [c69_3, c69_4, c69_5] (F69_q1 R) ρ ds w :=
  TrL_head (K := (F69_k2 R)) (Tr_block' (c := innerC c69_3) (by kernel_rfl) c69_3_l (F69_3_ok R n3 l9 n10 n11 ds w ρ e3 e9 e10 e11 h))
    (fun ρ' ds' w' hD => by
      obtain ⟨n3, e3, hD⟩ := dInt_elim hD; exact F69_1_ok R n3 ds' w' ρ' e3 hD)
theorem F69_5_ok (R : Rt) (l0 : SV) (ds : Ds) (w : World) (ρ : Env) (e0 : ρ 0 = .slice l0.a l0.len l0.cap) (h : F69_5 R l0 ds w) :
    TrL Tryz.prog Tryz.f69.ntmps [c69_0, c69_1, c69_2, c69_3, c69_4, c69_5] (F69_q1 R) ρ ds w :=
  TrL_piece (pre := [c69_0, c69_1, c69_2]) (K := (F69_k6 R)) (X := F69_5 R l0 ds w) (setAll_cons e0 setAll_nil) (by kernel_rfl) (by kernel_rfl)
    (fun ρ' ds' w' hD => by
      obtain ⟨n3, e3, hD⟩ := dInt_elim hD; obtain ⟨l9, e9, hD⟩ := dSl_elim hD; obtain ⟨n10, e10, hD⟩ := dInt_elim hD; obtain ⟨n11, e11, hD⟩ := dInt_elim hD; exact F69_4_ok R n3 l9 n10 n11 ds' w' ρ' e3 e9 e10 e11 hD) h
theorem F69_calls (l0 : SV) (w : World) (R : Rt) (h : F69_5 R l0 [] w) : Calls Tryz.prog 69 #[.slice l0.a l0.len l0.cap] w R :=
  calls_of_L (l := [c69_0, c69_1, c69_2, c69_3, c69_4, c69_5]) Tryz.func69 (by kernel_rfl) (by rw [Tryz.ntmps69]; exact Nat.le_of_ble_eq_true (by kernel_rfl)) c69_l
    (F69_5_ok R l0 [] w _ rfl h)
theorem F69_callsD (l0 : SV) (w : World) (R : Rt) (u : FrameMode) (h : F69_5 R l0 [] w) : CallsD Tryz.prog 69 #[.slice l0.a l0.len l0.cap] u w fun e u' w' => u' = u ∧ R e w' :=
  callsD_of_L (l := [c69_0, c69_1, c69_2, c69_3, c69_4, c69_5]) Tryz.func69 (by kernel_rfl) (by rw [Tryz.ntmps69]; exact Nat.le_of_ble_eq_true (by kernel_rfl)) (by kernel_rfl) c69_l
    (F69_5_ok R l0 [] w _ rfl h) u

/-! function 71: cabinetry/table.nullBytes -/
noncomputable def c71_0 : Code := itemAt (flat (bodyOf Tryz.f71)) 0
noncomputable def c71_1 : Code := itemAt (flat (bodyOf Tryz.f71)) 1
noncomputable def c71_2 : Code := itemAt (flat (bodyOf Tryz.f71)) 2
noncomputable def c71_3 : Code := itemAt (flat (bodyOf Tryz.f71)) 3
noncomputable def c71_4 : Code := itemAt (flat (bodyOf Tryz.f71)) 4
noncomputable def c71_5 : Code := itemAt (flat (bodyOf Tryz.f71)) 5
noncomputable def c71_3_0 : Code := itemAt (flat (innerC c71_3)) 0
noncomputable def c71_3_0_0 : Code := itemAt (flat (innerC c71_3_0)) 0
noncomputable def c71_3_0_1 : Code := itemAt (flat (innerC c71_3_0)) 1
noncomputable def c71_3_0_2 : Code := itemAt (flat (innerC c71_3_0)) 2
noncomputable def c71_3_0_3 : Code := itemAt (flat (innerC c71_3_0)) 3
def F71_q1 (R : Rt) : EQ := endQ Tryz.prog Tryz.f71.results.toList R
def F71_1 (R : Rt) (n3 : Int) (ds : Ds) (w : World) : Prop :=
 IntKind.i64 = IntKind.i64 ∧ (8 : Int) ≠ 0 ∧
 runD Tryz.prog ds w fun w1 =>
 R (.returned (.int .i64 (IntKind.i64.wrap ((IntKind.i64.wrap (n3 + 7)).tdiv 8)))) w1
def F71_k2 (R : Rt) : EP := (fun ρ ds w => dInt .i64 (ρ 3) fun n3 => F71_1 R n3 ds w)
def F71_q3 (R : Rt) : EQ := (thenQ (F71_k2 R) (F71_q1 R))
def F71_q4 (R : Rt) : EQ := (blockQ 0 (F71_q3 R))
def F71_q5 (R : Rt) (J1 : (Int × Int) → World → Prop) : EQ := (thenQ (fun ρ _ w => dInt .i64 (ρ 3) fun n3 => dInt .i64 (ρ 8) fun n8 => J1 (n3, n8) w) (F71_q4 R))
def F71_2 (R : Rt) (J1 : (Int × Int) → World → Prop) (n3 : Int) (l6 : SV) (n7 : Int) (n8 : Int) (ds : Ds) (w : World) : Prop :=
 Br (decide (n8 < n7)) (
 ∃ a2 : Addr, l6.a = some a2 ∧ 0 ≤ n8 ∧ n8 < ((l6.len : Nat) : Int) ∧
 ∃ s11_0 : ByteArray, w.cell? ((a2.add (n8.toNat * 4)).add 0) = some (.string s11_0) ∧
 ∃ n11_1 : Int, w.cell? ((a2.add (n8.toNat * 4)).add 1) = some (.int .i64 n11_1) ∧
 ∃ n11_2 : Int, w.cell? ((a2.add (n8.toNat * 4)).add 2) = some (.int .i64 n11_2) ∧
 ∃ b11_3 : Bool, w.cell? ((a2.add (n8.toNat * 4)).add 3) = some (.bool b11_3) ∧
 alE (.cells #[.string (⟨#[]⟩ : ByteArray), .int .i64 0, .int .i64 0, .bool false] 23) w fun r5 w3 =>
 stA Tryz.prog 23 (⟨r5, 0, none⟩ : Addr) #[.string s11_0, .int .i64 n11_1, .int .i64 n11_2, .bool b11_3] w3 fun w4 =>
 ∃ b13 : Bool, w4.cell? ((⟨r5, 0, none⟩ : Addr).add 3) = some (.bool b13) ∧
 Br b13 (
 J1 ((IntKind.i64.wrap (n3 + 1)), (IntKind.i64.wrap (n8 + 1))) w4) (
 J1 (n3, (IntKind.i64.wrap (n8 + 1))) w4)) (
 F71_1 R n3 ds w)
def F71_3 (R : Rt) (n3 : Int) (l6 : SV) (n7 : Int) (n8 : Int) (ds : Ds) (w : World) : Prop :=
 loopT (fun (J1 : (Int × Int) → World → Prop) (s : Int × Int) (w : World) => F71_2 R J1 s.1 l6 n7 s.2 ds w) (n3, n8) w
@[reducible] def F71_4 (R : Rt) (n3 : Int) (l6 : SV) (n7 : Int) (n8 : Int) (ds : Ds) (w : World) : Prop := F71_3 R n3 l6 n7 n8 ds w
def F71_k6 (R : Rt) : EP := (fun ρ ds w => dInt .i64 (ρ 3) fun n3 => dSl (ρ 6) fun l6 => dInt .i64 (ρ 7) fun n7 => dInt .i64 (ρ 8) fun n8 => F71_4 R n3 l6 n7 n8 ds w)
def F71_5 (R : Rt) (l0 : SV) (ds : Ds) (w : World) : Prop :=
 F71_4 R 0 l0 ((l0.len : Nat) : Int) 0 ds w
theorem c71_l : flat (bodyOf Tryz.f71) = [c71_0, c71_1, c71_2, c71_3, c71_4, c71_5] := by kernel_rfl
theorem c71_3_l : flat (innerC c71_3) = [c71_3_0] := by kernel_rfl
theorem c71_3_0_l : flat (innerC c71_3_0) = [c71_3_0_0, c71_3_0_1, c71_3_0_2, c71_3_0_3] := by kernel_rfl
theorem F71_1_ok (R : Rt) (n3 : Int) (ds : Ds) (w : World) (ρ : Env) (e3 : ρ 3 = .int .i64 n3) (h : F71_1 R n3 ds w) :
    TrL Tryz.prog Tryz.f71.ntmps [c71_4, c71_5] (F71_q1 R) ρ ds w :=
  TrL_leaf (X := F71_1 R n3 ds w) (setAll_cons e3 setAll_nil) (by kernel_rfl) (by kernel_rfl) h
theorem F71_2_ok (R : Rt) (J1 : (Int × Int) → World → Prop) (n3 : Int) (l6 : SV) (n7 : Int) (n8 : Int) (ds : Ds) (w : World) (ρ : Env) (e3 : ρ 3 = .int .i64 n3) (e6 : ρ 6 = .slice l6.a l6.len l6.cap) (e7 : ρ 7 = .int .i64 n7) (e8 : ρ 8 = .int .i64 n8) (h : F71_2 R J1 n3 l6 n7 n8 ds w) :
    TrL Tryz.prog Tryz.f71.ntmps [c71_3_0_0, c71_3_0_1, c71_3_0_2, c71_3_0_3] (F71_q5 R J1) ρ ds w :=
  TrL_leaf (X := F71_2 R J1 n3 l6 n7 n8 ds w) (setAll_cons e3 (setAll_cons e6 (setAll_cons e7 (setAll_cons e8 setAll_nil)))) (by kernel_rfl) (by kernel_rfl) h
theorem F71_3_ok (R : Rt) (n3 : Int) (l6 : SV) (n7 : Int) (n8 : Int) (ds : Ds) (w : World) (ρ : Env) (e3 : ρ 3 = .int .i64 n3) (e6 : ρ 6 = .slice l6.a l6.len l6.cap) (e7 : ρ 7 = .int .i64 n7) (e8 : ρ 8 = .int .i64 n8) (h : F71_3 R n3 l6 n7 n8 ds w) :
    TrL Tryz.prog Tryz.f71.ntmps [c71_3_0] (F71_q4 R) ρ ds w :=
  TrL_one (Tr_loop' (c := innerC c71_3_0) (σ := Int × Int) (enc := (fun (s : Int × Int) (ρ : Env) => ρ 3 = .int .i64 s.1 ∧ ρ 8 = .int .i64 s.2)) (D := (fun ρ K => dInt .i64 (ρ 3) fun n3 => dInt .i64 (ρ 8) fun n8 => K (n3, n8))) (F := (fun (J1 : (Int × Int) → World → Prop) (s : Int × Int) (w : World) => F71_2 R J1 s.1 l6 n7 s.2 ds w)) (s0 := (n3, n8)) (by kernel_rfl) c71_3_0_l ⟨e3, e8⟩ (by kernel_rfl) (fun ρ K hD => by obtain ⟨n3, e3, hD⟩ := dInt_elim hD; obtain ⟨n8, e8, hD⟩ := dInt_elim hD; exact ⟨(n3, n8), ⟨e3, e8⟩, hD⟩)
      (fun J1 s ρ' w' he ha hF => by
      obtain ⟨e3', e8'⟩ := he
      exact F71_2_ok R J1 s.1 l6 n7 s.2 ds w' ρ' e3' ((ha 6 (by kernel_rfl)).trans e6) ((ha 7 (by kernel_rfl)).trans e7) e8' hF) h)
theorem F71_4_ok (R : Rt) (n3 : Int) (l6 : SV) (n7 : Int) (n8 : Int) (ds : Ds) (w : World) (ρ : Env) (e3 : ρ 3 = .int .i64 n3) (e6 : ρ 6 = .slice l6.a l6.len l6.cap) (e7 : ρ 7 = .int .i64 n7) (e8 : ρ 8 = .int .i64 n8) (h : F71_4 R n3 l6 n7 n8 ds w) :
    TrL Tryz.prog Tryz.f71.ntmps [c71_3, c71_4, c71_5] (F71_q1 R) ρ ds w :=
  TrL_head (K := (F71_k2 R)) (Tr_block' (c := innerC c71_3) (by kernel_rfl) c71_3_l (F71_3_ok R n3 l6 n7 n8 ds w ρ e3 e6 e7 e8 h))
    (fun ρ' ds' w' hD => by
      obtain ⟨n3, e3, hD⟩ := dInt_elim hD; exact F71_1_ok R n3 ds' w' ρ' e3 hD)
theorem F71_5_ok (R : Rt) (l0 : SV) (ds : Ds) (w : World) (ρ : Env) (e0 : ρ 0 = .slice l0.a l0.len l0.cap) (h : F71_5 R l0 ds w) :
    TrL Tryz.prog Tryz.f71.ntmps [c71_0, c71_1, c71_2, c71_3, c71_4, c71_5] (F71_q1 R) ρ ds w :=
  TrL_piece (pre := [c71_0, c71_1, c71_2]) (K := (F71_k6 R)) (X := F71_5 R l0 ds w) (setAll_cons e0 setAll_nil) (by kernel_rfl) (by kernel_rfl)
    (fun ρ' ds' w' hD => by
      obtain ⟨n3, e3, hD⟩ := dInt_elim hD; obtain ⟨l6, e6, hD⟩ := dSl_elim hD; obtain ⟨n7, e7, hD⟩ := dInt_elim hD; obtain ⟨n8, e8, hD⟩ := dInt_elim hD; exact F71_4_ok R n3 l6 n7 n8 ds' w' ρ' e3 e6 e7 e8 hD) h
theorem F71_calls (l0 : SV) (w : World) (R : Rt) (h : F71_5 R l0 [] w) : Calls Tryz.prog 71 #[.slice l0.a l0.len l0.cap] w R :=
  calls_of_L (l := [c71_0, c71_1, c71_2, c71_3, c71_4, c71_5]) Tryz.func71 (by kernel_rfl) (by rw [Tryz.ntmps71]; exact Nat.le_of_ble_eq_true (by kernel_rfl)) c71_l
    (F71_5_ok R l0 [] w _ rfl h)
theorem F71_callsD (l0 : SV) (w : World) (R : Rt) (u : FrameMode) (h : F71_5 R l0 [] w) : CallsD Tryz.prog 71 #[.slice l0.a l0.len l0.cap] u w fun e u' w' => u' = u ∧ R e w' :=
  callsD_of_L (l := [c71_0, c71_1, c71_2, c71_3, c71_4, c71_5]) Tryz.func71 (by kernel_rfl) (by rw [Tryz.ntmps71]; exact Nat.le_of_ble_eq_true (by kernel_rfl)) (by kernel_rfl) c71_l
    (F71_5_ok R l0 [] w _ rfl h) u

/-! function 37: cabinetry/cabinetryref03.ValidateFields -/
noncomputable def c37_0 : Code := itemAt (flat (bodyOf Tryz.f37)) 0
noncomputable def c37_1 : Code := itemAt (flat (bodyOf Tryz.f37)) 1
noncomputable def c37_2 : Code := itemAt (flat (bodyOf Tryz.f37)) 2
noncomputable def c37_3 : Code := itemAt (flat (bodyOf Tryz.f37)) 3
noncomputable def c37_4 : Code := itemAt (flat (bodyOf Tryz.f37)) 4
noncomputable def c37_5 : Code := itemAt (flat (bodyOf Tryz.f37)) 5
noncomputable def c37_6 : Code := itemAt (flat (bodyOf Tryz.f37)) 6
noncomputable def c37_7 : Code := itemAt (flat (bodyOf Tryz.f37)) 7
noncomputable def c37_8 : Code := itemAt (flat (bodyOf Tryz.f37)) 8
noncomputable def c37_9 : Code := itemAt (flat (bodyOf Tryz.f37)) 9
noncomputable def c37_10 : Code := itemAt (flat (bodyOf Tryz.f37)) 10
noncomputable def c37_6_0 : Code := itemAt (flat (innerC c37_6)) 0
noncomputable def c37_6_0_0 : Code := itemAt (flat (innerC c37_6_0)) 0
noncomputable def c37_6_0_1 : Code := itemAt (flat (innerC c37_6_0)) 1
noncomputable def c37_6_0_2 : Code := itemAt (flat (innerC c37_6_0)) 2
noncomputable def c37_6_0_3 : Code := itemAt (flat (innerC c37_6_0)) 3
noncomputable def c37_6_0_2_0 : Code := itemAt (flat (innerC c37_6_0_2)) 0
noncomputable def c37_6_0_2_1 : Code := itemAt (flat (innerC c37_6_0_2)) 1
noncomputable def c37_6_0_2_1_0 : Code := itemAt (flat (innerC c37_6_0_2_1)) 0
noncomputable def c37_6_0_2_1_0_0 : Code := itemAt (flat (innerC c37_6_0_2_1_0)) 0
noncomputable def c37_6_0_2_1_0_1 : Code := itemAt (flat (innerC c37_6_0_2_1_0)) 1
noncomputable def c37_6_0_2_1_0_2 : Code := itemAt (flat (innerC c37_6_0_2_1_0)) 2
noncomputable def c37_6_0_2_1_0_3 : Code := itemAt (flat (innerC c37_6_0_2_1_0)) 3
noncomputable def c37_4_0 : Code := itemAt (flat (innerC c37_4)) 0
noncomputable def c37_4_0_0 : Code := itemAt (flat (innerC c37_4_0)) 0
noncomputable def c37_4_0_1 : Code := itemAt (flat (innerC c37_4_0)) 1
noncomputable def c37_4_0_2 : Code := itemAt (flat (innerC c37_4_0)) 2
noncomputable def c37_4_0_3 : Code := itemAt (flat (innerC c37_4_0)) 3
def F37_q1 (R : Rt) : EQ := endQ Tryz.prog Tryz.f37.results.toList R
def F37_1 (R : Rt) (l0 : SV) (ds : Ds) (w : World) : Prop :=
 Br (decide (((l0.len : Nat) : Int) > 16)) (
 runD Tryz.prog ds w fun w1 =>
 R (.returned (.int .i64 3)) w1) (
 Calls Tryz.prog 70 #[.slice l0.a l0.len l0.cap] w fun e w2 =>
 ∃ n48 : Int, e = .returned (.int .i64 n48) ∧
 Br (decide (n48 > 2000)) (
 runD Tryz.prog ds w2 fun w3 =>
 R (.returned (.int .i64 3)) w3) (
 runD Tryz.prog ds w2 fun w4 =>
 R (.returned (.int .i64 0)) w4))
def F37_k2 (R : Rt) : EP := (fun ρ ds w => dSl (ρ 0) fun l0 => F37_1 R l0 ds w)
def F37_q3 (R : Rt) : EQ := (thenQ (F37_k2 R) (F37_q1 R))
def F37_q4 (R : Rt) : EQ := (blockQ 2 (F37_q3 R))
def F37_q5 (R : Rt) (J1 : (Int) → World → Prop) : EQ := (thenQ (fun ρ _ w => dInt .i64 (ρ 4) fun n4 => J1 n4 w) (F37_q4 R))
def F37_2 (R : Rt) (J1 : (Int) → World → Prop) (l0 : SV) (n4 : Int) (ds : Ds) (w : World) : Prop :=
 J1 (IntKind.i64.wrap (n4 + 1)) w
def F37_k6 (R : Rt) (J1 : (Int) → World → Prop) : EP := (fun ρ ds w => dSl (ρ 0) fun l0 => dInt .i64 (ρ 4) fun n4 => F37_2 R J1 l0 n4 ds w)
def F37_q7 (R : Rt) (J1 : (Int) → World → Prop) : EQ := (thenQ (F37_k6 R J1) (F37_q5 R J1))
def F37_q8 (R : Rt) (J1 : (Int) → World → Prop) : EQ := (blockQ 3 (F37_q7 R J1))
def F37_q9 (R : Rt) (J1 : (Int) → World → Prop) : EQ := (blockQ 4 (F37_q8 R J1))
def F37_q10 (R : Rt) (J1 : (Int) → World → Prop) (J2 : (Int) → World → Prop) : EQ := (thenQ (fun ρ _ w => dInt .i64 (ρ 5) fun n5 => J2 n5 w) (F37_q9 R J1))
def F37_3 (R : Rt) (J1 : (Int) → World → Prop) (J2 : (Int) → World → Prop) (l0 : SV) (n4 : Int) (n5 : Int) (ds : Ds) (w : World) : Prop :=
 Br (decide (n5 < n4)) (
 dwE w fun w5 =>
 ∃ a6 : Addr, l0.a = some a6 ∧ 0 ≤ n4 ∧ n4 < ((l0.len : Nat) : Int) ∧
 ∃ s36 : ByteArray, w5.cell? (a6.add (n4.toNat * 4)) = some (.string s36) ∧
 ∃ a7 : Addr, l0.a = some a7 ∧ 0 ≤ n5 ∧ n5 < ((l0.len : Nat) : Int) ∧
 ∃ s41 : ByteArray, w5.cell? (a7.add (n5.toNat * 4)) = some (.string s41) ∧
 Br (s36.toList == s41.toList) (
 runD Tryz.prog ds w5 fun w8 =>
 R (.returned (.int .i64 5)) w8) (
 J2 (IntKind.i64.wrap (n5 + 1)) w5)) (
 F37_2 R J1 l0 n4 ds w)
def F37_4 (R : Rt) (J1 : (Int) → World → Prop) (l0 : SV) (n4 : Int) (n5 : Int) (ds : Ds) (w : World) : Prop :=
 loopT (fun (J2 : (Int) → World → Prop) (s : Int) (w : World) => F37_3 R J1 J2 l0 n4 s ds w) n5 w
@[reducible] def F37_5 (R : Rt) (J1 : (Int) → World → Prop) (l0 : SV) (n4 : Int) (n5 : Int) (ds : Ds) (w : World) : Prop := F37_4 R J1 l0 n4 n5 ds w
def F37_k11 (R : Rt) (J1 : (Int) → World → Prop) : EP := (fun ρ ds w => dSl (ρ 0) fun l0 => dInt .i64 (ρ 4) fun n4 => dInt .i64 (ρ 5) fun n5 => F37_5 R J1 l0 n4 n5 ds w)
def F37_6 (R : Rt) (J1 : (Int) → World → Prop) (l0 : SV) (n4 : Int) (ds : Ds) (w : World) : Prop :=
 F37_5 R J1 l0 n4 0 ds w
@[reducible] def F37_7 (R : Rt) (J1 : (Int) → World → Prop) (l0 : SV) (n4 : Int) (ds : Ds) (w : World) : Prop := F37_6 R J1 l0 n4 ds w
def F37_k12 (R : Rt) (J1 : (Int) → World → Prop) : EP := (fun ρ ds w => dSl (ρ 0) fun l0 => dInt .i64 (ρ 4) fun n4 => F37_7 R J1 l0 n4 ds w)
def F37_8 (R : Rt) (J1 : (Int) → World → Prop) (l0 : SV) (n4 : Int) (ds : Ds) (w : World) : Prop :=
 Br (decide (n4 < ((l0.len : Nat) : Int))) (
 F37_7 R J1 l0 n4 ds w) (
 F37_1 R l0 ds w)
def F37_9 (R : Rt) (l0 : SV) (n4 : Int) (ds : Ds) (w : World) : Prop :=
 loopT (fun (J1 : (Int) → World → Prop) (s : Int) (w : World) => F37_8 R J1 l0 s ds w) n4 w
@[reducible] def F37_10 (R : Rt) (l0 : SV) (n4 : Int) (ds : Ds) (w : World) : Prop := F37_9 R l0 n4 ds w
def F37_k13 (R : Rt) : EP := (fun ρ ds w => dSl (ρ 0) fun l0 => dInt .i64 (ρ 4) fun n4 => F37_10 R l0 n4 ds w)
def F37_11 (R : Rt) (l0 : SV) (ds : Ds) (w : World) : Prop :=
 F37_10 R l0 0 ds w
def F37_k14 (R : Rt) : EP := (fun ρ ds w => dSl (ρ 0) fun l0 => F37_11 R l0 ds w)
def F37_q15 (R : Rt) : EQ := (thenQ (F37_k14 R) (F37_q1 R))
def F37_q16 (R : Rt) : EQ := (blockQ 0 (F37_q15 R))
def F37_q17 (R : Rt) (J1 : (Int) → World → Prop) : EQ := (thenQ (fun ρ _ w => dInt .i64 (ρ 3) fun n3 => J1 n3 w) (F37_q16 R))
def F37_12 (R : Rt) (J1 : (Int) → World → Prop) (l0 : SV) (n3 : Int) (ds : Ds) (w : World) : Prop :=
 Br (decide (n3 < ((l0.len : Nat) : Int))) (
 ∃ a9 : Addr, l0.a = some a9 ∧ 0 ≤ n3 ∧ n3 < ((l0.len : Nat) : Int) ∧
 ∃ s18_0 : ByteArray, w.cell? ((a9.add (n3.toNat * 4)).add 0) = some (.string s18_0) ∧
 ∃ n18_1 : Int, w.cell? ((a9.add (n3.toNat * 4)).add 1) = some (.int .i64 n18_1) ∧
 ∃ n18_2 : Int, w.cell? ((a9.add (n3.toNat * 4)).add 2) = some (.int .i64 n18_2) ∧
 ∃ b18_3 : Bool, w.cell? ((a9.add (n3.toNat * 4)).add 3) = some (.bool b18_3) ∧
 Calls Tryz.prog 55 #[.agg #[.string s18_0, .int .i64 n18_1, .int .i64 n18_2, .bool b18_3]] w fun e w10 =>
 ∃ b19 : Bool, e = .returned (.bool b19) ∧
 Br (!b19) (
 runD Tryz.prog ds w10 fun w11 =>
 R (.returned (.int .i64 1)) w11) (
 J1 (IntKind.i64.wrap (n3 + 1)) w10)) (
 F37_11 R l0 ds w)
def F37_13 (R : Rt) (l0 : SV) (n3 : Int) (ds : Ds) (w : World) : Prop :=
 loopT (fun (J1 : (Int) → World → Prop) (s : Int) (w : World) => F37_12 R J1 l0 s ds w) n3 w
@[reducible] def F37_14 (R : Rt) (l0 : SV) (n3 : Int) (ds : Ds) (w : World) : Prop := F37_13 R l0 n3 ds w
def F37_k18 (R : Rt) : EP := (fun ρ ds w => dSl (ρ 0) fun l0 => dInt .i64 (ρ 3) fun n3 => F37_14 R l0 n3 ds w)
def F37_15 (R : Rt) (l0 : SV) (ds : Ds) (w : World) : Prop :=
 Br (((l0.len : Nat) : Int) == 0) (
 runD Tryz.prog ds w fun w12 =>
 R (.returned (.int .i64 1)) w12) (
 F37_14 R l0 0 ds w)
theorem c37_l : flat (bodyOf Tryz.f37) = [c37_0, c37_1, c37_2, c37_3, c37_4, c37_5, c37_6, c37_7, c37_8, c37_9, c37_10] := by kernel_rfl
theorem c37_6_l : flat (innerC c37_6) = [c37_6_0] := by kernel_rfl
theorem c37_6_0_l : flat (innerC c37_6_0) = [c37_6_0_0, c37_6_0_1, c37_6_0_2, c37_6_0_3] := by kernel_rfl
theorem c37_6_0_2_l : flat (innerC c37_6_0_2) = [c37_6_0_2_0, c37_6_0_2_1] := by kernel_rfl
theorem c37_6_0_2_1_l : flat (innerC c37_6_0_2_1) = [c37_6_0_2_1_0] := by kernel_rfl
theorem c37_6_0_2_1_0_l : flat (innerC c37_6_0_2_1_0) = [c37_6_0_2_1_0_0, c37_6_0_2_1_0_1, c37_6_0_2_1_0_2, c37_6_0_2_1_0_3] := by kernel_rfl
theorem c37_4_l : flat (innerC c37_4) = [c37_4_0] := by kernel_rfl
theorem c37_4_0_l : flat (innerC c37_4_0) = [c37_4_0_0, c37_4_0_1, c37_4_0_2, c37_4_0_3] := by kernel_rfl
theorem F37_1_ok (R : Rt) (l0 : SV) (ds : Ds) (w : World) (ρ : Env) (e0 : ρ 0 = .slice l0.a l0.len l0.cap) (h : F37_1 R l0 ds w) :
    TrL Tryz.prog Tryz.f37.ntmps [c37_7, c37_8, c37_9, c37_10] (F37_q1 R) ρ ds w :=
  TrL_leaf (X := F37_1 R l0 ds w) (setAll_cons e0 setAll_nil) (by kernel_rfl) (by kernel_rfl) h
theorem F37_2_ok (R : Rt) (J1 : (Int) → World → Prop) (l0 : SV) (n4 : Int) (ds : Ds) (w : World) (ρ : Env) (e0 : ρ 0 = .slice l0.a l0.len l0.cap) (e4 : ρ 4 = .int .i64 n4) (h : F37_2 R J1 l0 n4 ds w) :
    TrL Tryz.prog Tryz.f37.ntmps [c37_6_0_3] (F37_q5 R J1) ρ ds w :=
  TrL_leaf (X := F37_2 R J1 l0 n4 ds w) (setAll_cons e0 (setAll_cons e4 setAll_nil)) (by kernel_rfl) (by kernel_rfl) h
theorem F37_3_ok (R : Rt) (J1 : (Int) → World → Prop) (J2 : (Int) → World → Prop) (l0 : SV) (n4 : Int) (n5 : Int) (ds : Ds) (w : World) (ρ : Env) (e0 : ρ 0 = .slice l0.a l0.len l0.cap) (e4 : ρ 4 = .int .i64 n4) (e5 : ρ 5 = .int .i64 n5) (h : F37_3 R J1 J2 l0 n4 n5 ds w) :
    TrL Tryz.prog Tryz.f37.ntmps [c37_6_0_2_1_0_0, c37_6_0_2_1_0_1, c37_6_0_2_1_0_2, c37_6_0_2_1_0_3] (F37_q10 R J1 J2) ρ ds w :=
  TrL_leaf (X := F37_3 R J1 J2 l0 n4 n5 ds w) (setAll_cons e0 (setAll_cons e4 (setAll_cons e5 setAll_nil))) (by kernel_rfl) (by kernel_rfl) h
theorem F37_4_ok (R : Rt) (J1 : (Int) → World → Prop) (l0 : SV) (n4 : Int) (n5 : Int) (ds : Ds) (w : World) (ρ : Env) (e0 : ρ 0 = .slice l0.a l0.len l0.cap) (e4 : ρ 4 = .int .i64 n4) (e5 : ρ 5 = .int .i64 n5) (h : F37_4 R J1 l0 n4 n5 ds w) :
    TrL Tryz.prog Tryz.f37.ntmps [c37_6_0_2_1_0] (F37_q9 R J1) ρ ds w :=
  TrL_one (Tr_loop' (c := innerC c37_6_0_2_1_0) (σ := Int) (enc := (fun (s : Int) (ρ : Env) => ρ 5 = .int .i64 s)) (D := (fun ρ K => dInt .i64 (ρ 5) fun n5 => K n5)) (F := (fun (J2 : (Int) → World → Prop) (s : Int) (w : World) => F37_3 R J1 J2 l0 n4 s ds w)) (s0 := n5) (by kernel_rfl) c37_6_0_2_1_0_l e5 (by kernel_rfl) (fun ρ K hD => by obtain ⟨n5, e5, hD⟩ := dInt_elim hD; exact ⟨n5, e5, hD⟩)
      (fun J2 s ρ' w' he ha hF => by
      have e5' := he
      exact F37_3_ok R J1 J2 l0 n4 s ds w' ρ' ((ha 0 (by kernel_rfl)).trans e0) ((ha 4 (by kernel_rfl)).trans e4) e5' hF) h)
theorem F37_5_ok (R : Rt) (J1 : (Int) → World → Prop) (l0 : SV) (n4 : Int) (n5 : Int) (ds : Ds) (w : World) (ρ : Env) (e0 : ρ 0 = .slice l0.a l0.len l0.cap) (e4 : ρ 4 = .int .i64 n4) (e5 : ρ 5 = .int .i64 n5) (h : F37_5 R J1 l0 n4 n5 ds w) :
    TrL Tryz.prog Tryz.f37.ntmps [c37_6_0_2_1] (F37_q8 R J1) ρ ds w :=
  TrL_one (Tr_block' (c := innerC c37_6_0_2_1) (by kernel_rfl) c37_6_0_2_1_l (F37_4_ok R J1 l0 n4 n5 ds w ρ e0 e4 e5 h))
theorem F37_6_ok (R : Rt) (J1 : (Int) → World → Prop) (l0 : SV) (n4 : Int) (ds : Ds) (w : World) (ρ : Env) (e0 : ρ 0 = .slice l0.a l0.len l0.cap) (e4 : ρ 4 = .int .i64 n4) (h : F37_6 R J1 l0 n4 ds w) :
    TrL Tryz.prog Tryz.f37.ntmps [c37_6_0_2_0, c37_6_0_2_1] (F37_q8 R J1) ρ ds w :=
  TrL_piece (pre := [c37_6_0_2_0]) (K := (F37_k11 R J1)) (X := F37_6 R J1 l0 n4 ds w) (setAll_cons e0 (setAll_cons e4 setAll_nil)) (by kernel_rfl) (by kernel_rfl)
    (fun ρ' ds' w' hD => by
      obtain ⟨l0, e0, hD⟩ := dSl_elim hD; obtain ⟨n4, e4, hD⟩ := dInt_elim hD; obtain ⟨n5, e5, hD⟩ := dInt_elim hD; exact F37_5_ok R J1 l0 n4 n5 ds' w' ρ' e0 e4 e5 hD) h
theorem F37_7_ok (R : Rt) (J1 : (Int) → World → Prop) (l0 : SV) (n4 : Int) (ds : Ds) (w : World) (ρ : Env) (e0 : ρ 0 = .slice l0.a l0.len l0.cap) (e4 : ρ 4 = .int .i64 n4) (h : F37_7 R J1 l0 n4 ds w) :
    TrL Tryz.prog Tryz.f37.ntmps [c37_6_0_2, c37_6_0_3] (F37_q5 R J1) ρ ds w :=
  TrL_head (K := (F37_k6 R J1)) (Tr_block' (c := innerC c37_6_0_2) (by kernel_rfl) c37_6_0_2_l (F37_6_ok R J1 l0 n4 ds w ρ e0 e4 h))
    (fun ρ' ds' w' hD => by
      obtain ⟨l0, e0, hD⟩ := dSl_elim hD; obtain ⟨n4, e4, hD⟩ := dInt_elim hD; exact F37_2_ok R J1 l0 n4 ds' w' ρ' e0 e4 hD)
theorem F37_8_ok (R : Rt) (J1 : (Int) → World → Prop) (l0 : SV) (n4 : Int) (ds : Ds) (w : World) (ρ : Env) (e0 : ρ 0 = .slice l0.a l0.len l0.cap) (e4 : ρ 4 = .int .i64 n4) (h : F37_8 R J1 l0 n4 ds w) :
    TrL Tryz.prog Tryz.f37.ntmps [c37_6_0_0, c37_6_0_1, c37_6_0_2, c37_6_0_3] (F37_q5 R J1) ρ ds w :=
  TrL_piece (pre := [c37_6_0_0, c37_6_0_1]) (K := (F37_k12 R J1)) (X := F37_8 R J1 l0 n4 ds w) (setAll_cons e0 (setAll_cons e4 setAll_nil)) (by kernel_rfl) (by kernel_rfl)
    (fun ρ' ds' w' hD => by
      obtain ⟨l0, e0, hD⟩ := dSl_elim hD; obtain ⟨n4, e4, hD⟩ := dInt_elim hD; exact F37_7_ok R J1 l0 n4 ds' w' ρ' e0 e4 hD) h
theorem F37_9_ok (R : Rt) (l0 : SV) (n4 : Int) (ds : Ds) (w : World) (ρ : Env) (e0 : ρ 0 = .slice l0.a l0.len l0.cap) (e4 : ρ 4 = .int .i64 n4) (h : F37_9 R l0 n4 ds w) :
    TrL Tryz.prog Tryz.f37.ntmps [c37_6_0] (F37_q4 R) ρ ds w :=
  TrL_one (Tr_loop' (c := innerC c37_6_0) (σ := Int) (enc := (fun (s : Int) (ρ : Env) => ρ 4 = .int .i64 s)) (D := (fun ρ K => dInt .i64 (ρ 4) fun n4 => K n4)) (F := (fun (J1 : (Int) → World → Prop) (s : Int) (w : World) => F37_8 R J1 l0 s ds w)) (s0 := n4) (by kernel_rfl) c37_6_0_l e4 (by kernel_rfl) (fun ρ K hD => by obtain ⟨n4, e4, hD⟩ := dInt_elim hD; exact ⟨n4, e4, hD⟩)
      (fun J1 s ρ' w' he ha hF => by
      have e4' := he
      exact F37_8_ok R J1 l0 s ds w' ρ' ((ha 0 (by kernel_rfl)).trans e0) e4' hF) h)
theorem F37_10_ok (R : Rt) (l0 : SV) (n4 : Int) (ds : Ds) (w : World) (ρ : Env) (e0 : ρ 0 = .slice l0.a l0.len l0.cap) (e4 : ρ 4 = .int .i64 n4) (h : F37_10 R l0 n4 ds w) :
    TrL Tryz.prog Tryz.f37.ntmps [c37_6, c37_7, c37_8, c37_9, c37_10] (F37_q1 R) ρ ds w :=
  TrL_head (K := (F37_k2 R)) (Tr_block' (c := innerC c37_6) (by kernel_rfl) c37_6_l (F37_9_ok R l0 n4 ds w ρ e0 e4 h))
    (fun ρ' ds' w' hD => by
      obtain ⟨l0, e0, hD⟩ := dSl_elim hD; exact F37_1_ok R l0 ds' w' ρ' e0 hD)
theorem F37_11_ok (R : Rt) (l0 : SV) (ds : Ds) (w : World) (ρ : Env) (e0 : ρ 0 = .slice l0.a l0.len l0.cap) (h : F37_11 R l0 ds w) :
    TrL Tryz.prog Tryz.f37.ntmps [c37_5, c37_6, c37_7, c37_8, c37_9, c37_10] (F37_q1 R) ρ ds w :=
  TrL_piece (pre := [c37_5]) (K := (F37_k13 R)) (X := F37_11 R l0 ds w) (setAll_cons e0 setAll_nil) (by kernel_rfl) (by kernel_rfl)
    (fun ρ' ds' w' hD => by
      obtain ⟨l0, e0, hD⟩ := dSl_elim hD; obtain ⟨n4, e4, hD⟩ := dInt_elim hD; exact F37_10_ok R l0 n4 ds' w' ρ' e0 e4 hD) h
theorem F37_12_ok (R : Rt) (J1 : (Int) → World → Prop) (l0 : SV) (n3 : Int) (ds : Ds) (w : World) (ρ : Env) (e0 : ρ 0 = .slice l0.a l0.len l0.cap) (e3 : ρ 3 = .int .i64 n3) (h : F37_12 R J1 l0 n3 ds w) :
    TrL Tryz.prog Tryz.f37.ntmps [c37_4_0_0, c37_4_0_1, c37_4_0_2, c37_4_0_3] (F37_q17 R J1) ρ ds w :=
  TrL_leaf (X := F37_12 R J1 l0 n3 ds w) (setAll_cons e0 (setAll_cons e3 setAll_nil)) (by kernel_rfl) (by kernel_rfl) h
theorem F37_13_ok (R : Rt) (l0 : SV) (n3 : Int) (ds : Ds) (w : World) (ρ : Env) (e0 : ρ 0 = .slice l0.a l0.len l0.cap) (e3 : ρ 3 = .int .i64 n3) (h : F37_13 R l0 n3 ds w) :
    TrL Tryz.prog Tryz.f37.ntmps [c37_4_0] (F37_q16 R) ρ ds w :=
  TrL_one (Tr_loop' (c := innerC c37_4_0) (σ := Int) (enc := (fun (s : Int) (ρ : Env) => ρ 3 = .int .i64 s)) (D := (fun ρ K => dInt .i64 (ρ 3) fun n3 => K n3)) (F := (fun (J1 : (Int) → World → Prop) (s : Int) (w : World) => F37_12 R J1 l0 s ds w)) (s0 := n3) (by kernel_rfl) c37_4_0_l e3 (by kernel_rfl) (fun ρ K hD => by obtain ⟨n3, e3, hD⟩ := dInt_elim hD; exact ⟨n3, e3, hD⟩)
      (fun J1 s ρ' w' he ha hF => by
      have e3' := he
      exact F37_12_ok R J1 l0 s ds w' ρ' ((ha 0 (by kernel_rfl)).trans e0) e3' hF) h)
theorem F37_14_ok (R : Rt) (l0 : SV) (n3 : Int) (ds : Ds) (w : World) (ρ : Env) (e0 : ρ 0 = .slice l0.a l0.len l0.cap) (e3 : ρ 3 = .int .i64 n3) (h : F37_14 R l0 n3 ds w) :
    TrL Tryz.prog Tryz.f37.ntmps [c37_4, c37_5, c37_6, c37_7, c37_8, c37_9, c37_10] (F37_q1 R) ρ ds w :=
  TrL_head (K := (F37_k14 R)) (Tr_block' (c := innerC c37_4) (by kernel_rfl) c37_4_l (F37_13_ok R l0 n3 ds w ρ e0 e3 h))
    (fun ρ' ds' w' hD => by
      obtain ⟨l0, e0, hD⟩ := dSl_elim hD; exact F37_11_ok R l0 ds' w' ρ' e0 hD)
theorem F37_15_ok (R : Rt) (l0 : SV) (ds : Ds) (w : World) (ρ : Env) (e0 : ρ 0 = .slice l0.a l0.len l0.cap) (h : F37_15 R l0 ds w) :
    TrL Tryz.prog Tryz.f37.ntmps [c37_0, c37_1, c37_2, c37_3, c37_4, c37_5, c37_6, c37_7, c37_8, c37_9, c37_10] (F37_q1 R) ρ ds w :=
  TrL_piece (pre := [c37_0, c37_1, c37_2, c37_3]) (K := (F37_k18 R)) (X := F37_15 R l0 ds w) (setAll_cons e0 setAll_nil) (by kernel_rfl) (by kernel_rfl)
    (fun ρ' ds' w' hD => by
      obtain ⟨l0, e0, hD⟩ := dSl_elim hD; obtain ⟨n3, e3, hD⟩ := dInt_elim hD; exact F37_14_ok R l0 n3 ds' w' ρ' e0 e3 hD) h
theorem F37_calls (l0 : SV) (w : World) (R : Rt) (h : F37_15 R l0 [] w) : Calls Tryz.prog 37 #[.slice l0.a l0.len l0.cap] w R :=
  calls_of_L (l := [c37_0, c37_1, c37_2, c37_3, c37_4, c37_5, c37_6, c37_7, c37_8, c37_9, c37_10]) Tryz.func37 (by kernel_rfl) (by rw [Tryz.ntmps37]; exact Nat.le_of_ble_eq_true (by kernel_rfl)) c37_l
    (F37_15_ok R l0 [] w _ rfl h)
theorem F37_callsD (l0 : SV) (w : World) (R : Rt) (u : FrameMode) (h : F37_15 R l0 [] w) : CallsD Tryz.prog 37 #[.slice l0.a l0.len l0.cap] u w fun e u' w' => u' = u ∧ R e w' :=
  callsD_of_L (l := [c37_0, c37_1, c37_2, c37_3, c37_4, c37_5, c37_6, c37_7, c37_8, c37_9, c37_10]) Tryz.func37 (by kernel_rfl) (by rw [Tryz.ntmps37]; exact Nat.le_of_ble_eq_true (by kernel_rfl)) (by kernel_rfl) c37_l
    (F37_15_ok R l0 [] w _ rfl h) u

/-! function 70: cabinetry/cabinetryref03.Wide -/
noncomputable def c70_0 : Code := itemAt (flat (bodyOf Tryz.f70)) 0
noncomputable def c70_1 : Code := itemAt (flat (bodyOf Tryz.f70)) 1
noncomputable def c70_2 : Code := itemAt (flat (bodyOf Tryz.f70)) 2
noncomputable def c70_3 : Code := itemAt (flat (bodyOf Tryz.f70)) 3
noncomputable def c70_4 : Code := itemAt (flat (bodyOf Tryz.f70)) 4
noncomputable def c70_5 : Code := itemAt (flat (bodyOf Tryz.f70)) 5
noncomputable def c70_3_0 : Code := itemAt (flat (innerC c70_3)) 0
noncomputable def c70_3_0_0 : Code := itemAt (flat (innerC c70_3_0)) 0
noncomputable def c70_3_0_1 : Code := itemAt (flat (innerC c70_3_0)) 1
noncomputable def c70_3_0_2 : Code := itemAt (flat (innerC c70_3_0)) 2
noncomputable def c70_3_0_3 : Code := itemAt (flat (innerC c70_3_0)) 3
def F70_q1 (R : Rt) : EQ := endQ Tryz.prog Tryz.f70.results.toList R
def F70_1 (R : Rt) (n3 : Int) (ds : Ds) (w : World) : Prop :=
 runD Tryz.prog ds w fun w1 =>
 R (.returned (.int .i64 n3)) w1
def F70_k2 (R : Rt) : EP := (fun ρ ds w => dInt .i64 (ρ 3) fun n3 => F70_1 R n3 ds w)
def F70_q3 (R : Rt) : EQ := (thenQ (F70_k2 R) (F70_q1 R))
def F70_q4 (R : Rt) : EQ := (blockQ 0 (F70_q3 R))
def F70_q5 (R : Rt) (J1 : (Int × Int) → World → Prop) : EQ := (thenQ (fun ρ _ w => dInt .i64 (ρ 3) fun n3 => dInt .i64 (ρ 4) fun n4 => J1 (n3, n4) w) (F70_q4 R))
def F70_2 (R : Rt) (J1 : (Int × Int) → World → Prop) (l0 : SV) (n3 : Int) (n4 : Int) (ds : Ds) (w : World) : Prop :=
 Br (decide (n4 < ((l0.len : Nat) : Int))) (
 ∃ a2 : Addr, l0.a = some a2 ∧ 0 ≤ n4 ∧ n4 < ((l0.len : Nat) : Int) ∧
 ∃ n19 : Int, w.cell? ((a2.add (n4.toNat * 4)).add 2) = some (.int .i64 n19) ∧
 J1 ((IntKind.i64.wrap (n3 + n19)), (IntKind.i64.wrap (n4 + 1))) w) (
 F70_1 R n3 ds w)
def F70_3 (R : Rt) (l0 : SV) (n3 : Int) (n4 : Int) (ds : Ds) (w : World) : Prop :=
 loopT (fun (J1 : (Int × Int) → World → Prop) (s : Int × Int) (w : World) => F70_2 R J1 l0 s.1 s.2 ds w) (n3, n4) w
@[reducible] def F70_4 (R : Rt) (l0 : SV) (n3 : Int) (n4 : Int) (ds : Ds) (w : World) : Prop := F70_3 R l0 n3 n4 ds w
def F70_k6 (R : Rt) : EP := (fun ρ ds w => dSl (ρ 0) fun l0 => dInt .i64 (ρ 3) fun n3 => dInt .i64 (ρ 4) fun n4 => F70_4 R l0 n3 n4 ds w)
def F70_5 (R : Rt) (l0 : SV) (ds : Ds) (w : World) : Prop :=
 Calls Tryz.prog 72 #[.slice l0.a l0.len l0.cap] w fun e w3 =>
 ∃ n6 : Int, e = .returned (.int .i64 n6) ∧
 F70_4 R l0 (IntKind.i64.wrap ((1 : Int) + n6)) 0 ds w3
theorem c70_l : flat (bodyOf Tryz.f70) = [c70_0, c70_1, c70_2, c70_3, c70_4, c70_5] := by kernel_rfl
theorem c70_3_l : flat (innerC c70_3) = [c70_3_0] := by kernel_rfl
theorem c70_3_0_l : flat (innerC c70_3_0) = [c70_3_0_0, c70_3_0_1, c70_3_0_2, c70_3_0_3] := by kernel_rfl
theorem F70_1_ok (R : Rt) (n3 : Int) (ds : Ds) (w : World) (ρ : Env) (e3 : ρ 3 = .int .i64 n3) (h : F70_1 R n3 ds w) :
    TrL Tryz.prog Tryz.f70.ntmps [c70_4, c70_5] (F70_q1 R) ρ ds w :=
  TrL_leaf (X := F70_1 R n3 ds w) (setAll_cons e3 setAll_nil) (by kernel_rfl) (by kernel_rfl) h
theorem F70_2_ok (R : Rt) (J1 : (Int × Int) → World → Prop) (l0 : SV) (n3 : Int) (n4 : Int) (ds : Ds) (w : World) (ρ : Env) (e0 : ρ 0 = .slice l0.a l0.len l0.cap) (e3 : ρ 3 = .int .i64 n3) (e4 : ρ 4 = .int .i64 n4) (h : F70_2 R J1 l0 n3 n4 ds w) :
    TrL Tryz.prog Tryz.f70.ntmps [c70_3_0_0, c70_3_0_1, c70_3_0_2, c70_3_0_3] (F70_q5 R J1) ρ ds w :=
  TrL_leaf (X := F70_2 R J1 l0 n3 n4 ds w) (setAll_cons e0 (setAll_cons e3 (setAll_cons e4 setAll_nil))) (by kernel_rfl) (by kernel_rfl) h
theorem F70_3_ok (R : Rt) (l0 : SV) (n3 : Int) (n4 : Int) (ds : Ds) (w : World) (ρ : Env) (e0 : ρ 0 = .slice l0.a l0.len l0.cap) (e3 : ρ 3 = .int .i64 n3) (e4 : ρ 4 = .int .i64 n4) (h : F70_3 R l0 n3 n4 ds w) :
    TrL Tryz.prog Tryz.f70.ntmps [c70_3_0] (F70_q4 R) ρ ds w :=
  TrL_one (Tr_loop' (c := innerC c70_3_0) (σ := Int × Int) (enc := (fun (s : Int × Int) (ρ : Env) => ρ 3 = .int .i64 s.1 ∧ ρ 4 = .int .i64 s.2)) (D := (fun ρ K => dInt .i64 (ρ 3) fun n3 => dInt .i64 (ρ 4) fun n4 => K (n3, n4))) (F := (fun (J1 : (Int × Int) → World → Prop) (s : Int × Int) (w : World) => F70_2 R J1 l0 s.1 s.2 ds w)) (s0 := (n3, n4)) (by kernel_rfl) c70_3_0_l ⟨e3, e4⟩ (by kernel_rfl) (fun ρ K hD => by obtain ⟨n3, e3, hD⟩ := dInt_elim hD; obtain ⟨n4, e4, hD⟩ := dInt_elim hD; exact ⟨(n3, n4), ⟨e3, e4⟩, hD⟩)
      (fun J1 s ρ' w' he ha hF => by
      obtain ⟨e3', e4'⟩ := he
      exact F70_2_ok R J1 l0 s.1 s.2 ds w' ρ' ((ha 0 (by kernel_rfl)).trans e0) e3' e4' hF) h)
theorem F70_4_ok (R : Rt) (l0 : SV) (n3 : Int) (n4 : Int) (ds : Ds) (w : World) (ρ : Env) (e0 : ρ 0 = .slice l0.a l0.len l0.cap) (e3 : ρ 3 = .int .i64 n3) (e4 : ρ 4 = .int .i64 n4) (h : F70_4 R l0 n3 n4 ds w) :
    TrL Tryz.prog Tryz.f70.ntmps [c70_3, c70_4, c70_5] (F70_q1 R) ρ ds w :=
  TrL_head (K := (F70_k2 R)) (Tr_block' (c := innerC c70_3) (by kernel_rfl) c70_3_l (F70_3_ok R l0 n3 n4 ds w ρ e0 e3 e4 h))
    (fun ρ' ds' w' hD => by
      obtain ⟨n3, e3, hD⟩ := dInt_elim hD; exact F70_1_ok R n3 ds' w' ρ' e3 hD)
theorem F70_5_ok (R : Rt) (l0 : SV) (ds : Ds) (w : World) (ρ : Env) (e0 : ρ 0 = .slice l0.a l0.len l0.cap) (h : F70_5 R l0 ds w) :
    TrL Tryz.prog Tryz.f70.ntmps [c70_0, c70_1, c70_2, c70_3, c70_4, c70_5] (F70_q1 R) ρ ds w :=
  TrL_piece (pre := [c70_0, c70_1, c70_2]) (K := (F70_k6 R)) (X := F70_5 R l0 ds w) (setAll_cons e0 setAll_nil) (by kernel_rfl) (by kernel_rfl)
    (fun ρ' ds' w' hD => by
      obtain ⟨l0, e0, hD⟩ := dSl_elim hD; obtain ⟨n3, e3, hD⟩ := dInt_elim hD; obtain ⟨n4, e4, hD⟩ := dInt_elim hD; exact F70_4_ok R l0 n3 n4 ds' w' ρ' e0 e3 e4 hD) h
theorem F70_calls (l0 : SV) (w : World) (R : Rt) (h : F70_5 R l0 [] w) : Calls Tryz.prog 70 #[.slice l0.a l0.len l0.cap] w R :=
  calls_of_L (l := [c70_0, c70_1, c70_2, c70_3, c70_4, c70_5]) Tryz.func70 (by kernel_rfl) (by rw [Tryz.ntmps70]; exact Nat.le_of_ble_eq_true (by kernel_rfl)) c70_l
    (F70_5_ok R l0 [] w _ rfl h)
theorem F70_callsD (l0 : SV) (w : World) (R : Rt) (u : FrameMode) (h : F70_5 R l0 [] w) : CallsD Tryz.prog 70 #[.slice l0.a l0.len l0.cap] u w fun e u' w' => u' = u ∧ R e w' :=
  callsD_of_L (l := [c70_0, c70_1, c70_2, c70_3, c70_4, c70_5]) Tryz.func70 (by kernel_rfl) (by rw [Tryz.ntmps70]; exact Nat.le_of_ble_eq_true (by kernel_rfl)) (by kernel_rfl) c70_l
    (F70_5_ok R l0 [] w _ rfl h) u

/-! function 72: cabinetry/cabinetryref03.nulls -/
noncomputable def c72_0 : Code := itemAt (flat (bodyOf Tryz.f72)) 0
noncomputable def c72_1 : Code := itemAt (flat (bodyOf Tryz.f72)) 1
noncomputable def c72_2 : Code := itemAt (flat (bodyOf Tryz.f72)) 2
noncomputable def c72_3 : Code := itemAt (flat (bodyOf Tryz.f72)) 3
noncomputable def c72_4 : Code := itemAt (flat (bodyOf Tryz.f72)) 4
noncomputable def c72_5 : Code := itemAt (flat (bodyOf Tryz.f72)) 5
noncomputable def c72_3_0 : Code := itemAt (flat (innerC c72_3)) 0
noncomputable def c72_3_0_0 : Code := itemAt (flat (innerC c72_3_0)) 0
noncomputable def c72_3_0_1 : Code := itemAt (flat (innerC c72_3_0)) 1
noncomputable def c72_3_0_2 : Code := itemAt (flat (innerC c72_3_0)) 2
noncomputable def c72_3_0_3 : Code := itemAt (flat (innerC c72_3_0)) 3
def F72_q1 (R : Rt) : EQ := endQ Tryz.prog Tryz.f72.results.toList R
def F72_1 (R : Rt) (n3 : Int) (ds : Ds) (w : World) : Prop :=
 IntKind.i64 = IntKind.i64 ∧ (8 : Int) ≠ 0 ∧
 runD Tryz.prog ds w fun w1 =>
 R (.returned (.int .i64 (IntKind.i64.wrap ((IntKind.i64.wrap (n3 + 7)).tdiv 8)))) w1
def F72_k2 (R : Rt) : EP := (fun ρ ds w => dInt .i64 (ρ 3) fun n3 => F72_1 R n3 ds w)
def F72_q3 (R : Rt) : EQ := (thenQ (F72_k2 R) (F72_q1 R))
def F72_q4 (R : Rt) : EQ := (blockQ 0 (F72_q3 R))
def F72_q5 (R : Rt) (J1 : (Int × Int) → World → Prop) : EQ := (thenQ (fun ρ _ w => dInt .i64 (ρ 3) fun n3 => dInt .i64 (ρ 4) fun n4 => J1 (n3, n4) w) (F72_q4 R))
def F72_2 (R : Rt) (J1 : (Int × Int) → World → Prop) (l0 : SV) (n3 : Int) (n4 : Int) (ds : Ds) (w : World) : Prop :=
 Br (decide (n4 < ((l0.len : Nat) : Int))) (
 ∃ a2 : Addr, l0.a = some a2 ∧ 0 ≤ n4 ∧ n4 < ((l0.len : Nat) : Int) ∧
 ∃ b15 : Bool, w.cell? ((a2.add (n4.toNat * 4)).add 3) = some (.bool b15) ∧
 Br b15 (
 J1 ((IntKind.i64.wrap (n3 + 1)), (IntKind.i64.wrap (n4 + 1))) w) (
 J1 (n3, (IntKind.i64.wrap (n4 + 1))) w)) (
 F72_1 R n3 ds w)
def F72_3 (R : Rt) (l0 : SV) (n3 : Int) (n4 : Int) (ds : Ds) (w : World) : Prop :=
 loopT (fun (J1 : (Int × Int) → World → Prop) (s : Int × Int) (w : World) => F72_2 R J1 l0 s.1 s.2 ds w) (n3, n4) w
@[reducible] def F72_4 (R : Rt) (l0 : SV) (n3 : Int) (n4 : Int) (ds : Ds) (w : World) : Prop := F72_3 R l0 n3 n4 ds w
def F72_k6 (R : Rt) : EP := (fun ρ ds w => dSl (ρ 0) fun l0 => dInt .i64 (ρ 3) fun n3 => dInt .i64 (ρ 4) fun n4 => F72_4 R l0 n3 n4 ds w)
def F72_5 (R : Rt) (l0 : SV) (ds : Ds) (w : World) : Prop :=
 F72_4 R l0 0 0 ds w
theorem c72_l : flat (bodyOf Tryz.f72) = [c72_0, c72_1, c72_2, c72_3, c72_4, c72_5] := by kernel_rfl
theorem c72_3_l : flat (innerC c72_3) = [c72_3_0] := by kernel_rfl
theorem c72_3_0_l : flat (innerC c72_3_0) = [c72_3_0_0, c72_3_0_1, c72_3_0_2, c72_3_0_3] := by kernel_rfl
theorem F72_1_ok (R : Rt) (n3 : Int) (ds : Ds) (w : World) (ρ : Env) (e3 : ρ 3 = .int .i64 n3) (h : F72_1 R n3 ds w) :
    TrL Tryz.prog Tryz.f72.ntmps [c72_4, c72_5] (F72_q1 R) ρ ds w :=
  TrL_leaf (X := F72_1 R n3 ds w) (setAll_cons e3 setAll_nil) (by kernel_rfl) (by kernel_rfl) h
theorem F72_2_ok (R : Rt) (J1 : (Int × Int) → World → Prop) (l0 : SV) (n3 : Int) (n4 : Int) (ds : Ds) (w : World) (ρ : Env) (e0 : ρ 0 = .slice l0.a l0.len l0.cap) (e3 : ρ 3 = .int .i64 n3) (e4 : ρ 4 = .int .i64 n4) (h : F72_2 R J1 l0 n3 n4 ds w) :
    TrL Tryz.prog Tryz.f72.ntmps [c72_3_0_0, c72_3_0_1, c72_3_0_2, c72_3_0_3] (F72_q5 R J1) ρ ds w :=
  TrL_leaf (X := F72_2 R J1 l0 n3 n4 ds w) (setAll_cons e0 (setAll_cons e3 (setAll_cons e4 setAll_nil))) (by kernel_rfl) (by kernel_rfl) h
theorem F72_3_ok (R : Rt) (l0 : SV) (n3 : Int) (n4 : Int) (ds : Ds) (w : World) (ρ : Env) (e0 : ρ 0 = .slice l0.a l0.len l0.cap) (e3 : ρ 3 = .int .i64 n3) (e4 : ρ 4 = .int .i64 n4) (h : F72_3 R l0 n3 n4 ds w) :
    TrL Tryz.prog Tryz.f72.ntmps [c72_3_0] (F72_q4 R) ρ ds w :=
  TrL_one (Tr_loop' (c := innerC c72_3_0) (σ := Int × Int) (enc := (fun (s : Int × Int) (ρ : Env) => ρ 3 = .int .i64 s.1 ∧ ρ 4 = .int .i64 s.2)) (D := (fun ρ K => dInt .i64 (ρ 3) fun n3 => dInt .i64 (ρ 4) fun n4 => K (n3, n4))) (F := (fun (J1 : (Int × Int) → World → Prop) (s : Int × Int) (w : World) => F72_2 R J1 l0 s.1 s.2 ds w)) (s0 := (n3, n4)) (by kernel_rfl) c72_3_0_l ⟨e3, e4⟩ (by kernel_rfl) (fun ρ K hD => by obtain ⟨n3, e3, hD⟩ := dInt_elim hD; obtain ⟨n4, e4, hD⟩ := dInt_elim hD; exact ⟨(n3, n4), ⟨e3, e4⟩, hD⟩)
      (fun J1 s ρ' w' he ha hF => by
      obtain ⟨e3', e4'⟩ := he
      exact F72_2_ok R J1 l0 s.1 s.2 ds w' ρ' ((ha 0 (by kernel_rfl)).trans e0) e3' e4' hF) h)
theorem F72_4_ok (R : Rt) (l0 : SV) (n3 : Int) (n4 : Int) (ds : Ds) (w : World) (ρ : Env) (e0 : ρ 0 = .slice l0.a l0.len l0.cap) (e3 : ρ 3 = .int .i64 n3) (e4 : ρ 4 = .int .i64 n4) (h : F72_4 R l0 n3 n4 ds w) :
    TrL Tryz.prog Tryz.f72.ntmps [c72_3, c72_4, c72_5] (F72_q1 R) ρ ds w :=
  TrL_head (K := (F72_k2 R)) (Tr_block' (c := innerC c72_3) (by kernel_rfl) c72_3_l (F72_3_ok R l0 n3 n4 ds w ρ e0 e3 e4 h))
    (fun ρ' ds' w' hD => by
      obtain ⟨n3, e3, hD⟩ := dInt_elim hD; exact F72_1_ok R n3 ds' w' ρ' e3 hD)
theorem F72_5_ok (R : Rt) (l0 : SV) (ds : Ds) (w : World) (ρ : Env) (e0 : ρ 0 = .slice l0.a l0.len l0.cap) (h : F72_5 R l0 ds w) :
    TrL Tryz.prog Tryz.f72.ntmps [c72_0, c72_1, c72_2, c72_3, c72_4, c72_5] (F72_q1 R) ρ ds w :=
  TrL_piece (pre := [c72_0, c72_1, c72_2]) (K := (F72_k6 R)) (X := F72_5 R l0 ds w) (setAll_cons e0 setAll_nil) (by kernel_rfl) (by kernel_rfl)
    (fun ρ' ds' w' hD => by
      obtain ⟨l0, e0, hD⟩ := dSl_elim hD; obtain ⟨n3, e3, hD⟩ := dInt_elim hD; obtain ⟨n4, e4, hD⟩ := dInt_elim hD; exact F72_4_ok R l0 n3 n4 ds' w' ρ' e0 e3 e4 hD) h
theorem F72_calls (l0 : SV) (w : World) (R : Rt) (h : F72_5 R l0 [] w) : Calls Tryz.prog 72 #[.slice l0.a l0.len l0.cap] w R :=
  calls_of_L (l := [c72_0, c72_1, c72_2, c72_3, c72_4, c72_5]) Tryz.func72 (by kernel_rfl) (by rw [Tryz.ntmps72]; exact Nat.le_of_ble_eq_true (by kernel_rfl)) c72_l
    (F72_5_ok R l0 [] w _ rfl h)
theorem F72_callsD (l0 : SV) (w : World) (R : Rt) (u : FrameMode) (h : F72_5 R l0 [] w) : CallsD Tryz.prog 72 #[.slice l0.a l0.len l0.cap] u w fun e u' w' => u' = u ∧ R e w' :=
  callsD_of_L (l := [c72_0, c72_1, c72_2, c72_3, c72_4, c72_5]) Tryz.func72 (by kernel_rfl) (by rw [Tryz.ntmps72]; exact Nat.le_of_ble_eq_true (by kernel_rfl)) (by kernel_rfl) c72_l
    (F72_5_ok R l0 [] w _ rfl h) u

end Go.Proofs.YtecmfdfhpldmmaaGreatDoor
