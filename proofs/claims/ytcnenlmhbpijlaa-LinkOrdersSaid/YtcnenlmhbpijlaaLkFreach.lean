import Derived.Test.YtcnenlmhbpijlaaProg
import Derived.Test.YtcnenlmhbpijlaaShEight
/- Shallow texts of functions, printed by program, each checked by the kernel against the loaded code. No condition. -/
set_option maxRecDepth 100000
set_option linter.unusedVariables false
namespace Go.Proofs.Ytcnenlmhbpijlaa
open Go.Sh
/-! function 8: cabinetry/cabinetrylaw24.LinkReaches -/
noncomputable def c8_0 : Code := itemAt (flat (bodyOf Try.f8)) 0
noncomputable def c8_1 : Code := itemAt (flat (bodyOf Try.f8)) 1
noncomputable def c8_2 : Code := itemAt (flat (bodyOf Try.f8)) 2
noncomputable def c8_3 : Code := itemAt (flat (bodyOf Try.f8)) 3
noncomputable def c8_4 : Code := itemAt (flat (bodyOf Try.f8)) 4
noncomputable def c8_5 : Code := itemAt (flat (bodyOf Try.f8)) 5
noncomputable def c8_6 : Code := itemAt (flat (bodyOf Try.f8)) 6
noncomputable def c8_7 : Code := itemAt (flat (bodyOf Try.f8)) 7
noncomputable def c8_8 : Code := itemAt (flat (bodyOf Try.f8)) 8
def F8_q1 (R : Rt) : EQ := endQ Try.prog Try.f8.results.toList R
def F8_1 (R : Rt) (l5 : SV) (n6 : Int) (l7 : SV) (n8 : Int) (l9 : SV) (n10 : Int) (l11 : SV) (n12 : Int) (ds : Ds) (w : World) : Prop :=
 Calls Try.prog 25 #[.slice l5.a l5.len l5.cap, .slice l7.a l7.len l7.cap] w fun e w1 =>
 ∃ b47 : Bool, e = .returned (.bool b47) ∧
 Br b47 (
 Br (n6 == n8) (
 Calls Try.prog 33 #[.slice l9.a l9.len l9.cap, .slice l11.a l11.len l11.cap] w1 fun e w2 =>
 ∃ b56 : Bool, e = .returned (.bool b56) ∧
 Br b56 (
 Br (n10 == n12) (
 Calls Try.prog 16 #[] w2 fun e w3 =>
 ∃ b64 : Bool, e = .returned (.bool b64) ∧
 runD Try.prog ds w3 fun w4 =>
 R (.returned (.bool b64)) w4) (
 runD Try.prog ds w2 fun w5 =>
 R (.returned (.bool false)) w5)) (
 runD Try.prog ds w2 fun w6 =>
 R (.returned (.bool false)) w6)) (
 runD Try.prog ds w1 fun w7 =>
 R (.returned (.bool false)) w7)) (
 runD Try.prog ds w1 fun w8 =>
 R (.returned (.bool false)) w8)
def F8_k2 (R : Rt) : EP := (fun ρ ds w => dSl (ρ 5) fun l5 => dInt .i64 (ρ 6) fun n6 => dSl (ρ 7) fun l7 => dInt .i64 (ρ 8) fun n8 => dSl (ρ 9) fun l9 => dInt .i64 (ρ 10) fun n10 => dSl (ρ 11) fun l11 => dInt .i64 (ρ 12) fun n12 => F8_1 R l5 n6 l7 n8 l9 n10 l11 n12 ds w)
def F8_2 (R : Rt) (l0 : SV) (s1 : ByteArray) (ds : Ds) (w : World) : Prop :=
 Calls Try.prog 14 #[.slice l0.a l0.len l0.cap] w fun e w9 =>
 ∃ b14 : Bool, e = .returned (.bool b14) ∧
 Br b14 (
 Calls Try.prog 16 #[] w9 fun e w10 =>
 ∃ b20 : Bool, e = .returned (.bool b20) ∧
 runD Try.prog ds w10 fun w11 =>
 R (.returned (.bool b20)) w11) (
 Br (decide (((s1.size : Nat) : Int) > 65536)) (
 Calls Try.prog 16 #[] w9 fun e w12 =>
 ∃ b20 : Bool, e = .returned (.bool b20) ∧
 runD Try.prog ds w12 fun w13 =>
 R (.returned (.bool b20)) w13) (
 Calls Try.prog 29 #[.slice l0.a l0.len l0.cap, .string s1] w9 fun e w14 =>
 ∃ l24_0 : SV, ∃ n24_1 : Int, e = .returned (.tuple #[.slice l24_0.a l24_0.len l24_0.cap, .int .i64 n24_1]) ∧
 Calls Try.prog 30 #[.slice l0.a l0.len l0.cap, .string s1] w14 fun e w15 =>
 ∃ l30_0 : SV, ∃ n30_1 : Int, e = .returned (.tuple #[.slice l30_0.a l30_0.len l30_0.cap, .int .i64 n30_1]) ∧
 Calls Try.prog 31 #[.slice l0.a l0.len l0.cap, .string s1] w15 fun e w16 =>
 ∃ l36_0 : SV, ∃ n36_1 : Int, e = .returned (.tuple #[.slice l36_0.a l36_0.len l36_0.cap, .int .i64 n36_1]) ∧
 Calls Try.prog 32 #[.slice l0.a l0.len l0.cap, .string s1] w16 fun e w17 =>
 ∃ l42_0 : SV, ∃ n42_1 : Int, e = .returned (.tuple #[.slice l42_0.a l42_0.len l42_0.cap, .int .i64 n42_1]) ∧
 F8_1 R l24_0 n24_1 l30_0 n30_1 l36_0 n36_1 l42_0 n42_1 ds w17))
theorem c8_l : flat (bodyOf Try.f8) = [c8_0, c8_1, c8_2, c8_3, c8_4, c8_5, c8_6, c8_7, c8_8] := by kernel_rfl
theorem F8_1_ok (R : Rt) (l5 : SV) (n6 : Int) (l7 : SV) (n8 : Int) (l9 : SV) (n10 : Int) (l11 : SV) (n12 : Int) (ds : Ds) (w : World) (ρ : Env) (e5 : ρ 5 = .slice l5.a l5.len l5.cap) (e6 : ρ 6 = .int .i64 n6) (e7 : ρ 7 = .slice l7.a l7.len l7.cap) (e8 : ρ 8 = .int .i64 n8) (e9 : ρ 9 = .slice l9.a l9.len l9.cap) (e10 : ρ 10 = .int .i64 n10) (e11 : ρ 11 = .slice l11.a l11.len l11.cap) (e12 : ρ 12 = .int .i64 n12) (h : F8_1 R l5 n6 l7 n8 l9 n10 l11 n12 ds w) :
    TrL Try.prog Try.f8.ntmps [c8_7, c8_8] (F8_q1 R) ρ ds w :=
  TrL_leaf (X := F8_1 R l5 n6 l7 n8 l9 n10 l11 n12 ds w) (setAll_cons e5 (setAll_cons e6 (setAll_cons e7 (setAll_cons e8 (setAll_cons e9 (setAll_cons e10 (setAll_cons e11 (setAll_cons e12 setAll_nil)))))))) (by kernel_rfl) (by kernel_rfl) h
theorem F8_2_ok (R : Rt) (l0 : SV) (s1 : ByteArray) (ds : Ds) (w : World) (ρ : Env) (e0 : ρ 0 = .slice l0.a l0.len l0.cap) (e1 : ρ 1 = .string s1) (h : F8_2 R l0 s1 ds w) :
    TrL Try.prog Try.f8.ntmps [c8_0, c8_1, c8_2, c8_3, c8_4, c8_5, c8_6, c8_7, c8_8] (F8_q1 R) ρ ds w :=
  TrL_piece (pre := [c8_0, c8_1, c8_2, c8_3, c8_4, c8_5, c8_6]) (K := (F8_k2 R)) (X := F8_2 R l0 s1 ds w) (setAll_cons e0 (setAll_cons e1 setAll_nil)) (by kernel_rfl) (by kernel_rfl)
    (fun ρ' ds' w' hD => by
      obtain ⟨l5, e5, hD⟩ := dSl_elim hD; obtain ⟨n6, e6, hD⟩ := dInt_elim hD; obtain ⟨l7, e7, hD⟩ := dSl_elim hD; obtain ⟨n8, e8, hD⟩ := dInt_elim hD; obtain ⟨l9, e9, hD⟩ := dSl_elim hD; obtain ⟨n10, e10, hD⟩ := dInt_elim hD; obtain ⟨l11, e11, hD⟩ := dSl_elim hD; obtain ⟨n12, e12, hD⟩ := dInt_elim hD; exact F8_1_ok R l5 n6 l7 n8 l9 n10 l11 n12 ds' w' ρ' e5 e6 e7 e8 e9 e10 e11 e12 hD) h
theorem F8_calls (l0 : SV) (s1 : ByteArray) (w : World) (R : Rt) (h : F8_2 R l0 s1 [] w) : Calls Try.prog 8 #[.slice l0.a l0.len l0.cap, .string s1] w R :=
  calls_of_L (l := [c8_0, c8_1, c8_2, c8_3, c8_4, c8_5, c8_6, c8_7, c8_8]) Try.func8 (by kernel_rfl) (by rw [Try.ntmps8]; exact Nat.le_of_ble_eq_true (by kernel_rfl)) c8_l
    (F8_2_ok R l0 s1 [] w _ rfl rfl h)
theorem F8_callsD (l0 : SV) (s1 : ByteArray) (w : World) (R : Rt) (u : FrameMode) (h : F8_2 R l0 s1 [] w) : CallsD Try.prog 8 #[.slice l0.a l0.len l0.cap, .string s1] u w fun e u' w' => u' = u ∧ R e w' :=
  callsD_of_L (l := [c8_0, c8_1, c8_2, c8_3, c8_4, c8_5, c8_6, c8_7, c8_8]) Try.func8 (by kernel_rfl) (by rw [Try.ntmps8]; exact Nat.le_of_ble_eq_true (by kernel_rfl)) (by kernel_rfl) c8_l
    (F8_2_ok R l0 s1 [] w _ rfl rfl h) u

/-! function 29: cabinetry/link.Reach -/
noncomputable def c29_0 : Code := itemAt (flat (bodyOf Try.f29)) 0
noncomputable def c29_1 : Code := itemAt (flat (bodyOf Try.f29)) 1
noncomputable def c29_2 : Code := itemAt (flat (bodyOf Try.f29)) 2
noncomputable def c29_3 : Code := itemAt (flat (bodyOf Try.f29)) 3
noncomputable def c29_4 : Code := itemAt (flat (bodyOf Try.f29)) 4
noncomputable def c29_5 : Code := itemAt (flat (bodyOf Try.f29)) 5
def F29_q1 (R : Rt) : EQ := endQ Try.prog Try.f29.results.toList R
def F29_1 (R : Rt) (l0 : SV) (s1 : ByteArray) (ds : Ds) (w : World) : Prop :=
 Calls Try.prog 45 #[.slice l0.a l0.len l0.cap, .string s1] w fun e w1 =>
 ∃ m11_0 : Option Nat, ∃ n11_1 : Int, e = .returned (.tuple #[.map m11_0, .int .i64 n11_1]) ∧
 Br (n11_1 != 0) (
 runD Try.prog ds w1 fun w2 =>
 R (.returned (.tuple #[.slice none 0 0, .int .i64 n11_1])) w2) (
 Calls Try.prog 66 #[.map m11_0, .string s1] w1 fun e w3 =>
 ∃ m19 : Option Nat, e = .returned (.map m19) ∧
 Calls Try.prog 65 #[.map m19] w3 fun e w4 =>
 ∃ v20 : Value, e = .returned (v20) ∧
 Calls Try.prog 64 #[v20] w4 fun e w5 =>
 ∃ l21 : SV, e = .returned (.slice l21.a l21.len l21.cap) ∧
 runD Try.prog ds w5 fun w6 =>
 R (.returned (.tuple #[.slice l21.a l21.len l21.cap, .int .i64 0])) w6)
theorem c29_l : flat (bodyOf Try.f29) = [c29_0, c29_1, c29_2, c29_3, c29_4, c29_5] := by kernel_rfl
theorem F29_1_ok (R : Rt) (l0 : SV) (s1 : ByteArray) (ds : Ds) (w : World) (ρ : Env) (e0 : ρ 0 = .slice l0.a l0.len l0.cap) (e1 : ρ 1 = .string s1) (h : F29_1 R l0 s1 ds w) :
    TrL Try.prog Try.f29.ntmps [c29_0, c29_1, c29_2, c29_3, c29_4, c29_5] (F29_q1 R) ρ ds w :=
  TrL_leaf (X := F29_1 R l0 s1 ds w) (setAll_cons e0 (setAll_cons e1 setAll_nil)) (by kernel_rfl) (by kernel_rfl) h
theorem F29_calls (l0 : SV) (s1 : ByteArray) (w : World) (R : Rt) (h : F29_1 R l0 s1 [] w) : Calls Try.prog 29 #[.slice l0.a l0.len l0.cap, .string s1] w R :=
  calls_of_L (l := [c29_0, c29_1, c29_2, c29_3, c29_4, c29_5]) Try.func29 (by kernel_rfl) (by rw [Try.ntmps29]; exact Nat.le_of_ble_eq_true (by kernel_rfl)) c29_l
    (F29_1_ok R l0 s1 [] w _ rfl rfl h)
theorem F29_callsD (l0 : SV) (s1 : ByteArray) (w : World) (R : Rt) (u : FrameMode) (h : F29_1 R l0 s1 [] w) : CallsD Try.prog 29 #[.slice l0.a l0.len l0.cap, .string s1] u w fun e u' w' => u' = u ∧ R e w' :=
  callsD_of_L (l := [c29_0, c29_1, c29_2, c29_3, c29_4, c29_5]) Try.func29 (by kernel_rfl) (by rw [Try.ntmps29]; exact Nat.le_of_ble_eq_true (by kernel_rfl)) (by kernel_rfl) c29_l
    (F29_1_ok R l0 s1 [] w _ rfl rfl h) u

/-! function 30: cabinetry/cabinetryref24.Reach -/
noncomputable def c30_0 : Code := itemAt (flat (bodyOf Try.f30)) 0
noncomputable def c30_1 : Code := itemAt (flat (bodyOf Try.f30)) 1
noncomputable def c30_2 : Code := itemAt (flat (bodyOf Try.f30)) 2
noncomputable def c30_3 : Code := itemAt (flat (bodyOf Try.f30)) 3
noncomputable def c30_4 : Code := itemAt (flat (bodyOf Try.f30)) 4
noncomputable def c30_5 : Code := itemAt (flat (bodyOf Try.f30)) 5
noncomputable def c30_6 : Code := itemAt (flat (bodyOf Try.f30)) 6
noncomputable def c30_7 : Code := itemAt (flat (bodyOf Try.f30)) 7
noncomputable def c30_8 : Code := itemAt (flat (bodyOf Try.f30)) 8
noncomputable def c30_9 : Code := itemAt (flat (bodyOf Try.f30)) 9
noncomputable def c30_7_0 : Code := itemAt (flat (innerC c30_7)) 0
noncomputable def c30_7_0_0 : Code := itemAt (flat (innerC c30_7_0)) 0
noncomputable def c30_7_0_1 : Code := itemAt (flat (innerC c30_7_0)) 1
noncomputable def c30_7_0_2 : Code := itemAt (flat (innerC c30_7_0)) 2
noncomputable def c30_7_0_3 : Code := itemAt (flat (innerC c30_7_0)) 3
def F30_q1 (R : Rt) : EQ := endQ Try.prog Try.f30.results.toList R
def F30_1 (R : Rt) (l10 : SV) (ds : Ds) (w : World) : Prop :=
 Calls Try.prog 68 #[.slice l10.a l10.len l10.cap] w fun e w1 =>
 ∃ l44 : SV, e = .returned (.slice l44.a l44.len l44.cap) ∧
 runD Try.prog ds w1 fun w2 =>
 R (.returned (.tuple #[.slice l44.a l44.len l44.cap, .int .i64 0])) w2
def F30_k2 (R : Rt) : EP := (fun ρ ds w => dSl (ρ 10) fun l10 => F30_1 R l10 ds w)
def F30_q3 (R : Rt) : EQ := (thenQ (F30_k2 R) (F30_q1 R))
def F30_q4 (R : Rt) : EQ := (blockQ 0 (F30_q3 R))
def F30_q5 (R : Rt) (J1 : (SV × Int) → World → Prop) : EQ := (thenQ (fun ρ _ w => dSl (ρ 10) fun l10 => dInt .i64 (ρ 11) fun n11 => J1 (l10, n11) w) (F30_q4 R))
def F30_2 (R : Rt) (J1 : (SV × Int) → World → Prop) (l6 : SV) (l9 : SV) (l10 : SV) (n11 : Int) (ds : Ds) (w : World) : Prop :=
 Br (decide (n11 < ((l6.len : Nat) : Int))) (
 ∃ a3 : Addr, l9.a = some a3 ∧ 0 ≤ n11 ∧ n11 < ((l9.len : Nat) : Int) ∧
 ∃ b34 : Bool, w.cell? (a3.add (n11.toNat * 1)) = some (.bool b34) ∧
 Br b34 (
 ∃ a4 : Addr, l6.a = some a4 ∧ 0 ≤ n11 ∧ n11 < ((l6.len : Nat) : Int) ∧
 ∃ s40 : ByteArray, w.cell? (a4.add (n11.toNat * 4)) = some (.string s40) ∧
 alE (.cells #[.string s40] 9) w fun r41 w5 =>
 ∃ l42 : SV, ∃ w6 : World, (Builtin.append_ #[23, 23] 23 #[.slice l10.a l10.len l10.cap, .slice (some ⟨r41, 0, none⟩) 1 1]).run Try.prog w5 = .ok (.slice l42.a l42.len l42.cap) w6 ∧
 J1 (l42, (IntKind.i64.wrap (n11 + 1))) w6) (
 J1 (l10, (IntKind.i64.wrap (n11 + 1))) w)) (
 F30_1 R l10 ds w)
def F30_3 (R : Rt) (l6 : SV) (l9 : SV) (l10 : SV) (n11 : Int) (ds : Ds) (w : World) : Prop :=
 loopT (fun (J1 : (SV × Int) → World → Prop) (s : SV × Int) (w : World) => F30_2 R J1 l6 l9 s.1 s.2 ds w) (l10, n11) w
@[reducible] def F30_4 (R : Rt) (l6 : SV) (l9 : SV) (l10 : SV) (n11 : Int) (ds : Ds) (w : World) : Prop := F30_3 R l6 l9 l10 n11 ds w
def F30_k6 (R : Rt) : EP := (fun ρ ds w => dSl (ρ 6) fun l6 => dSl (ρ 9) fun l9 => dSl (ρ 10) fun l10 => dInt .i64 (ρ 11) fun n11 => F30_4 R l6 l9 l10 n11 ds w)
def F30_5 (R : Rt) (l0 : SV) (s1 : ByteArray) (ds : Ds) (w : World) : Prop :=
 Calls Try.prog 51 #[.slice l0.a l0.len l0.cap, .string s1] w fun e w7 =>
 ∃ l15_0 : SV, ∃ n15_1 : Int, ∃ n15_2 : Int, e = .returned (.tuple #[.slice l15_0.a l15_0.len l15_0.cap, .int .i64 n15_1, .int .i64 n15_2]) ∧
 Br (n15_2 != 0) (
 runD Try.prog ds w7 fun w8 =>
 R (.returned (.tuple #[.slice none 0 0, .int .i64 n15_2])) w8) (
 Calls Try.prog 67 #[.slice l15_0.a l15_0.len l15_0.cap, .int .i64 n15_1] w7 fun e w9 =>
 ∃ l24 : SV, e = .returned (.slice l24.a l24.len l24.cap) ∧
 F30_4 R l15_0 l24 ⟨none, 0, 0⟩ 0 ds w9)
theorem c30_l : flat (bodyOf Try.f30) = [c30_0, c30_1, c30_2, c30_3, c30_4, c30_5, c30_6, c30_7, c30_8, c30_9] := by kernel_rfl
theorem c30_7_l : flat (innerC c30_7) = [c30_7_0] := by kernel_rfl
theorem c30_7_0_l : flat (innerC c30_7_0) = [c30_7_0_0, c30_7_0_1, c30_7_0_2, c30_7_0_3] := by kernel_rfl
theorem F30_1_ok (R : Rt) (l10 : SV) (ds : Ds) (w : World) (ρ : Env) (e10 : ρ 10 = .slice l10.a l10.len l10.cap) (h : F30_1 R l10 ds w) :
    TrL Try.prog Try.f30.ntmps [c30_8, c30_9] (F30_q1 R) ρ ds w :=
  TrL_leaf (X := F30_1 R l10 ds w) (setAll_cons e10 setAll_nil) (by kernel_rfl) (by kernel_rfl) h
theorem F30_2_ok (R : Rt) (J1 : (SV × Int) → World → Prop) (l6 : SV) (l9 : SV) (l10 : SV) (n11 : Int) (ds : Ds) (w : World) (ρ : Env) (e6 : ρ 6 = .slice l6.a l6.len l6.cap) (e9 : ρ 9 = .slice l9.a l9.len l9.cap) (e10 : ρ 10 = .slice l10.a l10.len l10.cap) (e11 : ρ 11 = .int .i64 n11) (h : F30_2 R J1 l6 l9 l10 n11 ds w) :
    TrL Try.prog Try.f30.ntmps [c30_7_0_0, c30_7_0_1, c30_7_0_2, c30_7_0_3] (F30_q5 R J1) ρ ds w :=
  TrL_leaf (X := F30_2 R J1 l6 l9 l10 n11 ds w) (setAll_cons e6 (setAll_cons e9 (setAll_cons e10 (setAll_cons e11 setAll_nil)))) (by kernel_rfl) (by kernel_rfl) h
theorem F30_3_ok (R : Rt) (l6 : SV) (l9 : SV) (l10 : SV) (n11 : Int) (ds : Ds) (w : World) (ρ : Env) (e6 : ρ 6 = .slice l6.a l6.len l6.cap) (e9 : ρ 9 = .slice l9.a l9.len l9.cap) (e10 : ρ 10 = .slice l10.a l10.len l10.cap) (e11 : ρ 11 = .int .i64 n11) (h : F30_3 R l6 l9 l10 n11 ds w) :
    TrL Try.prog Try.f30.ntmps [c30_7_0] (F30_q4 R) ρ ds w :=
  TrL_one (Tr_loop' (c := innerC c30_7_0) (σ := SV × Int) (enc := (fun (s : SV × Int) (ρ : Env) => ρ 10 = .slice s.1.a s.1.len s.1.cap ∧ ρ 11 = .int .i64 s.2)) (D := (fun ρ K => dSl (ρ 10) fun l10 => dInt .i64 (ρ 11) fun n11 => K (l10, n11))) (F := (fun (J1 : (SV × Int) → World → Prop) (s : SV × Int) (w : World) => F30_2 R J1 l6 l9 s.1 s.2 ds w)) (s0 := (l10, n11)) (by kernel_rfl) c30_7_0_l ⟨e10, e11⟩ (by kernel_rfl) (fun ρ K hD => by obtain ⟨l10, e10, hD⟩ := dSl_elim hD; obtain ⟨n11, e11, hD⟩ := dInt_elim hD; exact ⟨(l10, n11), ⟨e10, e11⟩, hD⟩)
      (fun J1 s ρ' w' he ha hF => by
      obtain ⟨e10', e11'⟩ := he
      exact F30_2_ok R J1 l6 l9 s.1 s.2 ds w' ρ' ((ha 6 (by kernel_rfl)).trans e6) ((ha 9 (by kernel_rfl)).trans e9) e10' e11' hF) h)
theorem F30_4_ok (R : Rt) (l6 : SV) (l9 : SV) (l10 : SV) (n11 : Int) (ds : Ds) (w : World) (ρ : Env) (e6 : ρ 6 = .slice l6.a l6.len l6.cap) (e9 : ρ 9 = .slice l9.a l9.len l9.cap) (e10 : ρ 10 = .slice l10.a l10.len l10.cap) (e11 : ρ 11 = .int .i64 n11) (h : F30_4 R l6 l9 l10 n11 ds w) :
    TrL Try.prog Try.f30.ntmps [c30_7, c30_8, c30_9] (F30_q1 R) ρ ds w :=
  TrL_head (K := (F30_k2 R)) (Tr_block' (c := innerC c30_7) (by kernel_rfl) c30_7_l (F30_3_ok R l6 l9 l10 n11 ds w ρ e6 e9 e10 e11 h))
    (fun ρ' ds' w' hD => by
      obtain ⟨l10, e10, hD⟩ := dSl_elim hD; exact F30_1_ok R l10 ds' w' ρ' e10 hD)
theorem F30_5_ok (R : Rt) (l0 : SV) (s1 : ByteArray) (ds : Ds) (w : World) (ρ : Env) (e0 : ρ 0 = .slice l0.a l0.len l0.cap) (e1 : ρ 1 = .string s1) (h : F30_5 R l0 s1 ds w) :
    TrL Try.prog Try.f30.ntmps [c30_0, c30_1, c30_2, c30_3, c30_4, c30_5, c30_6, c30_7, c30_8, c30_9] (F30_q1 R) ρ ds w :=
  TrL_piece (pre := [c30_0, c30_1, c30_2, c30_3, c30_4, c30_5, c30_6]) (K := (F30_k6 R)) (X := F30_5 R l0 s1 ds w) (setAll_cons e0 (setAll_cons e1 setAll_nil)) (by kernel_rfl) (by kernel_rfl)
    (fun ρ' ds' w' hD => by
      obtain ⟨l6, e6, hD⟩ := dSl_elim hD; obtain ⟨l9, e9, hD⟩ := dSl_elim hD; obtain ⟨l10, e10, hD⟩ := dSl_elim hD; obtain ⟨n11, e11, hD⟩ := dInt_elim hD; exact F30_4_ok R l6 l9 l10 n11 ds' w' ρ' e6 e9 e10 e11 hD) h
theorem F30_calls (l0 : SV) (s1 : ByteArray) (w : World) (R : Rt) (h : F30_5 R l0 s1 [] w) : Calls Try.prog 30 #[.slice l0.a l0.len l0.cap, .string s1] w R :=
  calls_of_L (l := [c30_0, c30_1, c30_2, c30_3, c30_4, c30_5, c30_6, c30_7, c30_8, c30_9]) Try.func30 (by kernel_rfl) (by rw [Try.ntmps30]; exact Nat.le_of_ble_eq_true (by kernel_rfl)) c30_l
    (F30_5_ok R l0 s1 [] w _ rfl rfl h)
theorem F30_callsD (l0 : SV) (s1 : ByteArray) (w : World) (R : Rt) (u : FrameMode) (h : F30_5 R l0 s1 [] w) : CallsD Try.prog 30 #[.slice l0.a l0.len l0.cap, .string s1] u w fun e u' w' => u' = u ∧ R e w' :=
  callsD_of_L (l := [c30_0, c30_1, c30_2, c30_3, c30_4, c30_5, c30_6, c30_7, c30_8, c30_9]) Try.func30 (by kernel_rfl) (by rw [Try.ntmps30]; exact Nat.le_of_ble_eq_true (by kernel_rfl)) (by kernel_rfl) c30_l
    (F30_5_ok R l0 s1 [] w _ rfl rfl h) u

/-! function 31: cabinetry/link.Trim -/
noncomputable def c31_0 : Code := itemAt (flat (bodyOf Try.f31)) 0
noncomputable def c31_1 : Code := itemAt (flat (bodyOf Try.f31)) 1
noncomputable def c31_2 : Code := itemAt (flat (bodyOf Try.f31)) 2
noncomputable def c31_3 : Code := itemAt (flat (bodyOf Try.f31)) 3
noncomputable def c31_4 : Code := itemAt (flat (bodyOf Try.f31)) 4
noncomputable def c31_5 : Code := itemAt (flat (bodyOf Try.f31)) 5
noncomputable def c31_6 : Code := itemAt (flat (bodyOf Try.f31)) 6
noncomputable def c31_7 : Code := itemAt (flat (bodyOf Try.f31)) 7
noncomputable def c31_8 : Code := itemAt (flat (bodyOf Try.f31)) 8
noncomputable def c31_9 : Code := itemAt (flat (bodyOf Try.f31)) 9
noncomputable def c31_7_0 : Code := itemAt (flat (innerC c31_7)) 0
noncomputable def c31_7_0_0 : Code := itemAt (flat (innerC c31_7_0)) 0
noncomputable def c31_7_0_1 : Code := itemAt (flat (innerC c31_7_0)) 1
noncomputable def c31_7_0_2 : Code := itemAt (flat (innerC c31_7_0)) 2
noncomputable def c31_7_0_3 : Code := itemAt (flat (innerC c31_7_0)) 3
noncomputable def c31_7_0_2_0 : Code := itemAt (flat (innerC c31_7_0_2)) 0
noncomputable def c31_7_0_2_1 : Code := itemAt (flat (innerC c31_7_0_2)) 1
noncomputable def c31_7_0_2_2 : Code := itemAt (flat (innerC c31_7_0_2)) 2
noncomputable def c31_7_0_2_3 : Code := itemAt (flat (innerC c31_7_0_2)) 3
noncomputable def c31_7_0_2_4 : Code := itemAt (flat (innerC c31_7_0_2)) 4
noncomputable def c31_7_0_2_5 : Code := itemAt (flat (innerC c31_7_0_2)) 5
noncomputable def c31_7_0_2_3_0 : Code := itemAt (flat (innerC c31_7_0_2_3)) 0
noncomputable def c31_7_0_2_3_0_0 : Code := itemAt (flat (innerC c31_7_0_2_3_0)) 0
noncomputable def c31_7_0_2_3_0_1 : Code := itemAt (flat (innerC c31_7_0_2_3_0)) 1
noncomputable def c31_7_0_2_3_0_2 : Code := itemAt (flat (innerC c31_7_0_2_3_0)) 2
noncomputable def c31_7_0_2_3_0_3 : Code := itemAt (flat (innerC c31_7_0_2_3_0)) 3
def F31_q1 (R : Rt) : EQ := endQ Try.prog Try.f31.results.toList R
def F31_1 (R : Rt) (l9 : SV) (ds : Ds) (w : World) : Prop :=
 runD Try.prog ds w fun w1 =>
 R (.returned (.tuple #[.slice l9.a l9.len l9.cap, .int .i64 0])) w1
def F31_k2 (R : Rt) : EP := (fun ρ ds w => dSl (ρ 9) fun l9 => F31_1 R l9 ds w)
def F31_q3 (R : Rt) : EQ := (thenQ (F31_k2 R) (F31_q1 R))
def F31_q4 (R : Rt) : EQ := (blockQ 0 (F31_q3 R))
def F31_q5 (R : Rt) (J1 : (SV × Int) → World → Prop) : EQ := (thenQ (fun ρ _ w => dSl (ρ 9) fun l9 => dInt .i64 (ρ 29) fun n29 => J1 (l9, n29) w) (F31_q4 R))
def F31_2 (R : Rt) (J1 : (SV × Int) → World → Prop) (m8 : Option Nat) (l9 : SV) (l27 : SV) (n28 : Int) (n29 : Int) (ds : Ds) (w : World) : Prop :=
 J1 (l9, (IntKind.i64.wrap (n29 + 1))) w
def F31_k6 (R : Rt) (J1 : (SV × Int) → World → Prop) : EP := (fun ρ ds w => dMap (ρ 8) fun m8 => dSl (ρ 9) fun l9 => dSl (ρ 27) fun l27 => dInt .i64 (ρ 28) fun n28 => dInt .i64 (ρ 29) fun n29 => F31_2 R J1 m8 l9 l27 n28 n29 ds w)
def F31_q7 (R : Rt) (J1 : (SV × Int) → World → Prop) : EQ := (thenQ (F31_k6 R J1) (F31_q5 R J1))
def F31_q8 (R : Rt) (J1 : (SV × Int) → World → Prop) : EQ := (blockQ 1 (F31_q7 R J1))
def F31_3 (R : Rt) (J1 : (SV × Int) → World → Prop) (m8 : Option Nat) (l9 : SV) (p12 : Option Addr) (l27 : SV) (n28 : Int) (n29 : Int) (ds : Ds) (w : World) : Prop :=
 ptrE p12 fun a2 =>
 ∃ l78 : SV, w.cell? (a2.add 2) = some (.slice l78.a l78.len l78.cap) ∧
 Br (decide (((l78.len : Nat) : Int) > 0)) (
 ptrE p12 fun a3 =>
 ∃ s82_0 : ByteArray, w.cell? (a3.add 0) = some (.string s82_0) ∧
 ∃ n82_1 : Int, w.cell? (a3.add 1) = some (.int .i64 n82_1) ∧
 ∃ l82_2 : SV, w.cell? (a3.add 2) = some (.slice l82_2.a l82_2.len l82_2.cap) ∧
 ∃ l82_3 : SV, w.cell? (a3.add 3) = some (.slice l82_3.a l82_3.len l82_3.cap) ∧
 ∃ l82_4 : SV, w.cell? (a3.add 4) = some (.slice l82_4.a l82_4.len l82_4.cap) ∧
 alE (.cells #[.string s82_0, .int .i64 n82_1, .slice l82_2.a l82_2.len l82_2.cap, .slice l82_3.a l82_3.len l82_3.cap, .slice l82_4.a l82_4.len l82_4.cap] 33) w fun r83 w4 =>
 ∃ l84 : SV, ∃ w5 : World, (Builtin.append_ #[22, 22] 22 #[.slice l9.a l9.len l9.cap, .slice (some ⟨r83, 0, none⟩) 1 1]).run Try.prog w4 = .ok (.slice l84.a l84.len l84.cap) w5 ∧
 F31_2 R J1 m8 l84 l27 n28 n29 ds w5) (
 F31_2 R J1 m8 l9 l27 n28 n29 ds w)
def F31_k9 (R : Rt) (J1 : (SV × Int) → World → Prop) : EP := (fun ρ ds w => dMap (ρ 8) fun m8 => dSl (ρ 9) fun l9 => dPtr (ρ 12) fun p12 => dSl (ρ 27) fun l27 => dInt .i64 (ρ 28) fun n28 => dInt .i64 (ρ 29) fun n29 => F31_3 R J1 m8 l9 p12 l27 n28 n29 ds w)
def F31_q10 (R : Rt) (J1 : (SV × Int) → World → Prop) : EQ := (thenQ (F31_k9 R J1) (F31_q8 R J1))
def F31_q11 (R : Rt) (J1 : (SV × Int) → World → Prop) : EQ := (blockQ 2 (F31_q10 R J1))
def F31_q12 (R : Rt) (J1 : (SV × Int) → World → Prop) (J2 : (Int) → World → Prop) : EQ := (thenQ (fun ρ _ w => dInt .i64 (ρ 41) fun n41 => J2 n41 w) (F31_q11 R J1))
def F31_4 (R : Rt) (J1 : (SV × Int) → World → Prop) (J2 : (Int) → World → Prop) (m8 : Option Nat) (l9 : SV) (p11 : Option Addr) (p12 : Option Addr) (l27 : SV) (n28 : Int) (n29 : Int) (l39 : SV) (n40 : Int) (n41 : Int) (ds : Ds) (w : World) : Prop :=
 Br (decide (n41 < n40)) (
 ∃ a6 : Addr, l39.a = some a6 ∧ 0 ≤ n41 ∧ n41 < ((l39.len : Nat) : Int) ∧
 ∃ s45 : ByteArray, w.cell? (a6.add (n41.toNat * 1)) = some (.string s45) ∧
 ∃ b48 : Bool, ∃ w7 : World, (Instr.lookup 82 (.map m8) (.string s45) false).run Try.prog w = .ok (.bool b48) w7 ∧
 Br b48 (
 dwE w7 fun w8 =>
 ∃ S1 : World → Prop, S1 w8 ∧
 ptrE p12 fun a9 =>
 ∃ l50 : SV, (∀ w', S1 w' → w'.cell? (a9.add 2) = some (.slice l50.a l50.len l50.cap)) ∧
 ptrE p12 fun a10 =>
 ∃ l55 : SV, (∀ w', S1 w' → w'.cell? (a10.add 3) = some (.slice l55.a l55.len l55.cap)) ∧
 ptrE p11 fun a11 =>
 ∃ l57 : SV, (∀ w', S1 w' → w'.cell? (a11.add 3) = some (.slice l57.a l57.len l57.cap)) ∧
 ∃ a12 : Addr, l57.a = some a12 ∧ 0 ≤ n41 ∧ n41 < ((l57.len : Nat) : Int) ∧
 ∃ n60 : Int, (∀ w', S1 w' → w'.cell? (a12.add (n41.toNat * 1)) = some (.int .i64 n60)) ∧
 ptrE p12 fun a13 =>
 ∃ l64 : SV, (∀ w', S1 w' → w'.cell? (a13.add 4) = some (.slice l64.a l64.len l64.cap)) ∧
 ptrE p11 fun a14 =>
 ∃ l66 : SV, (∀ w', S1 w' → w'.cell? (a14.add 4) = some (.slice l66.a l66.len l66.cap)) ∧
 ∃ a15 : Addr, l66.a = some a15 ∧ 0 ≤ n41 ∧ n41 < ((l66.len : Nat) : Int) ∧
 ∃ l69 : SV, (∀ w', S1 w' → w'.cell? (a15.add (n41.toNat * 1)) = some (.slice l69.a l69.len l69.cap)) ∧
 (
 alE (.cells #[.string s45] 9) w8 fun r52 w16 =>
 S1 w16 ∧
 (
 ∃ l53 : SV, ∃ w17 : World, (Builtin.append_ #[23, 23] 23 #[.slice l50.a l50.len l50.cap, .slice (some ⟨r52, 0, none⟩) 1 1]).run Try.prog w16 = .ok (.slice l53.a l53.len l53.cap) w17 ∧
 S1 w17 ∧
 ptrE p12 fun a18 =>
 alE (.cells #[.int .i64 n60] 3) w17 fun r61 w19 =>
 S1 w19 ∧
 ∃ l62 : SV, ∃ w20 : World, (Builtin.append_ #[30, 30] 30 #[.slice l55.a l55.len l55.cap, .slice (some ⟨r61, 0, none⟩) 1 1]).run Try.prog w19 = .ok (.slice l62.a l62.len l62.cap) w20 ∧
 S1 w20 ∧
 Calls Try.prog 69 #[.slice l69.a l69.len l69.cap] w20 fun e w21 =>
 ∃ l70 : SV, e = .returned (.slice l70.a l70.len l70.cap) ∧
 S1 w21 ∧
 alE (.cells #[.slice l70.a l70.len l70.cap] 23) w21 fun r71 w22 =>
 S1 w22 ∧
 ∃ l72 : SV, ∃ w23 : World, (Builtin.append_ #[31, 31] 31 #[.slice l64.a l64.len l64.cap, .slice (some ⟨r71, 0, none⟩) 1 1]).run Try.prog w22 = .ok (.slice l72.a l72.len l72.cap) w23 ∧
 st1 (a18.add 2) (.slice l53.a l53.len l53.cap) w23 fun w24 =>
 ptrE p12 fun a25 =>
 st1 (a25.add 3) (.slice l62.a l62.len l62.cap) w24 fun w26 =>
 ptrE p12 fun a27 =>
 st1 (a27.add 4) (.slice l72.a l72.len l72.cap) w26 fun w28 =>
 J2 (IntKind.i64.wrap (n41 + 1)) w28) ∧ (
 alE (.cells #[.int .i64 n60] 3) w16 fun r61 w29 =>
 S1 w29 ∧
 ∃ l53 : SV, ∃ w30 : World, (Builtin.append_ #[23, 23] 23 #[.slice l50.a l50.len l50.cap, .slice (some ⟨r52, 0, none⟩) 1 1]).run Try.prog w29 = .ok (.slice l53.a l53.len l53.cap) w30 ∧
 S1 w30 ∧
 ptrE p12 fun a31 =>
 ∃ l62 : SV, ∃ w32 : World, (Builtin.append_ #[30, 30] 30 #[.slice l55.a l55.len l55.cap, .slice (some ⟨r61, 0, none⟩) 1 1]).run Try.prog w30 = .ok (.slice l62.a l62.len l62.cap) w32 ∧
 S1 w32 ∧
 Calls Try.prog 69 #[.slice l69.a l69.len l69.cap] w32 fun e w33 =>
 ∃ l70 : SV, e = .returned (.slice l70.a l70.len l70.cap) ∧
 S1 w33 ∧
 alE (.cells #[.slice l70.a l70.len l70.cap] 23) w33 fun r71 w34 =>
 S1 w34 ∧
 ∃ l72 : SV, ∃ w35 : World, (Builtin.append_ #[31, 31] 31 #[.slice l64.a l64.len l64.cap, .slice (some ⟨r71, 0, none⟩) 1 1]).run Try.prog w34 = .ok (.slice l72.a l72.len l72.cap) w35 ∧
 st1 (a31.add 2) (.slice l53.a l53.len l53.cap) w35 fun w36 =>
 ptrE p12 fun a37 =>
 st1 (a37.add 3) (.slice l62.a l62.len l62.cap) w36 fun w38 =>
 ptrE p12 fun a39 =>
 st1 (a39.add 4) (.slice l72.a l72.len l72.cap) w38 fun w40 =>
 J2 (IntKind.i64.wrap (n41 + 1)) w40)) ∧ (
 alE (.cells #[.int .i64 n60] 3) w8 fun r61 w41 =>
 S1 w41 ∧
 alE (.cells #[.string s45] 9) w41 fun r52 w42 =>
 S1 w42 ∧
 ∃ l53 : SV, ∃ w43 : World, (Builtin.append_ #[23, 23] 23 #[.slice l50.a l50.len l50.cap, .slice (some ⟨r52, 0, none⟩) 1 1]).run Try.prog w42 = .ok (.slice l53.a l53.len l53.cap) w43 ∧
 S1 w43 ∧
 ptrE p12 fun a44 =>
 ∃ l62 : SV, ∃ w45 : World, (Builtin.append_ #[30, 30] 30 #[.slice l55.a l55.len l55.cap, .slice (some ⟨r61, 0, none⟩) 1 1]).run Try.prog w43 = .ok (.slice l62.a l62.len l62.cap) w45 ∧
 S1 w45 ∧
 Calls Try.prog 69 #[.slice l69.a l69.len l69.cap] w45 fun e w46 =>
 ∃ l70 : SV, e = .returned (.slice l70.a l70.len l70.cap) ∧
 S1 w46 ∧
 alE (.cells #[.slice l70.a l70.len l70.cap] 23) w46 fun r71 w47 =>
 S1 w47 ∧
 ∃ l72 : SV, ∃ w48 : World, (Builtin.append_ #[31, 31] 31 #[.slice l64.a l64.len l64.cap, .slice (some ⟨r71, 0, none⟩) 1 1]).run Try.prog w47 = .ok (.slice l72.a l72.len l72.cap) w48 ∧
 st1 (a44.add 2) (.slice l53.a l53.len l53.cap) w48 fun w49 =>
 ptrE p12 fun a50 =>
 st1 (a50.add 3) (.slice l62.a l62.len l62.cap) w49 fun w51 =>
 ptrE p12 fun a52 =>
 st1 (a52.add 4) (.slice l72.a l72.len l72.cap) w51 fun w53 =>
 J2 (IntKind.i64.wrap (n41 + 1)) w53)) (
 J2 (IntKind.i64.wrap (n41 + 1)) w7)) (
 F31_3 R J1 m8 l9 p12 l27 n28 n29 ds w)
def F31_5 (R : Rt) (J1 : (SV × Int) → World → Prop) (m8 : Option Nat) (l9 : SV) (p11 : Option Addr) (p12 : Option Addr) (l27 : SV) (n28 : Int) (n29 : Int) (l39 : SV) (n40 : Int) (n41 : Int) (ds : Ds) (w : World) : Prop :=
 loopT (fun (J2 : (Int) → World → Prop) (s : Int) (w : World) => F31_4 R J1 J2 m8 l9 p11 p12 l27 n28 n29 l39 n40 s ds w) n41 w
@[reducible] def F31_6 (R : Rt) (J1 : (SV × Int) → World → Prop) (m8 : Option Nat) (l9 : SV) (p11 : Option Addr) (p12 : Option Addr) (l27 : SV) (n28 : Int) (n29 : Int) (l39 : SV) (n40 : Int) (n41 : Int) (ds : Ds) (w : World) : Prop := F31_5 R J1 m8 l9 p11 p12 l27 n28 n29 l39 n40 n41 ds w
def F31_k13 (R : Rt) (J1 : (SV × Int) → World → Prop) : EP := (fun ρ ds w => dMap (ρ 8) fun m8 => dSl (ρ 9) fun l9 => dPtr (ρ 11) fun p11 => dPtr (ρ 12) fun p12 => dSl (ρ 27) fun l27 => dInt .i64 (ρ 28) fun n28 => dInt .i64 (ρ 29) fun n29 => dSl (ρ 39) fun l39 => dInt .i64 (ρ 40) fun n40 => dInt .i64 (ρ 41) fun n41 => F31_6 R J1 m8 l9 p11 p12 l27 n28 n29 l39 n40 n41 ds w)
def F31_7 (R : Rt) (J1 : (SV × Int) → World → Prop) (m8 : Option Nat) (l9 : SV) (l27 : SV) (n28 : Int) (n29 : Int) (ds : Ds) (w : World) : Prop :=
 ∃ a54 : Addr, l27.a = some a54 ∧ 0 ≤ n29 ∧ n29 < ((l27.len : Nat) : Int) ∧
 ∃ s32_0 : ByteArray, w.cell? ((a54.add (n29.toNat * 5)).add 0) = some (.string s32_0) ∧
 ∃ n32_1 : Int, w.cell? ((a54.add (n29.toNat * 5)).add 1) = some (.int .i64 n32_1) ∧
 ∃ l32_2 : SV, w.cell? ((a54.add (n29.toNat * 5)).add 2) = some (.slice l32_2.a l32_2.len l32_2.cap) ∧
 ∃ l32_3 : SV, w.cell? ((a54.add (n29.toNat * 5)).add 3) = some (.slice l32_3.a l32_3.len l32_3.cap) ∧
 ∃ l32_4 : SV, w.cell? ((a54.add (n29.toNat * 5)).add 4) = some (.slice l32_4.a l32_4.len l32_4.cap) ∧
 alE (.cells #[.string (⟨#[]⟩ : ByteArray), .int .i64 0, .slice none 0 0, .slice none 0 0, .slice none 0 0] 33) w fun r11 w55 =>
 stA Try.prog 33 (⟨r11, 0, none⟩ : Addr) #[.string s32_0, .int .i64 n32_1, .slice l32_2.a l32_2.len l32_2.cap, .slice l32_3.a l32_3.len l32_3.cap, .slice l32_4.a l32_4.len l32_4.cap] w55 fun w56 =>
 ∃ s34 : ByteArray, w56.cell? (⟨r11, 0, none⟩ : Addr) = some (.string s34) ∧
 ∃ n36 : Int, w56.cell? ((⟨r11, 0, none⟩ : Addr).add 1) = some (.int .i64 n36) ∧
 alE (.cells #[.string (⟨#[]⟩ : ByteArray), .int .i64 0, .slice none 0 0, .slice none 0 0, .slice none 0 0] 33) w56 fun r12 w57 =>
 stA Try.prog 33 (⟨r12, 0, none⟩ : Addr) #[.string s34, .int .i64 n36, .slice none 0 0, .slice none 0 0, .slice none 0 0] w57 fun w58 =>
 ∃ l39 : SV, w58.cell? ((⟨r11, 0, none⟩ : Addr).add 2) = some (.slice l39.a l39.len l39.cap) ∧
 F31_6 R J1 m8 l9 (some (⟨r11, 0, none⟩ : Addr)) (some (⟨r12, 0, none⟩ : Addr)) l27 n28 n29 l39 ((l39.len : Nat) : Int) 0 ds w58
@[reducible] def F31_8 (R : Rt) (J1 : (SV × Int) → World → Prop) (m8 : Option Nat) (l9 : SV) (l27 : SV) (n28 : Int) (n29 : Int) (ds : Ds) (w : World) : Prop := F31_7 R J1 m8 l9 l27 n28 n29 ds w
def F31_k14 (R : Rt) (J1 : (SV × Int) → World → Prop) : EP := (fun ρ ds w => dMap (ρ 8) fun m8 => dSl (ρ 9) fun l9 => dSl (ρ 27) fun l27 => dInt .i64 (ρ 28) fun n28 => dInt .i64 (ρ 29) fun n29 => F31_8 R J1 m8 l9 l27 n28 n29 ds w)
def F31_9 (R : Rt) (J1 : (SV × Int) → World → Prop) (m8 : Option Nat) (l9 : SV) (l27 : SV) (n28 : Int) (n29 : Int) (ds : Ds) (w : World) : Prop :=
 Br (decide (n29 < n28)) (
 F31_8 R J1 m8 l9 l27 n28 n29 ds w) (
 F31_1 R l9 ds w)
def F31_10 (R : Rt) (m8 : Option Nat) (l9 : SV) (l27 : SV) (n28 : Int) (n29 : Int) (ds : Ds) (w : World) : Prop :=
 loopT (fun (J1 : (SV × Int) → World → Prop) (s : SV × Int) (w : World) => F31_9 R J1 m8 s.1 l27 n28 s.2 ds w) (l9, n29) w
@[reducible] def F31_11 (R : Rt) (m8 : Option Nat) (l9 : SV) (l27 : SV) (n28 : Int) (n29 : Int) (ds : Ds) (w : World) : Prop := F31_10 R m8 l9 l27 n28 n29 ds w
def F31_k15 (R : Rt) : EP := (fun ρ ds w => dMap (ρ 8) fun m8 => dSl (ρ 9) fun l9 => dSl (ρ 27) fun l27 => dInt .i64 (ρ 28) fun n28 => dInt .i64 (ρ 29) fun n29 => F31_11 R m8 l9 l27 n28 n29 ds w)
def F31_12 (R : Rt) (l0 : SV) (s1 : ByteArray) (ds : Ds) (w : World) : Prop :=
 Calls Try.prog 45 #[.slice l0.a l0.len l0.cap, .string s1] w fun e w59 =>
 ∃ m18_0 : Option Nat, ∃ n18_1 : Int, e = .returned (.tuple #[.map m18_0, .int .i64 n18_1]) ∧
 Br (n18_1 != 0) (
 runD Try.prog ds w59 fun w60 =>
 R (.returned (.tuple #[.slice none 0 0, .int .i64 n18_1])) w60) (
 Calls Try.prog 66 #[.map m18_0, .string s1] w59 fun e w61 =>
 ∃ m26 : Option Nat, e = .returned (.map m26) ∧
 F31_11 R m26 ⟨none, 0, 0⟩ l0 ((l0.len : Nat) : Int) 0 ds w61)
theorem c31_l : flat (bodyOf Try.f31) = [c31_0, c31_1, c31_2, c31_3, c31_4, c31_5, c31_6, c31_7, c31_8, c31_9] := by kernel_rfl
theorem c31_7_l : flat (innerC c31_7) = [c31_7_0] := by kernel_rfl
theorem c31_7_0_l : flat (innerC c31_7_0) = [c31_7_0_0, c31_7_0_1, c31_7_0_2, c31_7_0_3] := by kernel_rfl
theorem c31_7_0_2_l : flat (innerC c31_7_0_2) = [c31_7_0_2_0, c31_7_0_2_1, c31_7_0_2_2, c31_7_0_2_3, c31_7_0_2_4, c31_7_0_2_5] := by kernel_rfl
theorem c31_7_0_2_3_l : flat (innerC c31_7_0_2_3) = [c31_7_0_2_3_0] := by kernel_rfl
theorem c31_7_0_2_3_0_l : flat (innerC c31_7_0_2_3_0) = [c31_7_0_2_3_0_0, c31_7_0_2_3_0_1, c31_7_0_2_3_0_2, c31_7_0_2_3_0_3] := by kernel_rfl
theorem F31_1_ok (R : Rt) (l9 : SV) (ds : Ds) (w : World) (ρ : Env) (e9 : ρ 9 = .slice l9.a l9.len l9.cap) (h : F31_1 R l9 ds w) :
    TrL Try.prog Try.f31.ntmps [c31_8, c31_9] (F31_q1 R) ρ ds w :=
  TrL_leaf (X := F31_1 R l9 ds w) (setAll_cons e9 setAll_nil) (by kernel_rfl) (by kernel_rfl) h
theorem F31_2_ok (R : Rt) (J1 : (SV × Int) → World → Prop) (m8 : Option Nat) (l9 : SV) (l27 : SV) (n28 : Int) (n29 : Int) (ds : Ds) (w : World) (ρ : Env) (e8 : ρ 8 = .map m8) (e9 : ρ 9 = .slice l9.a l9.len l9.cap) (e27 : ρ 27 = .slice l27.a l27.len l27.cap) (e28 : ρ 28 = .int .i64 n28) (e29 : ρ 29 = .int .i64 n29) (h : F31_2 R J1 m8 l9 l27 n28 n29 ds w) :
    TrL Try.prog Try.f31.ntmps [c31_7_0_3] (F31_q5 R J1) ρ ds w :=
  TrL_leaf (X := F31_2 R J1 m8 l9 l27 n28 n29 ds w) (setAll_cons e8 (setAll_cons e9 (setAll_cons e27 (setAll_cons e28 (setAll_cons e29 setAll_nil))))) (by kernel_rfl) (by kernel_rfl) h
theorem F31_3_ok (R : Rt) (J1 : (SV × Int) → World → Prop) (m8 : Option Nat) (l9 : SV) (p12 : Option Addr) (l27 : SV) (n28 : Int) (n29 : Int) (ds : Ds) (w : World) (ρ : Env) (e8 : ρ 8 = .map m8) (e9 : ρ 9 = .slice l9.a l9.len l9.cap) (e12 : ρ 12 = .pointer p12) (e27 : ρ 27 = .slice l27.a l27.len l27.cap) (e28 : ρ 28 = .int .i64 n28) (e29 : ρ 29 = .int .i64 n29) (h : F31_3 R J1 m8 l9 p12 l27 n28 n29 ds w) :
    TrL Try.prog Try.f31.ntmps [c31_7_0_2_4, c31_7_0_2_5] (F31_q8 R J1) ρ ds w :=
  TrL_leaf (X := F31_3 R J1 m8 l9 p12 l27 n28 n29 ds w) (setAll_cons e8 (setAll_cons e9 (setAll_cons e12 (setAll_cons e27 (setAll_cons e28 (setAll_cons e29 setAll_nil)))))) (by kernel_rfl) (by kernel_rfl) h
theorem F31_4_ok (R : Rt) (J1 : (SV × Int) → World → Prop) (J2 : (Int) → World → Prop) (m8 : Option Nat) (l9 : SV) (p11 : Option Addr) (p12 : Option Addr) (l27 : SV) (n28 : Int) (n29 : Int) (l39 : SV) (n40 : Int) (n41 : Int) (ds : Ds) (w : World) (ρ : Env) (e8 : ρ 8 = .map m8) (e9 : ρ 9 = .slice l9.a l9.len l9.cap) (e11 : ρ 11 = .pointer p11) (e12 : ρ 12 = .pointer p12) (e27 : ρ 27 = .slice l27.a l27.len l27.cap) (e28 : ρ 28 = .int .i64 n28) (e29 : ρ 29 = .int .i64 n29) (e39 : ρ 39 = .slice l39.a l39.len l39.cap) (e40 : ρ 40 = .int .i64 n40) (e41 : ρ 41 = .int .i64 n41) (h : F31_4 R J1 J2 m8 l9 p11 p12 l27 n28 n29 l39 n40 n41 ds w) :
    TrL Try.prog Try.f31.ntmps [c31_7_0_2_3_0_0, c31_7_0_2_3_0_1, c31_7_0_2_3_0_2, c31_7_0_2_3_0_3] (F31_q12 R J1 J2) ρ ds w :=
  TrL_leaf (X := F31_4 R J1 J2 m8 l9 p11 p12 l27 n28 n29 l39 n40 n41 ds w) (setAll_cons e8 (setAll_cons e9 (setAll_cons e11 (setAll_cons e12 (setAll_cons e27 (setAll_cons e28 (setAll_cons e29 (setAll_cons e39 (setAll_cons e40 (setAll_cons e41 setAll_nil)))))))))) (by kernel_rfl) (by kernel_rfl) h
theorem F31_5_ok (R : Rt) (J1 : (SV × Int) → World → Prop) (m8 : Option Nat) (l9 : SV) (p11 : Option Addr) (p12 : Option Addr) (l27 : SV) (n28 : Int) (n29 : Int) (l39 : SV) (n40 : Int) (n41 : Int) (ds : Ds) (w : World) (ρ : Env) (e8 : ρ 8 = .map m8) (e9 : ρ 9 = .slice l9.a l9.len l9.cap) (e11 : ρ 11 = .pointer p11) (e12 : ρ 12 = .pointer p12) (e27 : ρ 27 = .slice l27.a l27.len l27.cap) (e28 : ρ 28 = .int .i64 n28) (e29 : ρ 29 = .int .i64 n29) (e39 : ρ 39 = .slice l39.a l39.len l39.cap) (e40 : ρ 40 = .int .i64 n40) (e41 : ρ 41 = .int .i64 n41) (h : F31_5 R J1 m8 l9 p11 p12 l27 n28 n29 l39 n40 n41 ds w) :
    TrL Try.prog Try.f31.ntmps [c31_7_0_2_3_0] (F31_q11 R J1) ρ ds w :=
  TrL_one (Tr_loop' (c := innerC c31_7_0_2_3_0) (σ := Int) (enc := (fun (s : Int) (ρ : Env) => ρ 41 = .int .i64 s)) (D := (fun ρ K => dInt .i64 (ρ 41) fun n41 => K n41)) (F := (fun (J2 : (Int) → World → Prop) (s : Int) (w : World) => F31_4 R J1 J2 m8 l9 p11 p12 l27 n28 n29 l39 n40 s ds w)) (s0 := n41) (by kernel_rfl) c31_7_0_2_3_0_l e41 (by kernel_rfl) (fun ρ K hD => by obtain ⟨n41, e41, hD⟩ := dInt_elim hD; exact ⟨n41, e41, hD⟩)
      (fun J2 s ρ' w' he ha hF => by
      have e41' := he
      exact F31_4_ok R J1 J2 m8 l9 p11 p12 l27 n28 n29 l39 n40 s ds w' ρ' ((ha 8 (by kernel_rfl)).trans e8) ((ha 9 (by kernel_rfl)).trans e9) ((ha 11 (by kernel_rfl)).trans e11) ((ha 12 (by kernel_rfl)).trans e12) ((ha 27 (by kernel_rfl)).trans e27) ((ha 28 (by kernel_rfl)).trans e28) ((ha 29 (by kernel_rfl)).trans e29) ((ha 39 (by kernel_rfl)).trans e39) ((ha 40 (by kernel_rfl)).trans e40) e41' hF) h)
theorem F31_6_ok (R : Rt) (J1 : (SV × Int) → World → Prop) (m8 : Option Nat) (l9 : SV) (p11 : Option Addr) (p12 : Option Addr) (l27 : SV) (n28 : Int) (n29 : Int) (l39 : SV) (n40 : Int) (n41 : Int) (ds : Ds) (w : World) (ρ : Env) (e8 : ρ 8 = .map m8) (e9 : ρ 9 = .slice l9.a l9.len l9.cap) (e11 : ρ 11 = .pointer p11) (e12 : ρ 12 = .pointer p12) (e27 : ρ 27 = .slice l27.a l27.len l27.cap) (e28 : ρ 28 = .int .i64 n28) (e29 : ρ 29 = .int .i64 n29) (e39 : ρ 39 = .slice l39.a l39.len l39.cap) (e40 : ρ 40 = .int .i64 n40) (e41 : ρ 41 = .int .i64 n41) (h : F31_6 R J1 m8 l9 p11 p12 l27 n28 n29 l39 n40 n41 ds w) :
    TrL Try.prog Try.f31.ntmps [c31_7_0_2_3, c31_7_0_2_4, c31_7_0_2_5] (F31_q8 R J1) ρ ds w :=
  TrL_head (K := (F31_k9 R J1)) (Tr_block' (c := innerC c31_7_0_2_3) (by kernel_rfl) c31_7_0_2_3_l (F31_5_ok R J1 m8 l9 p11 p12 l27 n28 n29 l39 n40 n41 ds w ρ e8 e9 e11 e12 e27 e28 e29 e39 e40 e41 h))
    (fun ρ' ds' w' hD => by
      obtain ⟨m8, e8, hD⟩ := dMap_elim hD; obtain ⟨l9, e9, hD⟩ := dSl_elim hD; obtain ⟨p12, e12, hD⟩ := dPtr_elim hD; obtain ⟨l27, e27, hD⟩ := dSl_elim hD; obtain ⟨n28, e28, hD⟩ := dInt_elim hD; obtain ⟨n29, e29, hD⟩ := dInt_elim hD; exact F31_3_ok R J1 m8 l9 p12 l27 n28 n29 ds' w' ρ' e8 e9 e12 e27 e28 e29 hD)
theorem F31_7_ok (R : Rt) (J1 : (SV × Int) → World → Prop) (m8 : Option Nat) (l9 : SV) (l27 : SV) (n28 : Int) (n29 : Int) (ds : Ds) (w : World) (ρ : Env) (e8 : ρ 8 = .map m8) (e9 : ρ 9 = .slice l9.a l9.len l9.cap) (e27 : ρ 27 = .slice l27.a l27.len l27.cap) (e28 : ρ 28 = .int .i64 n28) (e29 : ρ 29 = .int .i64 n29) (h : F31_7 R J1 m8 l9 l27 n28 n29 ds w) :
    TrL Try.prog Try.f31.ntmps [c31_7_0_2_0, c31_7_0_2_1, c31_7_0_2_2, c31_7_0_2_3, c31_7_0_2_4, c31_7_0_2_5] (F31_q8 R J1) ρ ds w :=
  TrL_piece (pre := [c31_7_0_2_0, c31_7_0_2_1, c31_7_0_2_2]) (K := (F31_k13 R J1)) (X := F31_7 R J1 m8 l9 l27 n28 n29 ds w) (setAll_cons e8 (setAll_cons e9 (setAll_cons e27 (setAll_cons e28 (setAll_cons e29 setAll_nil))))) (by kernel_rfl) (by kernel_rfl)
    (fun ρ' ds' w' hD => by
      obtain ⟨m8, e8, hD⟩ := dMap_elim hD; obtain ⟨l9, e9, hD⟩ := dSl_elim hD; obtain ⟨p11, e11, hD⟩ := dPtr_elim hD; obtain ⟨p12, e12, hD⟩ := dPtr_elim hD; obtain ⟨l27, e27, hD⟩ := dSl_elim hD; obtain ⟨n28, e28, hD⟩ := dInt_elim hD; obtain ⟨n29, e29, hD⟩ := dInt_elim hD; obtain ⟨l39, e39, hD⟩ := dSl_elim hD; obtain ⟨n40, e40, hD⟩ := dInt_elim hD; obtain ⟨n41, e41, hD⟩ := dInt_elim hD; exact F31_6_ok R J1 m8 l9 p11 p12 l27 n28 n29 l39 n40 n41 ds' w' ρ' e8 e9 e11 e12 e27 e28 e29 e39 e40 e41 hD) h
theorem F31_8_ok (R : Rt) (J1 : (SV × Int) → World → Prop) (m8 : Option Nat) (l9 : SV) (l27 : SV) (n28 : Int) (n29 : Int) (ds : Ds) (w : World) (ρ : Env) (e8 : ρ 8 = .map m8) (e9 : ρ 9 = .slice l9.a l9.len l9.cap) (e27 : ρ 27 = .slice l27.a l27.len l27.cap) (e28 : ρ 28 = .int .i64 n28) (e29 : ρ 29 = .int .i64 n29) (h : F31_8 R J1 m8 l9 l27 n28 n29 ds w) :
    TrL Try.prog Try.f31.ntmps [c31_7_0_2, c31_7_0_3] (F31_q5 R J1) ρ ds w :=
  TrL_head (K := (F31_k6 R J1)) (Tr_block' (c := innerC c31_7_0_2) (by kernel_rfl) c31_7_0_2_l (F31_7_ok R J1 m8 l9 l27 n28 n29 ds w ρ e8 e9 e27 e28 e29 h))
    (fun ρ' ds' w' hD => by
      obtain ⟨m8, e8, hD⟩ := dMap_elim hD; obtain ⟨l9, e9, hD⟩ := dSl_elim hD; obtain ⟨l27, e27, hD⟩ := dSl_elim hD; obtain ⟨n28, e28, hD⟩ := dInt_elim hD; obtain ⟨n29, e29, hD⟩ := dInt_elim hD; exact F31_2_ok R J1 m8 l9 l27 n28 n29 ds' w' ρ' e8 e9 e27 e28 e29 hD)
theorem F31_9_ok (R : Rt) (J1 : (SV × Int) → World → Prop) (m8 : Option Nat) (l9 : SV) (l27 : SV) (n28 : Int) (n29 : Int) (ds : Ds) (w : World) (ρ : Env) (e8 : ρ 8 = .map m8) (e9 : ρ 9 = .slice l9.a l9.len l9.cap) (e27 : ρ 27 = .slice l27.a l27.len l27.cap) (e28 : ρ 28 = .int .i64 n28) (e29 : ρ 29 = .int .i64 n29) (h : F31_9 R J1 m8 l9 l27 n28 n29 ds w) :
    TrL Try.prog Try.f31.ntmps [c31_7_0_0, c31_7_0_1, c31_7_0_2, c31_7_0_3] (F31_q5 R J1) ρ ds w :=
  TrL_piece (pre := [c31_7_0_0, c31_7_0_1]) (K := (F31_k14 R J1)) (X := F31_9 R J1 m8 l9 l27 n28 n29 ds w) (setAll_cons e8 (setAll_cons e9 (setAll_cons e27 (setAll_cons e28 (setAll_cons e29 setAll_nil))))) (by kernel_rfl) (by kernel_rfl)
    (fun ρ' ds' w' hD => by
      obtain ⟨m8, e8, hD⟩ := dMap_elim hD; obtain ⟨l9, e9, hD⟩ := dSl_elim hD; obtain ⟨l27, e27, hD⟩ := dSl_elim hD; obtain ⟨n28, e28, hD⟩ := dInt_elim hD; obtain ⟨n29, e29, hD⟩ := dInt_elim hD; exact F31_8_ok R J1 m8 l9 l27 n28 n29 ds' w' ρ' e8 e9 e27 e28 e29 hD) h
theorem F31_10_ok (R : Rt) (m8 : Option Nat) (l9 : SV) (l27 : SV) (n28 : Int) (n29 : Int) (ds : Ds) (w : World) (ρ : Env) (e8 : ρ 8 = .map m8) (e9 : ρ 9 = .slice l9.a l9.len l9.cap) (e27 : ρ 27 = .slice l27.a l27.len l27.cap) (e28 : ρ 28 = .int .i64 n28) (e29 : ρ 29 = .int .i64 n29) (h : F31_10 R m8 l9 l27 n28 n29 ds w) :
    TrL Try.prog Try.f31.ntmps [c31_7_0] (F31_q4 R) ρ ds w :=
  TrL_one (Tr_loop' (c := innerC c31_7_0) (σ := SV × Int) (enc := (fun (s : SV × Int) (ρ : Env) => ρ 9 = .slice s.1.a s.1.len s.1.cap ∧ ρ 29 = .int .i64 s.2)) (D := (fun ρ K => dSl (ρ 9) fun l9 => dInt .i64 (ρ 29) fun n29 => K (l9, n29))) (F := (fun (J1 : (SV × Int) → World → Prop) (s : SV × Int) (w : World) => F31_9 R J1 m8 s.1 l27 n28 s.2 ds w)) (s0 := (l9, n29)) (by kernel_rfl) c31_7_0_l ⟨e9, e29⟩ (by kernel_rfl) (fun ρ K hD => by obtain ⟨l9, e9, hD⟩ := dSl_elim hD; obtain ⟨n29, e29, hD⟩ := dInt_elim hD; exact ⟨(l9, n29), ⟨e9, e29⟩, hD⟩)
      (fun J1 s ρ' w' he ha hF => by
      obtain ⟨e9', e29'⟩ := he
      exact F31_9_ok R J1 m8 s.1 l27 n28 s.2 ds w' ρ' ((ha 8 (by kernel_rfl)).trans e8) e9' ((ha 27 (by kernel_rfl)).trans e27) ((ha 28 (by kernel_rfl)).trans e28) e29' hF) h)
theorem F31_11_ok (R : Rt) (m8 : Option Nat) (l9 : SV) (l27 : SV) (n28 : Int) (n29 : Int) (ds : Ds) (w : World) (ρ : Env) (e8 : ρ 8 = .map m8) (e9 : ρ 9 = .slice l9.a l9.len l9.cap) (e27 : ρ 27 = .slice l27.a l27.len l27.cap) (e28 : ρ 28 = .int .i64 n28) (e29 : ρ 29 = .int .i64 n29) (h : F31_11 R m8 l9 l27 n28 n29 ds w) :
    TrL Try.prog Try.f31.ntmps [c31_7, c31_8, c31_9] (F31_q1 R) ρ ds w :=
  TrL_head (K := (F31_k2 R)) (Tr_block' (c := innerC c31_7) (by kernel_rfl) c31_7_l (F31_10_ok R m8 l9 l27 n28 n29 ds w ρ e8 e9 e27 e28 e29 h))
    (fun ρ' ds' w' hD => by
      obtain ⟨l9, e9, hD⟩ := dSl_elim hD; exact F31_1_ok R l9 ds' w' ρ' e9 hD)
theorem F31_12_ok (R : Rt) (l0 : SV) (s1 : ByteArray) (ds : Ds) (w : World) (ρ : Env) (e0 : ρ 0 = .slice l0.a l0.len l0.cap) (e1 : ρ 1 = .string s1) (h : F31_12 R l0 s1 ds w) :
    TrL Try.prog Try.f31.ntmps [c31_0, c31_1, c31_2, c31_3, c31_4, c31_5, c31_6, c31_7, c31_8, c31_9] (F31_q1 R) ρ ds w :=
  TrL_piece (pre := [c31_0, c31_1, c31_2, c31_3, c31_4, c31_5, c31_6]) (K := (F31_k15 R)) (X := F31_12 R l0 s1 ds w) (setAll_cons e0 (setAll_cons e1 setAll_nil)) (by kernel_rfl) (by kernel_rfl)
    (fun ρ' ds' w' hD => by
      obtain ⟨m8, e8, hD⟩ := dMap_elim hD; obtain ⟨l9, e9, hD⟩ := dSl_elim hD; obtain ⟨l27, e27, hD⟩ := dSl_elim hD; obtain ⟨n28, e28, hD⟩ := dInt_elim hD; obtain ⟨n29, e29, hD⟩ := dInt_elim hD; exact F31_11_ok R m8 l9 l27 n28 n29 ds' w' ρ' e8 e9 e27 e28 e29 hD) h
theorem F31_calls (l0 : SV) (s1 : ByteArray) (w : World) (R : Rt) (h : F31_12 R l0 s1 [] w) : Calls Try.prog 31 #[.slice l0.a l0.len l0.cap, .string s1] w R :=
  calls_of_L (l := [c31_0, c31_1, c31_2, c31_3, c31_4, c31_5, c31_6, c31_7, c31_8, c31_9]) Try.func31 (by kernel_rfl) (by rw [Try.ntmps31]; exact Nat.le_of_ble_eq_true (by kernel_rfl)) c31_l
    (F31_12_ok R l0 s1 [] w _ rfl rfl h)
theorem F31_callsD (l0 : SV) (s1 : ByteArray) (w : World) (R : Rt) (u : FrameMode) (h : F31_12 R l0 s1 [] w) : CallsD Try.prog 31 #[.slice l0.a l0.len l0.cap, .string s1] u w fun e u' w' => u' = u ∧ R e w' :=
  callsD_of_L (l := [c31_0, c31_1, c31_2, c31_3, c31_4, c31_5, c31_6, c31_7, c31_8, c31_9]) Try.func31 (by kernel_rfl) (by rw [Try.ntmps31]; exact Nat.le_of_ble_eq_true (by kernel_rfl)) (by kernel_rfl) c31_l
    (F31_12_ok R l0 s1 [] w _ rfl rfl h) u

/-! function 32: cabinetry/cabinetryref24.Trim -/
noncomputable def c32_0 : Code := itemAt (flat (bodyOf Try.f32)) 0
noncomputable def c32_1 : Code := itemAt (flat (bodyOf Try.f32)) 1
noncomputable def c32_2 : Code := itemAt (flat (bodyOf Try.f32)) 2
noncomputable def c32_3 : Code := itemAt (flat (bodyOf Try.f32)) 3
noncomputable def c32_4 : Code := itemAt (flat (bodyOf Try.f32)) 4
noncomputable def c32_5 : Code := itemAt (flat (bodyOf Try.f32)) 5
noncomputable def c32_6 : Code := itemAt (flat (bodyOf Try.f32)) 6
noncomputable def c32_7 : Code := itemAt (flat (bodyOf Try.f32)) 7
noncomputable def c32_8 : Code := itemAt (flat (bodyOf Try.f32)) 8
noncomputable def c32_9 : Code := itemAt (flat (bodyOf Try.f32)) 9
noncomputable def c32_7_0 : Code := itemAt (flat (innerC c32_7)) 0
noncomputable def c32_7_0_0 : Code := itemAt (flat (innerC c32_7_0)) 0
noncomputable def c32_7_0_1 : Code := itemAt (flat (innerC c32_7_0)) 1
noncomputable def c32_7_0_2 : Code := itemAt (flat (innerC c32_7_0)) 2
noncomputable def c32_7_0_3 : Code := itemAt (flat (innerC c32_7_0)) 3
noncomputable def c32_7_0_2_0 : Code := itemAt (flat (innerC c32_7_0_2)) 0
noncomputable def c32_7_0_2_1 : Code := itemAt (flat (innerC c32_7_0_2)) 1
noncomputable def c32_7_0_2_2 : Code := itemAt (flat (innerC c32_7_0_2)) 2
noncomputable def c32_7_0_2_3 : Code := itemAt (flat (innerC c32_7_0_2)) 3
noncomputable def c32_7_0_2_4 : Code := itemAt (flat (innerC c32_7_0_2)) 4
noncomputable def c32_7_0_2_2_0 : Code := itemAt (flat (innerC c32_7_0_2_2)) 0
noncomputable def c32_7_0_2_2_0_0 : Code := itemAt (flat (innerC c32_7_0_2_2_0)) 0
noncomputable def c32_7_0_2_2_0_1 : Code := itemAt (flat (innerC c32_7_0_2_2_0)) 1
noncomputable def c32_7_0_2_2_0_2 : Code := itemAt (flat (innerC c32_7_0_2_2_0)) 2
noncomputable def c32_7_0_2_2_0_3 : Code := itemAt (flat (innerC c32_7_0_2_2_0)) 3
def F32_q1 (R : Rt) : EQ := endQ Try.prog Try.f32.results.toList R
def F32_1 (R : Rt) (l10 : SV) (ds : Ds) (w : World) : Prop :=
 runD Try.prog ds w fun w1 =>
 R (.returned (.tuple #[.slice l10.a l10.len l10.cap, .int .i64 0])) w1
def F32_k2 (R : Rt) : EP := (fun ρ ds w => dSl (ρ 10) fun l10 => F32_1 R l10 ds w)
def F32_q3 (R : Rt) : EQ := (thenQ (F32_k2 R) (F32_q1 R))
def F32_q4 (R : Rt) : EQ := (blockQ 0 (F32_q3 R))
def F32_q5 (R : Rt) (J1 : (SV × Int) → World → Prop) : EQ := (thenQ (fun ρ _ w => dSl (ρ 10) fun l10 => dInt .i64 (ρ 11) fun n11 => J1 (l10, n11) w) (F32_q4 R))
def F32_2 (R : Rt) (J1 : (SV × Int) → World → Prop) (l0 : SV) (l6 : SV) (l9 : SV) (l10 : SV) (n11 : Int) (ds : Ds) (w : World) : Prop :=
 J1 (l10, (IntKind.i64.wrap (n11 + 1))) w
def F32_k6 (R : Rt) (J1 : (SV × Int) → World → Prop) : EP := (fun ρ ds w => dSl (ρ 0) fun l0 => dSl (ρ 6) fun l6 => dSl (ρ 9) fun l9 => dSl (ρ 10) fun l10 => dInt .i64 (ρ 11) fun n11 => F32_2 R J1 l0 l6 l9 l10 n11 ds w)
def F32_q7 (R : Rt) (J1 : (SV × Int) → World → Prop) : EQ := (thenQ (F32_k6 R J1) (F32_q5 R J1))
def F32_q8 (R : Rt) (J1 : (SV × Int) → World → Prop) : EQ := (blockQ 1 (F32_q7 R J1))
def F32_3 (R : Rt) (J1 : (SV × Int) → World → Prop) (l0 : SV) (l6 : SV) (l9 : SV) (l10 : SV) (n11 : Int) (p12 : Option Addr) (ds : Ds) (w : World) : Prop :=
 ptrE p12 fun a2 =>
 ∃ l108 : SV, w.cell? (a2.add 2) = some (.slice l108.a l108.len l108.cap) ∧
 Br (decide (((l108.len : Nat) : Int) > 0)) (
 ptrE p12 fun a3 =>
 ∃ s112_0 : ByteArray, w.cell? (a3.add 0) = some (.string s112_0) ∧
 ∃ n112_1 : Int, w.cell? (a3.add 1) = some (.int .i64 n112_1) ∧
 ∃ l112_2 : SV, w.cell? (a3.add 2) = some (.slice l112_2.a l112_2.len l112_2.cap) ∧
 ∃ l112_3 : SV, w.cell? (a3.add 3) = some (.slice l112_3.a l112_3.len l112_3.cap) ∧
 ∃ l112_4 : SV, w.cell? (a3.add 4) = some (.slice l112_4.a l112_4.len l112_4.cap) ∧
 alE (.cells #[.string s112_0, .int .i64 n112_1, .slice l112_2.a l112_2.len l112_2.cap, .slice l112_3.a l112_3.len l112_3.cap, .slice l112_4.a l112_4.len l112_4.cap] 33) w fun r113 w4 =>
 ∃ l114 : SV, ∃ w5 : World, (Builtin.append_ #[22, 22] 22 #[.slice l10.a l10.len l10.cap, .slice (some ⟨r113, 0, none⟩) 1 1]).run Try.prog w4 = .ok (.slice l114.a l114.len l114.cap) w5 ∧
 F32_2 R J1 l0 l6 l9 l114 n11 ds w5) (
 F32_2 R J1 l0 l6 l9 l10 n11 ds w)
def F32_k9 (R : Rt) (J1 : (SV × Int) → World → Prop) : EP := (fun ρ ds w => dSl (ρ 0) fun l0 => dSl (ρ 6) fun l6 => dSl (ρ 9) fun l9 => dSl (ρ 10) fun l10 => dInt .i64 (ρ 11) fun n11 => dPtr (ρ 12) fun p12 => F32_3 R J1 l0 l6 l9 l10 n11 p12 ds w)
def F32_q10 (R : Rt) (J1 : (SV × Int) → World → Prop) : EQ := (thenQ (F32_k9 R J1) (F32_q8 R J1))
def F32_q11 (R : Rt) (J1 : (SV × Int) → World → Prop) : EQ := (blockQ 2 (F32_q10 R J1))
def F32_q12 (R : Rt) (J1 : (SV × Int) → World → Prop) (J2 : (Int) → World → Prop) : EQ := (thenQ (fun ρ _ w => dInt .i64 (ρ 13) fun n13 => J2 n13 w) (F32_q11 R J1))
def F32_4 (R : Rt) (J1 : (SV × Int) → World → Prop) (J2 : (Int) → World → Prop) (l0 : SV) (l6 : SV) (l9 : SV) (l10 : SV) (n11 : Int) (p12 : Option Addr) (n13 : Int) (ds : Ds) (w : World) : Prop :=
 ∃ a6 : Addr, l0.a = some a6 ∧ 0 ≤ n11 ∧ n11 < ((l0.len : Nat) : Int) ∧
 ∃ l49 : SV, w.cell? ((a6.add (n11.toNat * 5)).add 2) = some (.slice l49.a l49.len l49.cap) ∧
 Br (decide (n13 < ((l49.len : Nat) : Int))) (
 ∃ a7 : Addr, l0.a = some a7 ∧ 0 ≤ n11 ∧ n11 < ((l0.len : Nat) : Int) ∧
 ∃ l60 : SV, w.cell? ((a7.add (n11.toNat * 5)).add 2) = some (.slice l60.a l60.len l60.cap) ∧
 ∃ a8 : Addr, l60.a = some a8 ∧ 0 ≤ n13 ∧ n13 < ((l60.len : Nat) : Int) ∧
 ∃ s63 : ByteArray, w.cell? (a8.add (n13.toNat * 1)) = some (.string s63) ∧
 Calls Try.prog 52 #[.slice l6.a l6.len l6.cap, .string s63] w fun e w9 =>
 ∃ n64 : Int, e = .returned (.int .i64 n64) ∧
 ∃ a10 : Addr, l9.a = some a10 ∧ 0 ≤ n64 ∧ n64 < ((l9.len : Nat) : Int) ∧
 ∃ b66 : Bool, w9.cell? (a10.add (n64.toNat * 1)) = some (.bool b66) ∧
 Br b66 (
 dwE w9 fun w11 =>
 ∃ S1 : World → Prop, S1 w11 ∧
 ptrE p12 fun a12 =>
 ∃ l68 : SV, (∀ w', S1 w' → w'.cell? (a12.add 2) = some (.slice l68.a l68.len l68.cap)) ∧
 ∃ a13 : Addr, l0.a = some a13 ∧ 0 ≤ n11 ∧ n11 < ((l0.len : Nat) : Int) ∧
 ∃ l73 : SV, (∀ w', S1 w' → w'.cell? ((a13.add (n11.toNat * 5)).add 2) = some (.slice l73.a l73.len l73.cap)) ∧
 ∃ a14 : Addr, l73.a = some a14 ∧ 0 ≤ n13 ∧ n13 < ((l73.len : Nat) : Int) ∧
 ∃ s76 : ByteArray, (∀ w', S1 w' → w'.cell? (a14.add (n13.toNat * 1)) = some (.string s76)) ∧
 alE (.cells #[.string s76] 9) w11 fun r77 w15 =>
 S1 w15 ∧
 ∃ l78 : SV, ∃ w16 : World, (Builtin.append_ #[23, 23] 23 #[.slice l68.a l68.len l68.cap, .slice (some ⟨r77, 0, none⟩) 1 1]).run Try.prog w15 = .ok (.slice l78.a l78.len l78.cap) w16 ∧
 ptrE p12 fun a17 =>
 st1 (a17.add 2) (.slice l78.a l78.len l78.cap) w16 fun w18 =>
 dwE w18 fun w19 =>
 ∃ S2 : World → Prop, S2 w19 ∧
 ptrE p12 fun a20 =>
 ∃ l81 : SV, (∀ w', S2 w' → w'.cell? (a20.add 3) = some (.slice l81.a l81.len l81.cap)) ∧
 ∃ a21 : Addr, l0.a = some a21 ∧ 0 ≤ n11 ∧ n11 < ((l0.len : Nat) : Int) ∧
 ∃ l86 : SV, (∀ w', S2 w' → w'.cell? ((a21.add (n11.toNat * 5)).add 3) = some (.slice l86.a l86.len l86.cap)) ∧
 ∃ a22 : Addr, l86.a = some a22 ∧ 0 ≤ n13 ∧ n13 < ((l86.len : Nat) : Int) ∧
 ∃ n89 : Int, (∀ w', S2 w' → w'.cell? (a22.add (n13.toNat * 1)) = some (.int .i64 n89)) ∧
 alE (.cells #[.int .i64 n89] 3) w19 fun r90 w23 =>
 S2 w23 ∧
 ∃ l91 : SV, ∃ w24 : World, (Builtin.append_ #[30, 30] 30 #[.slice l81.a l81.len l81.cap, .slice (some ⟨r90, 0, none⟩) 1 1]).run Try.prog w23 = .ok (.slice l91.a l91.len l91.cap) w24 ∧
 ptrE p12 fun a25 =>
 st1 (a25.add 3) (.slice l91.a l91.len l91.cap) w24 fun w26 =>
 dwE w26 fun w27 =>
 ∃ S3 : World → Prop, S3 w27 ∧
 ptrE p12 fun a28 =>
 ∃ l94 : SV, (∀ w', S3 w' → w'.cell? (a28.add 4) = some (.slice l94.a l94.len l94.cap)) ∧
 ∃ a29 : Addr, l0.a = some a29 ∧ 0 ≤ n11 ∧ n11 < ((l0.len : Nat) : Int) ∧
 ∃ l99 : SV, (∀ w', S3 w' → w'.cell? ((a29.add (n11.toNat * 5)).add 4) = some (.slice l99.a l99.len l99.cap)) ∧
 ∃ a30 : Addr, l99.a = some a30 ∧ 0 ≤ n13 ∧ n13 < ((l99.len : Nat) : Int) ∧
 ∃ l102 : SV, (∀ w', S3 w' → w'.cell? (a30.add (n13.toNat * 1)) = some (.slice l102.a l102.len l102.cap)) ∧
 ∃ l103 : SV, ∃ w31 : World, (Builtin.append_ #[23, 23] 23 #[.slice none 0 0, .slice l102.a l102.len l102.cap]).run Try.prog w27 = .ok (.slice l103.a l103.len l103.cap) w31 ∧
 S3 w31 ∧
 alE (.cells #[.slice l103.a l103.len l103.cap] 23) w31 fun r104 w32 =>
 S3 w32 ∧
 ∃ l105 : SV, ∃ w33 : World, (Builtin.append_ #[31, 31] 31 #[.slice l94.a l94.len l94.cap, .slice (some ⟨r104, 0, none⟩) 1 1]).run Try.prog w32 = .ok (.slice l105.a l105.len l105.cap) w33 ∧
 ptrE p12 fun a34 =>
 st1 (a34.add 4) (.slice l105.a l105.len l105.cap) w33 fun w35 =>
 J2 (IntKind.i64.wrap (n13 + 1)) w35) (
 J2 (IntKind.i64.wrap (n13 + 1)) w9)) (
 F32_3 R J1 l0 l6 l9 l10 n11 p12 ds w)
def F32_5 (R : Rt) (J1 : (SV × Int) → World → Prop) (l0 : SV) (l6 : SV) (l9 : SV) (l10 : SV) (n11 : Int) (p12 : Option Addr) (n13 : Int) (ds : Ds) (w : World) : Prop :=
 loopT (fun (J2 : (Int) → World → Prop) (s : Int) (w : World) => F32_4 R J1 J2 l0 l6 l9 l10 n11 p12 s ds w) n13 w
@[reducible] def F32_6 (R : Rt) (J1 : (SV × Int) → World → Prop) (l0 : SV) (l6 : SV) (l9 : SV) (l10 : SV) (n11 : Int) (p12 : Option Addr) (n13 : Int) (ds : Ds) (w : World) : Prop := F32_5 R J1 l0 l6 l9 l10 n11 p12 n13 ds w
def F32_k13 (R : Rt) (J1 : (SV × Int) → World → Prop) : EP := (fun ρ ds w => dSl (ρ 0) fun l0 => dSl (ρ 6) fun l6 => dSl (ρ 9) fun l9 => dSl (ρ 10) fun l10 => dInt .i64 (ρ 11) fun n11 => dPtr (ρ 12) fun p12 => dInt .i64 (ρ 13) fun n13 => F32_6 R J1 l0 l6 l9 l10 n11 p12 n13 ds w)
def F32_7 (R : Rt) (J1 : (SV × Int) → World → Prop) (l0 : SV) (l6 : SV) (l9 : SV) (l10 : SV) (n11 : Int) (ds : Ds) (w : World) : Prop :=
 dwE w fun w36 =>
 ∃ S4 : World → Prop, S4 w36 ∧
 ∃ a37 : Addr, l0.a = some a37 ∧ 0 ≤ n11 ∧ n11 < ((l0.len : Nat) : Int) ∧
 ∃ s37 : ByteArray, (∀ w', S4 w' → w'.cell? (a37.add (n11.toNat * 5)) = some (.string s37)) ∧
 ∃ a38 : Addr, l0.a = some a38 ∧ 0 ≤ n11 ∧ n11 < ((l0.len : Nat) : Int) ∧
 ∃ n42 : Int, (∀ w', S4 w' → w'.cell? ((a38.add (n11.toNat * 5)).add 1) = some (.int .i64 n42)) ∧
 alE (.cells #[.string (⟨#[]⟩ : ByteArray), .int .i64 0, .slice none 0 0, .slice none 0 0, .slice none 0 0] 33) w36 fun r12 w39 =>
 S4 w39 ∧
 stA Try.prog 33 (⟨r12, 0, none⟩ : Addr) #[.string s37, .int .i64 n42, .slice none 0 0, .slice none 0 0, .slice none 0 0] w39 fun w40 =>
 F32_6 R J1 l0 l6 l9 l10 n11 (some (⟨r12, 0, none⟩ : Addr)) 0 ds w40
@[reducible] def F32_8 (R : Rt) (J1 : (SV × Int) → World → Prop) (l0 : SV) (l6 : SV) (l9 : SV) (l10 : SV) (n11 : Int) (ds : Ds) (w : World) : Prop := F32_7 R J1 l0 l6 l9 l10 n11 ds w
def F32_k14 (R : Rt) (J1 : (SV × Int) → World → Prop) : EP := (fun ρ ds w => dSl (ρ 0) fun l0 => dSl (ρ 6) fun l6 => dSl (ρ 9) fun l9 => dSl (ρ 10) fun l10 => dInt .i64 (ρ 11) fun n11 => F32_8 R J1 l0 l6 l9 l10 n11 ds w)
def F32_9 (R : Rt) (J1 : (SV × Int) → World → Prop) (l0 : SV) (l6 : SV) (l9 : SV) (l10 : SV) (n11 : Int) (ds : Ds) (w : World) : Prop :=
 Br (decide (n11 < ((l0.len : Nat) : Int))) (
 F32_8 R J1 l0 l6 l9 l10 n11 ds w) (
 F32_1 R l10 ds w)
def F32_10 (R : Rt) (l0 : SV) (l6 : SV) (l9 : SV) (l10 : SV) (n11 : Int) (ds : Ds) (w : World) : Prop :=
 loopT (fun (J1 : (SV × Int) → World → Prop) (s : SV × Int) (w : World) => F32_9 R J1 l0 l6 l9 s.1 s.2 ds w) (l10, n11) w
@[reducible] def F32_11 (R : Rt) (l0 : SV) (l6 : SV) (l9 : SV) (l10 : SV) (n11 : Int) (ds : Ds) (w : World) : Prop := F32_10 R l0 l6 l9 l10 n11 ds w
def F32_k15 (R : Rt) : EP := (fun ρ ds w => dSl (ρ 0) fun l0 => dSl (ρ 6) fun l6 => dSl (ρ 9) fun l9 => dSl (ρ 10) fun l10 => dInt .i64 (ρ 11) fun n11 => F32_11 R l0 l6 l9 l10 n11 ds w)
def F32_12 (R : Rt) (l0 : SV) (s1 : ByteArray) (ds : Ds) (w : World) : Prop :=
 Calls Try.prog 51 #[.slice l0.a l0.len l0.cap, .string s1] w fun e w41 =>
 ∃ l17_0 : SV, ∃ n17_1 : Int, ∃ n17_2 : Int, e = .returned (.tuple #[.slice l17_0.a l17_0.len l17_0.cap, .int .i64 n17_1, .int .i64 n17_2]) ∧
 Br (n17_2 != 0) (
 runD Try.prog ds w41 fun w42 =>
 R (.returned (.tuple #[.slice none 0 0, .int .i64 n17_2])) w42) (
 Calls Try.prog 67 #[.slice l17_0.a l17_0.len l17_0.cap, .int .i64 n17_1] w41 fun e w43 =>
 ∃ l26 : SV, e = .returned (.slice l26.a l26.len l26.cap) ∧
 F32_11 R l0 l17_0 l26 ⟨none, 0, 0⟩ 0 ds w43)
theorem c32_l : flat (bodyOf Try.f32) = [c32_0, c32_1, c32_2, c32_3, c32_4, c32_5, c32_6, c32_7, c32_8, c32_9] := by kernel_rfl
theorem c32_7_l : flat (innerC c32_7) = [c32_7_0] := by kernel_rfl
theorem c32_7_0_l : flat (innerC c32_7_0) = [c32_7_0_0, c32_7_0_1, c32_7_0_2, c32_7_0_3] := by kernel_rfl
theorem c32_7_0_2_l : flat (innerC c32_7_0_2) = [c32_7_0_2_0, c32_7_0_2_1, c32_7_0_2_2, c32_7_0_2_3, c32_7_0_2_4] := by kernel_rfl
theorem c32_7_0_2_2_l : flat (innerC c32_7_0_2_2) = [c32_7_0_2_2_0] := by kernel_rfl
theorem c32_7_0_2_2_0_l : flat (innerC c32_7_0_2_2_0) = [c32_7_0_2_2_0_0, c32_7_0_2_2_0_1, c32_7_0_2_2_0_2, c32_7_0_2_2_0_3] := by kernel_rfl
theorem F32_1_ok (R : Rt) (l10 : SV) (ds : Ds) (w : World) (ρ : Env) (e10 : ρ 10 = .slice l10.a l10.len l10.cap) (h : F32_1 R l10 ds w) :
    TrL Try.prog Try.f32.ntmps [c32_8, c32_9] (F32_q1 R) ρ ds w :=
  TrL_leaf (X := F32_1 R l10 ds w) (setAll_cons e10 setAll_nil) (by kernel_rfl) (by kernel_rfl) h
theorem F32_2_ok (R : Rt) (J1 : (SV × Int) → World → Prop) (l0 : SV) (l6 : SV) (l9 : SV) (l10 : SV) (n11 : Int) (ds : Ds) (w : World) (ρ : Env) (e0 : ρ 0 = .slice l0.a l0.len l0.cap) (e6 : ρ 6 = .slice l6.a l6.len l6.cap) (e9 : ρ 9 = .slice l9.a l9.len l9.cap) (e10 : ρ 10 = .slice l10.a l10.len l10.cap) (e11 : ρ 11 = .int .i64 n11) (h : F32_2 R J1 l0 l6 l9 l10 n11 ds w) :
    TrL Try.prog Try.f32.ntmps [c32_7_0_3] (F32_q5 R J1) ρ ds w :=
  TrL_leaf (X := F32_2 R J1 l0 l6 l9 l10 n11 ds w) (setAll_cons e0 (setAll_cons e6 (setAll_cons e9 (setAll_cons e10 (setAll_cons e11 setAll_nil))))) (by kernel_rfl) (by kernel_rfl) h
theorem F32_3_ok (R : Rt) (J1 : (SV × Int) → World → Prop) (l0 : SV) (l6 : SV) (l9 : SV) (l10 : SV) (n11 : Int) (p12 : Option Addr) (ds : Ds) (w : World) (ρ : Env) (e0 : ρ 0 = .slice l0.a l0.len l0.cap) (e6 : ρ 6 = .slice l6.a l6.len l6.cap) (e9 : ρ 9 = .slice l9.a l9.len l9.cap) (e10 : ρ 10 = .slice l10.a l10.len l10.cap) (e11 : ρ 11 = .int .i64 n11) (e12 : ρ 12 = .pointer p12) (h : F32_3 R J1 l0 l6 l9 l10 n11 p12 ds w) :
    TrL Try.prog Try.f32.ntmps [c32_7_0_2_3, c32_7_0_2_4] (F32_q8 R J1) ρ ds w :=
  TrL_leaf (X := F32_3 R J1 l0 l6 l9 l10 n11 p12 ds w) (setAll_cons e0 (setAll_cons e6 (setAll_cons e9 (setAll_cons e10 (setAll_cons e11 (setAll_cons e12 setAll_nil)))))) (by kernel_rfl) (by kernel_rfl) h
theorem F32_4_ok (R : Rt) (J1 : (SV × Int) → World → Prop) (J2 : (Int) → World → Prop) (l0 : SV) (l6 : SV) (l9 : SV) (l10 : SV) (n11 : Int) (p12 : Option Addr) (n13 : Int) (ds : Ds) (w : World) (ρ : Env) (e0 : ρ 0 = .slice l0.a l0.len l0.cap) (e6 : ρ 6 = .slice l6.a l6.len l6.cap) (e9 : ρ 9 = .slice l9.a l9.len l9.cap) (e10 : ρ 10 = .slice l10.a l10.len l10.cap) (e11 : ρ 11 = .int .i64 n11) (e12 : ρ 12 = .pointer p12) (e13 : ρ 13 = .int .i64 n13) (h : F32_4 R J1 J2 l0 l6 l9 l10 n11 p12 n13 ds w) :
    TrL Try.prog Try.f32.ntmps [c32_7_0_2_2_0_0, c32_7_0_2_2_0_1, c32_7_0_2_2_0_2, c32_7_0_2_2_0_3] (F32_q12 R J1 J2) ρ ds w :=
  TrL_leaf (X := F32_4 R J1 J2 l0 l6 l9 l10 n11 p12 n13 ds w) (setAll_cons e0 (setAll_cons e6 (setAll_cons e9 (setAll_cons e10 (setAll_cons e11 (setAll_cons e12 (setAll_cons e13 setAll_nil))))))) (by kernel_rfl) (by kernel_rfl) h
theorem F32_5_ok (R : Rt) (J1 : (SV × Int) → World → Prop) (l0 : SV) (l6 : SV) (l9 : SV) (l10 : SV) (n11 : Int) (p12 : Option Addr) (n13 : Int) (ds : Ds) (w : World) (ρ : Env) (e0 : ρ 0 = .slice l0.a l0.len l0.cap) (e6 : ρ 6 = .slice l6.a l6.len l6.cap) (e9 : ρ 9 = .slice l9.a l9.len l9.cap) (e10 : ρ 10 = .slice l10.a l10.len l10.cap) (e11 : ρ 11 = .int .i64 n11) (e12 : ρ 12 = .pointer p12) (e13 : ρ 13 = .int .i64 n13) (h : F32_5 R J1 l0 l6 l9 l10 n11 p12 n13 ds w) :
    TrL Try.prog Try.f32.ntmps [c32_7_0_2_2_0] (F32_q11 R J1) ρ ds w :=
  TrL_one (Tr_loop' (c := innerC c32_7_0_2_2_0) (σ := Int) (enc := (fun (s : Int) (ρ : Env) => ρ 13 = .int .i64 s)) (D := (fun ρ K => dInt .i64 (ρ 13) fun n13 => K n13)) (F := (fun (J2 : (Int) → World → Prop) (s : Int) (w : World) => F32_4 R J1 J2 l0 l6 l9 l10 n11 p12 s ds w)) (s0 := n13) (by kernel_rfl) c32_7_0_2_2_0_l e13 (by kernel_rfl) (fun ρ K hD => by obtain ⟨n13, e13, hD⟩ := dInt_elim hD; exact ⟨n13, e13, hD⟩)
      (fun J2 s ρ' w' he ha hF => by
      have e13' := he
      exact F32_4_ok R J1 J2 l0 l6 l9 l10 n11 p12 s ds w' ρ' ((ha 0 (by kernel_rfl)).trans e0) ((ha 6 (by kernel_rfl)).trans e6) ((ha 9 (by kernel_rfl)).trans e9) ((ha 10 (by kernel_rfl)).trans e10) ((ha 11 (by kernel_rfl)).trans e11) ((ha 12 (by kernel_rfl)).trans e12) e13' hF) h)
theorem F32_6_ok (R : Rt) (J1 : (SV × Int) → World → Prop) (l0 : SV) (l6 : SV) (l9 : SV) (l10 : SV) (n11 : Int) (p12 : Option Addr) (n13 : Int) (ds : Ds) (w : World) (ρ : Env) (e0 : ρ 0 = .slice l0.a l0.len l0.cap) (e6 : ρ 6 = .slice l6.a l6.len l6.cap) (e9 : ρ 9 = .slice l9.a l9.len l9.cap) (e10 : ρ 10 = .slice l10.a l10.len l10.cap) (e11 : ρ 11 = .int .i64 n11) (e12 : ρ 12 = .pointer p12) (e13 : ρ 13 = .int .i64 n13) (h : F32_6 R J1 l0 l6 l9 l10 n11 p12 n13 ds w) :
    TrL Try.prog Try.f32.ntmps [c32_7_0_2_2, c32_7_0_2_3, c32_7_0_2_4] (F32_q8 R J1) ρ ds w :=
  TrL_head (K := (F32_k9 R J1)) (Tr_block' (c := innerC c32_7_0_2_2) (by kernel_rfl) c32_7_0_2_2_l (F32_5_ok R J1 l0 l6 l9 l10 n11 p12 n13 ds w ρ e0 e6 e9 e10 e11 e12 e13 h))
    (fun ρ' ds' w' hD => by
      obtain ⟨l0, e0, hD⟩ := dSl_elim hD; obtain ⟨l6, e6, hD⟩ := dSl_elim hD; obtain ⟨l9, e9, hD⟩ := dSl_elim hD; obtain ⟨l10, e10, hD⟩ := dSl_elim hD; obtain ⟨n11, e11, hD⟩ := dInt_elim hD; obtain ⟨p12, e12, hD⟩ := dPtr_elim hD; exact F32_3_ok R J1 l0 l6 l9 l10 n11 p12 ds' w' ρ' e0 e6 e9 e10 e11 e12 hD)
theorem F32_7_ok (R : Rt) (J1 : (SV × Int) → World → Prop) (l0 : SV) (l6 : SV) (l9 : SV) (l10 : SV) (n11 : Int) (ds : Ds) (w : World) (ρ : Env) (e0 : ρ 0 = .slice l0.a l0.len l0.cap) (e6 : ρ 6 = .slice l6.a l6.len l6.cap) (e9 : ρ 9 = .slice l9.a l9.len l9.cap) (e10 : ρ 10 = .slice l10.a l10.len l10.cap) (e11 : ρ 11 = .int .i64 n11) (h : F32_7 R J1 l0 l6 l9 l10 n11 ds w) :
    TrL Try.prog Try.f32.ntmps [c32_7_0_2_0, c32_7_0_2_1, c32_7_0_2_2, c32_7_0_2_3, c32_7_0_2_4] (F32_q8 R J1) ρ ds w :=
  TrL_piece (pre := [c32_7_0_2_0, c32_7_0_2_1]) (K := (F32_k13 R J1)) (X := F32_7 R J1 l0 l6 l9 l10 n11 ds w) (setAll_cons e0 (setAll_cons e6 (setAll_cons e9 (setAll_cons e10 (setAll_cons e11 setAll_nil))))) (by kernel_rfl) (by kernel_rfl)
    (fun ρ' ds' w' hD => by
      obtain ⟨l0, e0, hD⟩ := dSl_elim hD; obtain ⟨l6, e6, hD⟩ := dSl_elim hD; obtain ⟨l9, e9, hD⟩ := dSl_elim hD; obtain ⟨l10, e10, hD⟩ := dSl_elim hD; obtain ⟨n11, e11, hD⟩ := dInt_elim hD; obtain ⟨p12, e12, hD⟩ := dPtr_elim hD; obtain ⟨n13, e13, hD⟩ := dInt_elim hD; exact F32_6_ok R J1 l0 l6 l9 l10 n11 p12 n13 ds' w' ρ' e0 e6 e9 e10 e11 e12 e13 hD) h
theorem F32_8_ok (R : Rt) (J1 : (SV × Int) → World → Prop) (l0 : SV) (l6 : SV) (l9 : SV) (l10 : SV) (n11 : Int) (ds : Ds) (w : World) (ρ : Env) (e0 : ρ 0 = .slice l0.a l0.len l0.cap) (e6 : ρ 6 = .slice l6.a l6.len l6.cap) (e9 : ρ 9 = .slice l9.a l9.len l9.cap) (e10 : ρ 10 = .slice l10.a l10.len l10.cap) (e11 : ρ 11 = .int .i64 n11) (h : F32_8 R J1 l0 l6 l9 l10 n11 ds w) :
    TrL Try.prog Try.f32.ntmps [c32_7_0_2, c32_7_0_3] (F32_q5 R J1) ρ ds w :=
  TrL_head (K := (F32_k6 R J1)) (Tr_block' (c := innerC c32_7_0_2) (by kernel_rfl) c32_7_0_2_l (F32_7_ok R J1 l0 l6 l9 l10 n11 ds w ρ e0 e6 e9 e10 e11 h))
    (fun ρ' ds' w' hD => by
      obtain ⟨l0, e0, hD⟩ := dSl_elim hD; obtain ⟨l6, e6, hD⟩ := dSl_elim hD; obtain ⟨l9, e9, hD⟩ := dSl_elim hD; obtain ⟨l10, e10, hD⟩ := dSl_elim hD; obtain ⟨n11, e11, hD⟩ := dInt_elim hD; exact F32_2_ok R J1 l0 l6 l9 l10 n11 ds' w' ρ' e0 e6 e9 e10 e11 hD)
theorem F32_9_ok (R : Rt) (J1 : (SV × Int) → World → Prop) (l0 : SV) (l6 : SV) (l9 : SV) (l10 : SV) (n11 : Int) (ds : Ds) (w : World) (ρ : Env) (e0 : ρ 0 = .slice l0.a l0.len l0.cap) (e6 : ρ 6 = .slice l6.a l6.len l6.cap) (e9 : ρ 9 = .slice l9.a l9.len l9.cap) (e10 : ρ 10 = .slice l10.a l10.len l10.cap) (e11 : ρ 11 = .int .i64 n11) (h : F32_9 R J1 l0 l6 l9 l10 n11 ds w) :
    TrL Try.prog Try.f32.ntmps [c32_7_0_0, c32_7_0_1, c32_7_0_2, c32_7_0_3] (F32_q5 R J1) ρ ds w :=
  TrL_piece (pre := [c32_7_0_0, c32_7_0_1]) (K := (F32_k14 R J1)) (X := F32_9 R J1 l0 l6 l9 l10 n11 ds w) (setAll_cons e0 (setAll_cons e6 (setAll_cons e9 (setAll_cons e10 (setAll_cons e11 setAll_nil))))) (by kernel_rfl) (by kernel_rfl)
    (fun ρ' ds' w' hD => by
      obtain ⟨l0, e0, hD⟩ := dSl_elim hD; obtain ⟨l6, e6, hD⟩ := dSl_elim hD; obtain ⟨l9, e9, hD⟩ := dSl_elim hD; obtain ⟨l10, e10, hD⟩ := dSl_elim hD; obtain ⟨n11, e11, hD⟩ := dInt_elim hD; exact F32_8_ok R J1 l0 l6 l9 l10 n11 ds' w' ρ' e0 e6 e9 e10 e11 hD) h
theorem F32_10_ok (R : Rt) (l0 : SV) (l6 : SV) (l9 : SV) (l10 : SV) (n11 : Int) (ds : Ds) (w : World) (ρ : Env) (e0 : ρ 0 = .slice l0.a l0.len l0.cap) (e6 : ρ 6 = .slice l6.a l6.len l6.cap) (e9 : ρ 9 = .slice l9.a l9.len l9.cap) (e10 : ρ 10 = .slice l10.a l10.len l10.cap) (e11 : ρ 11 = .int .i64 n11) (h : F32_10 R l0 l6 l9 l10 n11 ds w) :
    TrL Try.prog Try.f32.ntmps [c32_7_0] (F32_q4 R) ρ ds w :=
  TrL_one (Tr_loop' (c := innerC c32_7_0) (σ := SV × Int) (enc := (fun (s : SV × Int) (ρ : Env) => ρ 10 = .slice s.1.a s.1.len s.1.cap ∧ ρ 11 = .int .i64 s.2)) (D := (fun ρ K => dSl (ρ 10) fun l10 => dInt .i64 (ρ 11) fun n11 => K (l10, n11))) (F := (fun (J1 : (SV × Int) → World → Prop) (s : SV × Int) (w : World) => F32_9 R J1 l0 l6 l9 s.1 s.2 ds w)) (s0 := (l10, n11)) (by kernel_rfl) c32_7_0_l ⟨e10, e11⟩ (by kernel_rfl) (fun ρ K hD => by obtain ⟨l10, e10, hD⟩ := dSl_elim hD; obtain ⟨n11, e11, hD⟩ := dInt_elim hD; exact ⟨(l10, n11), ⟨e10, e11⟩, hD⟩)
      (fun J1 s ρ' w' he ha hF => by
      obtain ⟨e10', e11'⟩ := he
      exact F32_9_ok R J1 l0 l6 l9 s.1 s.2 ds w' ρ' ((ha 0 (by kernel_rfl)).trans e0) ((ha 6 (by kernel_rfl)).trans e6) ((ha 9 (by kernel_rfl)).trans e9) e10' e11' hF) h)
theorem F32_11_ok (R : Rt) (l0 : SV) (l6 : SV) (l9 : SV) (l10 : SV) (n11 : Int) (ds : Ds) (w : World) (ρ : Env) (e0 : ρ 0 = .slice l0.a l0.len l0.cap) (e6 : ρ 6 = .slice l6.a l6.len l6.cap) (e9 : ρ 9 = .slice l9.a l9.len l9.cap) (e10 : ρ 10 = .slice l10.a l10.len l10.cap) (e11 : ρ 11 = .int .i64 n11) (h : F32_11 R l0 l6 l9 l10 n11 ds w) :
    TrL Try.prog Try.f32.ntmps [c32_7, c32_8, c32_9] (F32_q1 R) ρ ds w :=
  TrL_head (K := (F32_k2 R)) (Tr_block' (c := innerC c32_7) (by kernel_rfl) c32_7_l (F32_10_ok R l0 l6 l9 l10 n11 ds w ρ e0 e6 e9 e10 e11 h))
    (fun ρ' ds' w' hD => by
      obtain ⟨l10, e10, hD⟩ := dSl_elim hD; exact F32_1_ok R l10 ds' w' ρ' e10 hD)
theorem F32_12_ok (R : Rt) (l0 : SV) (s1 : ByteArray) (ds : Ds) (w : World) (ρ : Env) (e0 : ρ 0 = .slice l0.a l0.len l0.cap) (e1 : ρ 1 = .string s1) (h : F32_12 R l0 s1 ds w) :
    TrL Try.prog Try.f32.ntmps [c32_0, c32_1, c32_2, c32_3, c32_4, c32_5, c32_6, c32_7, c32_8, c32_9] (F32_q1 R) ρ ds w :=
  TrL_piece (pre := [c32_0, c32_1, c32_2, c32_3, c32_4, c32_5, c32_6]) (K := (F32_k15 R)) (X := F32_12 R l0 s1 ds w) (setAll_cons e0 (setAll_cons e1 setAll_nil)) (by kernel_rfl) (by kernel_rfl)
    (fun ρ' ds' w' hD => by
      obtain ⟨l0, e0, hD⟩ := dSl_elim hD; obtain ⟨l6, e6, hD⟩ := dSl_elim hD; obtain ⟨l9, e9, hD⟩ := dSl_elim hD; obtain ⟨l10, e10, hD⟩ := dSl_elim hD; obtain ⟨n11, e11, hD⟩ := dInt_elim hD; exact F32_11_ok R l0 l6 l9 l10 n11 ds' w' ρ' e0 e6 e9 e10 e11 hD) h
theorem F32_calls (l0 : SV) (s1 : ByteArray) (w : World) (R : Rt) (h : F32_12 R l0 s1 [] w) : Calls Try.prog 32 #[.slice l0.a l0.len l0.cap, .string s1] w R :=
  calls_of_L (l := [c32_0, c32_1, c32_2, c32_3, c32_4, c32_5, c32_6, c32_7, c32_8, c32_9]) Try.func32 (by kernel_rfl) (by rw [Try.ntmps32]; exact Nat.le_of_ble_eq_true (by kernel_rfl)) c32_l
    (F32_12_ok R l0 s1 [] w _ rfl rfl h)
theorem F32_callsD (l0 : SV) (s1 : ByteArray) (w : World) (R : Rt) (u : FrameMode) (h : F32_12 R l0 s1 [] w) : CallsD Try.prog 32 #[.slice l0.a l0.len l0.cap, .string s1] u w fun e u' w' => u' = u ∧ R e w' :=
  callsD_of_L (l := [c32_0, c32_1, c32_2, c32_3, c32_4, c32_5, c32_6, c32_7, c32_8, c32_9]) Try.func32 (by kernel_rfl) (by rw [Try.ntmps32]; exact Nat.le_of_ble_eq_true (by kernel_rfl)) (by kernel_rfl) c32_l
    (F32_12_ok R l0 s1 [] w _ rfl rfl h) u

/-! function 33: cabinetry/cabinetryref24.Same -/
noncomputable def c33_0 : Code := itemAt (flat (bodyOf Try.f33)) 0
noncomputable def c33_1 : Code := itemAt (flat (bodyOf Try.f33)) 1
noncomputable def c33_2 : Code := itemAt (flat (bodyOf Try.f33)) 2
noncomputable def c33_3 : Code := itemAt (flat (bodyOf Try.f33)) 3
noncomputable def c33_4 : Code := itemAt (flat (bodyOf Try.f33)) 4
noncomputable def c33_5 : Code := itemAt (flat (bodyOf Try.f33)) 5
noncomputable def c33_6 : Code := itemAt (flat (bodyOf Try.f33)) 6
noncomputable def c33_4_0 : Code := itemAt (flat (innerC c33_4)) 0
noncomputable def c33_4_0_0 : Code := itemAt (flat (innerC c33_4_0)) 0
noncomputable def c33_4_0_1 : Code := itemAt (flat (innerC c33_4_0)) 1
noncomputable def c33_4_0_2 : Code := itemAt (flat (innerC c33_4_0)) 2
noncomputable def c33_4_0_3 : Code := itemAt (flat (innerC c33_4_0)) 3
noncomputable def c33_4_0_2_0 : Code := itemAt (flat (innerC c33_4_0_2)) 0
noncomputable def c33_4_0_2_1 : Code := itemAt (flat (innerC c33_4_0_2)) 1
noncomputable def c33_4_0_2_2 : Code := itemAt (flat (innerC c33_4_0_2)) 2
noncomputable def c33_4_0_2_3 : Code := itemAt (flat (innerC c33_4_0_2)) 3
noncomputable def c33_4_0_2_4 : Code := itemAt (flat (innerC c33_4_0_2)) 4
noncomputable def c33_4_0_2_5 : Code := itemAt (flat (innerC c33_4_0_2)) 5
noncomputable def c33_4_0_2_6 : Code := itemAt (flat (innerC c33_4_0_2)) 6
noncomputable def c33_4_0_2_6_0 : Code := itemAt (flat (innerC c33_4_0_2_6)) 0
noncomputable def c33_4_0_2_6_0_0 : Code := itemAt (flat (innerC c33_4_0_2_6_0)) 0
noncomputable def c33_4_0_2_6_0_1 : Code := itemAt (flat (innerC c33_4_0_2_6_0)) 1
noncomputable def c33_4_0_2_6_0_2 : Code := itemAt (flat (innerC c33_4_0_2_6_0)) 2
noncomputable def c33_4_0_2_6_0_3 : Code := itemAt (flat (innerC c33_4_0_2_6_0)) 3
noncomputable def c33_4_0_2_4_0 : Code := itemAt (flat (innerC c33_4_0_2_4)) 0
noncomputable def c33_4_0_2_4_0_0 : Code := itemAt (flat (innerC c33_4_0_2_4_0)) 0
noncomputable def c33_4_0_2_4_0_1 : Code := itemAt (flat (innerC c33_4_0_2_4_0)) 1
noncomputable def c33_4_0_2_4_0_2 : Code := itemAt (flat (innerC c33_4_0_2_4_0)) 2
noncomputable def c33_4_0_2_4_0_3 : Code := itemAt (flat (innerC c33_4_0_2_4_0)) 3
def F33_q1 (R : Rt) : EQ := endQ Try.prog Try.f33.results.toList R
def F33_1 (R : Rt) (ds : Ds) (w : World) : Prop :=
 runD Try.prog ds w fun w1 =>
 R (.returned (.bool true)) w1
def F33_k2 (R : Rt) : EP := (fun ρ ds w => F33_1 R ds w)
def F33_q3 (R : Rt) : EQ := (thenQ (F33_k2 R) (F33_q1 R))
def F33_q4 (R : Rt) : EQ := (blockQ 0 (F33_q3 R))
def F33_q5 (R : Rt) (J1 : (Int) → World → Prop) : EQ := (thenQ (fun ρ _ w => dInt .i64 (ρ 5) fun n5 => J1 n5 w) (F33_q4 R))
def F33_2 (R : Rt) (J1 : (Int) → World → Prop) (l0 : SV) (l1 : SV) (n5 : Int) (ds : Ds) (w : World) : Prop :=
 J1 (IntKind.i64.wrap (n5 + 1)) w
def F33_k6 (R : Rt) (J1 : (Int) → World → Prop) : EP := (fun ρ ds w => dSl (ρ 0) fun l0 => dSl (ρ 1) fun l1 => dInt .i64 (ρ 5) fun n5 => F33_2 R J1 l0 l1 n5 ds w)
def F33_q7 (R : Rt) (J1 : (Int) → World → Prop) : EQ := (thenQ (F33_k6 R J1) (F33_q5 R J1))
def F33_q8 (R : Rt) (J1 : (Int) → World → Prop) : EQ := (blockQ 1 (F33_q7 R J1))
def F33_q9 (R : Rt) (J1 : (Int) → World → Prop) : EQ := (blockQ 4 (F33_q8 R J1))
def F33_q10 (R : Rt) (J1 : (Int) → World → Prop) (J2 : (Int) → World → Prop) : EQ := (thenQ (fun ρ _ w => dInt .i64 (ρ 9) fun n9 => J2 n9 w) (F33_q9 R J1))
def F33_3 (R : Rt) (J1 : (Int) → World → Prop) (J2 : (Int) → World → Prop) (l0 : SV) (l1 : SV) (n5 : Int) (p6 : Option Addr) (p7 : Option Addr) (n9 : Int) (ds : Ds) (w : World) : Prop :=
 ptrE p6 fun a2 =>
 ∃ l87 : SV, w.cell? (a2.add 4) = some (.slice l87.a l87.len l87.cap) ∧
 Br (decide (n9 < ((l87.len : Nat) : Int))) (
 dwE w fun w3 =>
 ptrE p6 fun a4 =>
 ∃ l93 : SV, w3.cell? (a4.add 4) = some (.slice l93.a l93.len l93.cap) ∧
 ∃ a5 : Addr, l93.a = some a5 ∧ 0 ≤ n9 ∧ n9 < ((l93.len : Nat) : Int) ∧
 ∃ l96 : SV, w3.cell? (a5.add (n9.toNat * 1)) = some (.slice l96.a l96.len l96.cap) ∧
 ptrE p7 fun a6 =>
 ∃ l98 : SV, w3.cell? (a6.add 4) = some (.slice l98.a l98.len l98.cap) ∧
 ∃ a7 : Addr, l98.a = some a7 ∧ 0 ≤ n9 ∧ n9 < ((l98.len : Nat) : Int) ∧
 ∃ l101 : SV, w3.cell? (a7.add (n9.toNat * 1)) = some (.slice l101.a l101.len l101.cap) ∧
 Calls Try.prog 70 #[.slice l96.a l96.len l96.cap, .slice l101.a l101.len l101.cap] w3 fun e w8 =>
 ∃ b102 : Bool, e = .returned (.bool b102) ∧
 Br (!b102) (
 runD Try.prog ds w8 fun w9 =>
 R (.returned (.bool false)) w9) (
 J2 (IntKind.i64.wrap (n9 + 1)) w8)) (
 F33_2 R J1 l0 l1 n5 ds w)
def F33_4 (R : Rt) (J1 : (Int) → World → Prop) (l0 : SV) (l1 : SV) (n5 : Int) (p6 : Option Addr) (p7 : Option Addr) (n9 : Int) (ds : Ds) (w : World) : Prop :=
 loopT (fun (J2 : (Int) → World → Prop) (s : Int) (w : World) => F33_3 R J1 J2 l0 l1 n5 p6 p7 s ds w) n9 w
@[reducible] def F33_5 (R : Rt) (J1 : (Int) → World → Prop) (l0 : SV) (l1 : SV) (n5 : Int) (p6 : Option Addr) (p7 : Option Addr) (n9 : Int) (ds : Ds) (w : World) : Prop := F33_4 R J1 l0 l1 n5 p6 p7 n9 ds w
def F33_k11 (R : Rt) (J1 : (Int) → World → Prop) : EP := (fun ρ ds w => dSl (ρ 0) fun l0 => dSl (ρ 1) fun l1 => dInt .i64 (ρ 5) fun n5 => dPtr (ρ 6) fun p6 => dPtr (ρ 7) fun p7 => dInt .i64 (ρ 9) fun n9 => F33_5 R J1 l0 l1 n5 p6 p7 n9 ds w)
def F33_6 (R : Rt) (J1 : (Int) → World → Prop) (l0 : SV) (l1 : SV) (n5 : Int) (p6 : Option Addr) (p7 : Option Addr) (ds : Ds) (w : World) : Prop :=
 F33_5 R J1 l0 l1 n5 p6 p7 0 ds w
def F33_k12 (R : Rt) (J1 : (Int) → World → Prop) : EP := (fun ρ ds w => dSl (ρ 0) fun l0 => dSl (ρ 1) fun l1 => dInt .i64 (ρ 5) fun n5 => dPtr (ρ 6) fun p6 => dPtr (ρ 7) fun p7 => F33_6 R J1 l0 l1 n5 p6 p7 ds w)
def F33_q13 (R : Rt) (J1 : (Int) → World → Prop) : EQ := (thenQ (F33_k12 R J1) (F33_q8 R J1))
def F33_q14 (R : Rt) (J1 : (Int) → World → Prop) : EQ := (blockQ 2 (F33_q13 R J1))
def F33_q15 (R : Rt) (J1 : (Int) → World → Prop) (J2 : (Int) → World → Prop) : EQ := (thenQ (fun ρ _ w => dInt .i64 (ρ 8) fun n8 => J2 n8 w) (F33_q14 R J1))
def F33_7 (R : Rt) (J1 : (Int) → World → Prop) (J2 : (Int) → World → Prop) (l0 : SV) (l1 : SV) (n5 : Int) (p6 : Option Addr) (p7 : Option Addr) (n8 : Int) (ds : Ds) (w : World) : Prop :=
 ptrE p6 fun a10 =>
 ∃ l69 : SV, w.cell? (a10.add 3) = some (.slice l69.a l69.len l69.cap) ∧
 Br (decide (n8 < ((l69.len : Nat) : Int))) (
 dwE w fun w11 =>
 ptrE p6 fun a12 =>
 ∃ l75 : SV, w11.cell? (a12.add 3) = some (.slice l75.a l75.len l75.cap) ∧
 ∃ a13 : Addr, l75.a = some a13 ∧ 0 ≤ n8 ∧ n8 < ((l75.len : Nat) : Int) ∧
 ∃ n78 : Int, w11.cell? (a13.add (n8.toNat * 1)) = some (.int .i64 n78) ∧
 ptrE p7 fun a14 =>
 ∃ l80 : SV, w11.cell? (a14.add 3) = some (.slice l80.a l80.len l80.cap) ∧
 ∃ a15 : Addr, l80.a = some a15 ∧ 0 ≤ n8 ∧ n8 < ((l80.len : Nat) : Int) ∧
 ∃ n83 : Int, w11.cell? (a15.add (n8.toNat * 1)) = some (.int .i64 n83) ∧
 Br (n78 != n83) (
 runD Try.prog ds w11 fun w16 =>
 R (.returned (.bool false)) w16) (
 J2 (IntKind.i64.wrap (n8 + 1)) w11)) (
 F33_6 R J1 l0 l1 n5 p6 p7 ds w)
def F33_8 (R : Rt) (J1 : (Int) → World → Prop) (l0 : SV) (l1 : SV) (n5 : Int) (p6 : Option Addr) (p7 : Option Addr) (n8 : Int) (ds : Ds) (w : World) : Prop :=
 loopT (fun (J2 : (Int) → World → Prop) (s : Int) (w : World) => F33_7 R J1 J2 l0 l1 n5 p6 p7 s ds w) n8 w
@[reducible] def F33_9 (R : Rt) (J1 : (Int) → World → Prop) (l0 : SV) (l1 : SV) (n5 : Int) (p6 : Option Addr) (p7 : Option Addr) (n8 : Int) (ds : Ds) (w : World) : Prop := F33_8 R J1 l0 l1 n5 p6 p7 n8 ds w
def F33_k16 (R : Rt) (J1 : (Int) → World → Prop) : EP := (fun ρ ds w => dSl (ρ 0) fun l0 => dSl (ρ 1) fun l1 => dInt .i64 (ρ 5) fun n5 => dPtr (ρ 6) fun p6 => dPtr (ρ 7) fun p7 => dInt .i64 (ρ 8) fun n8 => F33_9 R J1 l0 l1 n5 p6 p7 n8 ds w)
def F33_10 (R : Rt) (J1 : (Int) → World → Prop) (l0 : SV) (l1 : SV) (n5 : Int) (p6 : Option Addr) (p7 : Option Addr) (b66 : Bool) (ds : Ds) (w : World) : Prop :=
 Br b66 (
 runD Try.prog ds w fun w17 =>
 R (.returned (.bool false)) w17) (
 F33_9 R J1 l0 l1 n5 p6 p7 0 ds w)
def F33_k17 (R : Rt) (J1 : (Int) → World → Prop) : EP := (fun ρ ds w => dSl (ρ 0) fun l0 => dSl (ρ 1) fun l1 => dInt .i64 (ρ 5) fun n5 => dPtr (ρ 6) fun p6 => dPtr (ρ 7) fun p7 => dBl (ρ 66) fun b66 => F33_10 R J1 l0 l1 n5 p6 p7 b66 ds w)
def F33_11 (R : Rt) (J1 : (Int) → World → Prop) (l0 : SV) (l1 : SV) (n5 : Int) (p6 : Option Addr) (p7 : Option Addr) (ds : Ds) (w : World) : Prop :=
 ptrE p6 fun a18 =>
 ∃ s30 : ByteArray, w.cell? a18 = some (.string s30) ∧
 ptrE p7 fun a19 =>
 ∃ s32 : ByteArray, w.cell? a19 = some (.string s32) ∧
 Br (!(s30.toList == s32.toList)) (
 F33_10 R J1 l0 l1 n5 p6 p7 true ds w) (
 ptrE p6 fun a20 =>
 ∃ n36 : Int, w.cell? (a20.add 1) = some (.int .i64 n36) ∧
 ptrE p7 fun a21 =>
 ∃ n38 : Int, w.cell? (a21.add 1) = some (.int .i64 n38) ∧
 Br (n36 != n38) (
 F33_10 R J1 l0 l1 n5 p6 p7 true ds w) (
 ptrE p6 fun a22 =>
 ∃ l43 : SV, w.cell? (a22.add 2) = some (.slice l43.a l43.len l43.cap) ∧
 ptrE p7 fun a23 =>
 ∃ l45 : SV, w.cell? (a23.add 2) = some (.slice l45.a l45.len l45.cap) ∧
 Calls Try.prog 70 #[.slice l43.a l43.len l43.cap, .slice l45.a l45.len l45.cap] w fun e w24 =>
 ∃ b46 : Bool, e = .returned (.bool b46) ∧
 Br (!b46) (
 F33_10 R J1 l0 l1 n5 p6 p7 true ds w24) (
 ptrE p6 fun a25 =>
 ∃ l51 : SV, w24.cell? (a25.add 3) = some (.slice l51.a l51.len l51.cap) ∧
 ptrE p7 fun a26 =>
 ∃ l54 : SV, w24.cell? (a26.add 3) = some (.slice l54.a l54.len l54.cap) ∧
 Br (((l51.len : Nat) : Int) != ((l54.len : Nat) : Int)) (
 F33_10 R J1 l0 l1 n5 p6 p7 true ds w24) (
 ptrE p6 fun a27 =>
 ∃ l60 : SV, w24.cell? (a27.add 4) = some (.slice l60.a l60.len l60.cap) ∧
 ptrE p7 fun a28 =>
 ∃ l63 : SV, w24.cell? (a28.add 4) = some (.slice l63.a l63.len l63.cap) ∧
 F33_10 R J1 l0 l1 n5 p6 p7 (((l60.len : Nat) : Int) != ((l63.len : Nat) : Int)) ds w24))))
def F33_k18 (R : Rt) (J1 : (Int) → World → Prop) : EP := (fun ρ ds w => dSl (ρ 0) fun l0 => dSl (ρ 1) fun l1 => dInt .i64 (ρ 5) fun n5 => dPtr (ρ 6) fun p6 => dPtr (ρ 7) fun p7 => F33_11 R J1 l0 l1 n5 p6 p7 ds w)
def F33_12 (R : Rt) (J1 : (Int) → World → Prop) (l0 : SV) (l1 : SV) (n5 : Int) (ds : Ds) (w : World) : Prop :=
 dwE w fun w29 =>
 ∃ S3 : World → Prop, S3 w29 ∧
 ∃ a30 : Addr, l0.a = some a30 ∧ 0 ≤ n5 ∧ n5 < ((l0.len : Nat) : Int) ∧
 ∃ s24_0 : ByteArray, (∀ w', S3 w' → w'.cell? ((a30.add (n5.toNat * 5)).add 0) = some (.string s24_0)) ∧
 ∃ n24_1 : Int, (∀ w', S3 w' → w'.cell? ((a30.add (n5.toNat * 5)).add 1) = some (.int .i64 n24_1)) ∧
 ∃ l24_2 : SV, (∀ w', S3 w' → w'.cell? ((a30.add (n5.toNat * 5)).add 2) = some (.slice l24_2.a l24_2.len l24_2.cap)) ∧
 ∃ l24_3 : SV, (∀ w', S3 w' → w'.cell? ((a30.add (n5.toNat * 5)).add 3) = some (.slice l24_3.a l24_3.len l24_3.cap)) ∧
 ∃ l24_4 : SV, (∀ w', S3 w' → w'.cell? ((a30.add (n5.toNat * 5)).add 4) = some (.slice l24_4.a l24_4.len l24_4.cap)) ∧
 ∃ a31 : Addr, l1.a = some a31 ∧ 0 ≤ n5 ∧ n5 < ((l1.len : Nat) : Int) ∧
 ∃ s28_0 : ByteArray, (∀ w', S3 w' → w'.cell? ((a31.add (n5.toNat * 5)).add 0) = some (.string s28_0)) ∧
 ∃ n28_1 : Int, (∀ w', S3 w' → w'.cell? ((a31.add (n5.toNat * 5)).add 1) = some (.int .i64 n28_1)) ∧
 ∃ l28_2 : SV, (∀ w', S3 w' → w'.cell? ((a31.add (n5.toNat * 5)).add 2) = some (.slice l28_2.a l28_2.len l28_2.cap)) ∧
 ∃ l28_3 : SV, (∀ w', S3 w' → w'.cell? ((a31.add (n5.toNat * 5)).add 3) = some (.slice l28_3.a l28_3.len l28_3.cap)) ∧
 ∃ l28_4 : SV, (∀ w', S3 w' → w'.cell? ((a31.add (n5.toNat * 5)).add 4) = some (.slice l28_4.a l28_4.len l28_4.cap)) ∧
 (
 alE (.cells #[.string (⟨#[]⟩ : ByteArray), .int .i64 0, .slice none 0 0, .slice none 0 0, .slice none 0 0] 33) w29 fun r6 w32 =>
 S3 w32 ∧
 alE (.cells #[.string (⟨#[]⟩ : ByteArray), .int .i64 0, .slice none 0 0, .slice none 0 0, .slice none 0 0] 33) w32 fun r7 w33 =>
 S3 w33 ∧
 stA Try.prog 33 (⟨r6, 0, none⟩ : Addr) #[.string s24_0, .int .i64 n24_1, .slice l24_2.a l24_2.len l24_2.cap, .slice l24_3.a l24_3.len l24_3.cap, .slice l24_4.a l24_4.len l24_4.cap] w33 fun w34 =>
 S3 w34 ∧
 stA Try.prog 33 (⟨r7, 0, none⟩ : Addr) #[.string s28_0, .int .i64 n28_1, .slice l28_2.a l28_2.len l28_2.cap, .slice l28_3.a l28_3.len l28_3.cap, .slice l28_4.a l28_4.len l28_4.cap] w34 fun w35 =>
 F33_11 R J1 l0 l1 n5 (some (⟨r6, 0, none⟩ : Addr)) (some (⟨r7, 0, none⟩ : Addr)) ds w35) ∧ (
 alE (.cells #[.string (⟨#[]⟩ : ByteArray), .int .i64 0, .slice none 0 0, .slice none 0 0, .slice none 0 0] 33) w29 fun r7 w36 =>
 S3 w36 ∧
 alE (.cells #[.string (⟨#[]⟩ : ByteArray), .int .i64 0, .slice none 0 0, .slice none 0 0, .slice none 0 0] 33) w36 fun r6 w37 =>
 S3 w37 ∧
 stA Try.prog 33 (⟨r6, 0, none⟩ : Addr) #[.string s24_0, .int .i64 n24_1, .slice l24_2.a l24_2.len l24_2.cap, .slice l24_3.a l24_3.len l24_3.cap, .slice l24_4.a l24_4.len l24_4.cap] w37 fun w38 =>
 S3 w38 ∧
 stA Try.prog 33 (⟨r7, 0, none⟩ : Addr) #[.string s28_0, .int .i64 n28_1, .slice l28_2.a l28_2.len l28_2.cap, .slice l28_3.a l28_3.len l28_3.cap, .slice l28_4.a l28_4.len l28_4.cap] w38 fun w39 =>
 F33_11 R J1 l0 l1 n5 (some (⟨r6, 0, none⟩ : Addr)) (some (⟨r7, 0, none⟩ : Addr)) ds w39)
@[reducible] def F33_13 (R : Rt) (J1 : (Int) → World → Prop) (l0 : SV) (l1 : SV) (n5 : Int) (ds : Ds) (w : World) : Prop := F33_12 R J1 l0 l1 n5 ds w
def F33_k19 (R : Rt) (J1 : (Int) → World → Prop) : EP := (fun ρ ds w => dSl (ρ 0) fun l0 => dSl (ρ 1) fun l1 => dInt .i64 (ρ 5) fun n5 => F33_13 R J1 l0 l1 n5 ds w)
def F33_14 (R : Rt) (J1 : (Int) → World → Prop) (l0 : SV) (l1 : SV) (n5 : Int) (ds : Ds) (w : World) : Prop :=
 Br (decide (n5 < ((l0.len : Nat) : Int))) (
 F33_13 R J1 l0 l1 n5 ds w) (
 F33_1 R ds w)
def F33_15 (R : Rt) (l0 : SV) (l1 : SV) (n5 : Int) (ds : Ds) (w : World) : Prop :=
 loopT (fun (J1 : (Int) → World → Prop) (s : Int) (w : World) => F33_14 R J1 l0 l1 s ds w) n5 w
@[reducible] def F33_16 (R : Rt) (l0 : SV) (l1 : SV) (n5 : Int) (ds : Ds) (w : World) : Prop := F33_15 R l0 l1 n5 ds w
def F33_k20 (R : Rt) : EP := (fun ρ ds w => dSl (ρ 0) fun l0 => dSl (ρ 1) fun l1 => dInt .i64 (ρ 5) fun n5 => F33_16 R l0 l1 n5 ds w)
def F33_17 (R : Rt) (l0 : SV) (l1 : SV) (ds : Ds) (w : World) : Prop :=
 Br (((l0.len : Nat) : Int) != ((l1.len : Nat) : Int)) (
 runD Try.prog ds w fun w40 =>
 R (.returned (.bool false)) w40) (
 F33_16 R l0 l1 0 ds w)
theorem c33_l : flat (bodyOf Try.f33) = [c33_0, c33_1, c33_2, c33_3, c33_4, c33_5, c33_6] := by kernel_rfl
theorem c33_4_l : flat (innerC c33_4) = [c33_4_0] := by kernel_rfl
theorem c33_4_0_l : flat (innerC c33_4_0) = [c33_4_0_0, c33_4_0_1, c33_4_0_2, c33_4_0_3] := by kernel_rfl
theorem c33_4_0_2_l : flat (innerC c33_4_0_2) = [c33_4_0_2_0, c33_4_0_2_1, c33_4_0_2_2, c33_4_0_2_3, c33_4_0_2_4, c33_4_0_2_5, c33_4_0_2_6] := by kernel_rfl
theorem c33_4_0_2_6_l : flat (innerC c33_4_0_2_6) = [c33_4_0_2_6_0] := by kernel_rfl
theorem c33_4_0_2_6_0_l : flat (innerC c33_4_0_2_6_0) = [c33_4_0_2_6_0_0, c33_4_0_2_6_0_1, c33_4_0_2_6_0_2, c33_4_0_2_6_0_3] := by kernel_rfl
theorem c33_4_0_2_4_l : flat (innerC c33_4_0_2_4) = [c33_4_0_2_4_0] := by kernel_rfl
theorem c33_4_0_2_4_0_l : flat (innerC c33_4_0_2_4_0) = [c33_4_0_2_4_0_0, c33_4_0_2_4_0_1, c33_4_0_2_4_0_2, c33_4_0_2_4_0_3] := by kernel_rfl
theorem F33_1_ok (R : Rt) (ds : Ds) (w : World) (ρ : Env) (h : F33_1 R ds w) :
    TrL Try.prog Try.f33.ntmps [c33_5, c33_6] (F33_q1 R) ρ ds w :=
  TrL_leaf (X := F33_1 R ds w) setAll_nil (by kernel_rfl) (by kernel_rfl) h
theorem F33_2_ok (R : Rt) (J1 : (Int) → World → Prop) (l0 : SV) (l1 : SV) (n5 : Int) (ds : Ds) (w : World) (ρ : Env) (e0 : ρ 0 = .slice l0.a l0.len l0.cap) (e1 : ρ 1 = .slice l1.a l1.len l1.cap) (e5 : ρ 5 = .int .i64 n5) (h : F33_2 R J1 l0 l1 n5 ds w) :
    TrL Try.prog Try.f33.ntmps [c33_4_0_3] (F33_q5 R J1) ρ ds w :=
  TrL_leaf (X := F33_2 R J1 l0 l1 n5 ds w) (setAll_cons e0 (setAll_cons e1 (setAll_cons e5 setAll_nil))) (by kernel_rfl) (by kernel_rfl) h
theorem F33_3_ok (R : Rt) (J1 : (Int) → World → Prop) (J2 : (Int) → World → Prop) (l0 : SV) (l1 : SV) (n5 : Int) (p6 : Option Addr) (p7 : Option Addr) (n9 : Int) (ds : Ds) (w : World) (ρ : Env) (e0 : ρ 0 = .slice l0.a l0.len l0.cap) (e1 : ρ 1 = .slice l1.a l1.len l1.cap) (e5 : ρ 5 = .int .i64 n5) (e6 : ρ 6 = .pointer p6) (e7 : ρ 7 = .pointer p7) (e9 : ρ 9 = .int .i64 n9) (h : F33_3 R J1 J2 l0 l1 n5 p6 p7 n9 ds w) :
    TrL Try.prog Try.f33.ntmps [c33_4_0_2_6_0_0, c33_4_0_2_6_0_1, c33_4_0_2_6_0_2, c33_4_0_2_6_0_3] (F33_q10 R J1 J2) ρ ds w :=
  TrL_leaf (X := F33_3 R J1 J2 l0 l1 n5 p6 p7 n9 ds w) (setAll_cons e0 (setAll_cons e1 (setAll_cons e5 (setAll_cons e6 (setAll_cons e7 (setAll_cons e9 setAll_nil)))))) (by kernel_rfl) (by kernel_rfl) h
theorem F33_4_ok (R : Rt) (J1 : (Int) → World → Prop) (l0 : SV) (l1 : SV) (n5 : Int) (p6 : Option Addr) (p7 : Option Addr) (n9 : Int) (ds : Ds) (w : World) (ρ : Env) (e0 : ρ 0 = .slice l0.a l0.len l0.cap) (e1 : ρ 1 = .slice l1.a l1.len l1.cap) (e5 : ρ 5 = .int .i64 n5) (e6 : ρ 6 = .pointer p6) (e7 : ρ 7 = .pointer p7) (e9 : ρ 9 = .int .i64 n9) (h : F33_4 R J1 l0 l1 n5 p6 p7 n9 ds w) :
    TrL Try.prog Try.f33.ntmps [c33_4_0_2_6_0] (F33_q9 R J1) ρ ds w :=
  TrL_one (Tr_loop' (c := innerC c33_4_0_2_6_0) (σ := Int) (enc := (fun (s : Int) (ρ : Env) => ρ 9 = .int .i64 s)) (D := (fun ρ K => dInt .i64 (ρ 9) fun n9 => K n9)) (F := (fun (J2 : (Int) → World → Prop) (s : Int) (w : World) => F33_3 R J1 J2 l0 l1 n5 p6 p7 s ds w)) (s0 := n9) (by kernel_rfl) c33_4_0_2_6_0_l e9 (by kernel_rfl) (fun ρ K hD => by obtain ⟨n9, e9, hD⟩ := dInt_elim hD; exact ⟨n9, e9, hD⟩)
      (fun J2 s ρ' w' he ha hF => by
      have e9' := he
      exact F33_3_ok R J1 J2 l0 l1 n5 p6 p7 s ds w' ρ' ((ha 0 (by kernel_rfl)).trans e0) ((ha 1 (by kernel_rfl)).trans e1) ((ha 5 (by kernel_rfl)).trans e5) ((ha 6 (by kernel_rfl)).trans e6) ((ha 7 (by kernel_rfl)).trans e7) e9' hF) h)
theorem F33_5_ok (R : Rt) (J1 : (Int) → World → Prop) (l0 : SV) (l1 : SV) (n5 : Int) (p6 : Option Addr) (p7 : Option Addr) (n9 : Int) (ds : Ds) (w : World) (ρ : Env) (e0 : ρ 0 = .slice l0.a l0.len l0.cap) (e1 : ρ 1 = .slice l1.a l1.len l1.cap) (e5 : ρ 5 = .int .i64 n5) (e6 : ρ 6 = .pointer p6) (e7 : ρ 7 = .pointer p7) (e9 : ρ 9 = .int .i64 n9) (h : F33_5 R J1 l0 l1 n5 p6 p7 n9 ds w) :
    TrL Try.prog Try.f33.ntmps [c33_4_0_2_6] (F33_q8 R J1) ρ ds w :=
  TrL_one (Tr_block' (c := innerC c33_4_0_2_6) (by kernel_rfl) c33_4_0_2_6_l (F33_4_ok R J1 l0 l1 n5 p6 p7 n9 ds w ρ e0 e1 e5 e6 e7 e9 h))
theorem F33_6_ok (R : Rt) (J1 : (Int) → World → Prop) (l0 : SV) (l1 : SV) (n5 : Int) (p6 : Option Addr) (p7 : Option Addr) (ds : Ds) (w : World) (ρ : Env) (e0 : ρ 0 = .slice l0.a l0.len l0.cap) (e1 : ρ 1 = .slice l1.a l1.len l1.cap) (e5 : ρ 5 = .int .i64 n5) (e6 : ρ 6 = .pointer p6) (e7 : ρ 7 = .pointer p7) (h : F33_6 R J1 l0 l1 n5 p6 p7 ds w) :
    TrL Try.prog Try.f33.ntmps [c33_4_0_2_5, c33_4_0_2_6] (F33_q8 R J1) ρ ds w :=
  TrL_piece (pre := [c33_4_0_2_5]) (K := (F33_k11 R J1)) (X := F33_6 R J1 l0 l1 n5 p6 p7 ds w) (setAll_cons e0 (setAll_cons e1 (setAll_cons e5 (setAll_cons e6 (setAll_cons e7 setAll_nil))))) (by kernel_rfl) (by kernel_rfl)
    (fun ρ' ds' w' hD => by
      obtain ⟨l0, e0, hD⟩ := dSl_elim hD; obtain ⟨l1, e1, hD⟩ := dSl_elim hD; obtain ⟨n5, e5, hD⟩ := dInt_elim hD; obtain ⟨p6, e6, hD⟩ := dPtr_elim hD; obtain ⟨p7, e7, hD⟩ := dPtr_elim hD; obtain ⟨n9, e9, hD⟩ := dInt_elim hD; exact F33_5_ok R J1 l0 l1 n5 p6 p7 n9 ds' w' ρ' e0 e1 e5 e6 e7 e9 hD) h
theorem F33_7_ok (R : Rt) (J1 : (Int) → World → Prop) (J2 : (Int) → World → Prop) (l0 : SV) (l1 : SV) (n5 : Int) (p6 : Option Addr) (p7 : Option Addr) (n8 : Int) (ds : Ds) (w : World) (ρ : Env) (e0 : ρ 0 = .slice l0.a l0.len l0.cap) (e1 : ρ 1 = .slice l1.a l1.len l1.cap) (e5 : ρ 5 = .int .i64 n5) (e6 : ρ 6 = .pointer p6) (e7 : ρ 7 = .pointer p7) (e8 : ρ 8 = .int .i64 n8) (h : F33_7 R J1 J2 l0 l1 n5 p6 p7 n8 ds w) :
    TrL Try.prog Try.f33.ntmps [c33_4_0_2_4_0_0, c33_4_0_2_4_0_1, c33_4_0_2_4_0_2, c33_4_0_2_4_0_3] (F33_q15 R J1 J2) ρ ds w :=
  TrL_leaf (X := F33_7 R J1 J2 l0 l1 n5 p6 p7 n8 ds w) (setAll_cons e0 (setAll_cons e1 (setAll_cons e5 (setAll_cons e6 (setAll_cons e7 (setAll_cons e8 setAll_nil)))))) (by kernel_rfl) (by kernel_rfl) h
theorem F33_8_ok (R : Rt) (J1 : (Int) → World → Prop) (l0 : SV) (l1 : SV) (n5 : Int) (p6 : Option Addr) (p7 : Option Addr) (n8 : Int) (ds : Ds) (w : World) (ρ : Env) (e0 : ρ 0 = .slice l0.a l0.len l0.cap) (e1 : ρ 1 = .slice l1.a l1.len l1.cap) (e5 : ρ 5 = .int .i64 n5) (e6 : ρ 6 = .pointer p6) (e7 : ρ 7 = .pointer p7) (e8 : ρ 8 = .int .i64 n8) (h : F33_8 R J1 l0 l1 n5 p6 p7 n8 ds w) :
    TrL Try.prog Try.f33.ntmps [c33_4_0_2_4_0] (F33_q14 R J1) ρ ds w :=
  TrL_one (Tr_loop' (c := innerC c33_4_0_2_4_0) (σ := Int) (enc := (fun (s : Int) (ρ : Env) => ρ 8 = .int .i64 s)) (D := (fun ρ K => dInt .i64 (ρ 8) fun n8 => K n8)) (F := (fun (J2 : (Int) → World → Prop) (s : Int) (w : World) => F33_7 R J1 J2 l0 l1 n5 p6 p7 s ds w)) (s0 := n8) (by kernel_rfl) c33_4_0_2_4_0_l e8 (by kernel_rfl) (fun ρ K hD => by obtain ⟨n8, e8, hD⟩ := dInt_elim hD; exact ⟨n8, e8, hD⟩)
      (fun J2 s ρ' w' he ha hF => by
      have e8' := he
      exact F33_7_ok R J1 J2 l0 l1 n5 p6 p7 s ds w' ρ' ((ha 0 (by kernel_rfl)).trans e0) ((ha 1 (by kernel_rfl)).trans e1) ((ha 5 (by kernel_rfl)).trans e5) ((ha 6 (by kernel_rfl)).trans e6) ((ha 7 (by kernel_rfl)).trans e7) e8' hF) h)
theorem F33_9_ok (R : Rt) (J1 : (Int) → World → Prop) (l0 : SV) (l1 : SV) (n5 : Int) (p6 : Option Addr) (p7 : Option Addr) (n8 : Int) (ds : Ds) (w : World) (ρ : Env) (e0 : ρ 0 = .slice l0.a l0.len l0.cap) (e1 : ρ 1 = .slice l1.a l1.len l1.cap) (e5 : ρ 5 = .int .i64 n5) (e6 : ρ 6 = .pointer p6) (e7 : ρ 7 = .pointer p7) (e8 : ρ 8 = .int .i64 n8) (h : F33_9 R J1 l0 l1 n5 p6 p7 n8 ds w) :
    TrL Try.prog Try.f33.ntmps [c33_4_0_2_4, c33_4_0_2_5, c33_4_0_2_6] (F33_q8 R J1) ρ ds w :=
  TrL_head (K := (F33_k12 R J1)) (Tr_block' (c := innerC c33_4_0_2_4) (by kernel_rfl) c33_4_0_2_4_l (F33_8_ok R J1 l0 l1 n5 p6 p7 n8 ds w ρ e0 e1 e5 e6 e7 e8 h))
    (fun ρ' ds' w' hD => by
      obtain ⟨l0, e0, hD⟩ := dSl_elim hD; obtain ⟨l1, e1, hD⟩ := dSl_elim hD; obtain ⟨n5, e5, hD⟩ := dInt_elim hD; obtain ⟨p6, e6, hD⟩ := dPtr_elim hD; obtain ⟨p7, e7, hD⟩ := dPtr_elim hD; exact F33_6_ok R J1 l0 l1 n5 p6 p7 ds' w' ρ' e0 e1 e5 e6 e7 hD)
theorem F33_10_ok (R : Rt) (J1 : (Int) → World → Prop) (l0 : SV) (l1 : SV) (n5 : Int) (p6 : Option Addr) (p7 : Option Addr) (b66 : Bool) (ds : Ds) (w : World) (ρ : Env) (e0 : ρ 0 = .slice l0.a l0.len l0.cap) (e1 : ρ 1 = .slice l1.a l1.len l1.cap) (e5 : ρ 5 = .int .i64 n5) (e6 : ρ 6 = .pointer p6) (e7 : ρ 7 = .pointer p7) (e66 : ρ 66 = .bool b66) (h : F33_10 R J1 l0 l1 n5 p6 p7 b66 ds w) :
    TrL Try.prog Try.f33.ntmps [c33_4_0_2_2, c33_4_0_2_3, c33_4_0_2_4, c33_4_0_2_5, c33_4_0_2_6] (F33_q8 R J1) ρ ds w :=
  TrL_piece (pre := [c33_4_0_2_2, c33_4_0_2_3]) (K := (F33_k16 R J1)) (X := F33_10 R J1 l0 l1 n5 p6 p7 b66 ds w) (setAll_cons e0 (setAll_cons e1 (setAll_cons e5 (setAll_cons e6 (setAll_cons e7 (setAll_cons e66 setAll_nil)))))) (by kernel_rfl) (by kernel_rfl)
    (fun ρ' ds' w' hD => by
      obtain ⟨l0, e0, hD⟩ := dSl_elim hD; obtain ⟨l1, e1, hD⟩ := dSl_elim hD; obtain ⟨n5, e5, hD⟩ := dInt_elim hD; obtain ⟨p6, e6, hD⟩ := dPtr_elim hD; obtain ⟨p7, e7, hD⟩ := dPtr_elim hD; obtain ⟨n8, e8, hD⟩ := dInt_elim hD; exact F33_9_ok R J1 l0 l1 n5 p6 p7 n8 ds' w' ρ' e0 e1 e5 e6 e7 e8 hD) h
theorem F33_11_ok (R : Rt) (J1 : (Int) → World → Prop) (l0 : SV) (l1 : SV) (n5 : Int) (p6 : Option Addr) (p7 : Option Addr) (ds : Ds) (w : World) (ρ : Env) (e0 : ρ 0 = .slice l0.a l0.len l0.cap) (e1 : ρ 1 = .slice l1.a l1.len l1.cap) (e5 : ρ 5 = .int .i64 n5) (e6 : ρ 6 = .pointer p6) (e7 : ρ 7 = .pointer p7) (h : F33_11 R J1 l0 l1 n5 p6 p7 ds w) :
    TrL Try.prog Try.f33.ntmps [c33_4_0_2_1, c33_4_0_2_2, c33_4_0_2_3, c33_4_0_2_4, c33_4_0_2_5, c33_4_0_2_6] (F33_q8 R J1) ρ ds w :=
  TrL_piece (pre := [c33_4_0_2_1]) (K := (F33_k17 R J1)) (X := F33_11 R J1 l0 l1 n5 p6 p7 ds w) (setAll_cons e0 (setAll_cons e1 (setAll_cons e5 (setAll_cons e6 (setAll_cons e7 setAll_nil))))) (by kernel_rfl) (by kernel_rfl)
    (fun ρ' ds' w' hD => by
      obtain ⟨l0, e0, hD⟩ := dSl_elim hD; obtain ⟨l1, e1, hD⟩ := dSl_elim hD; obtain ⟨n5, e5, hD⟩ := dInt_elim hD; obtain ⟨p6, e6, hD⟩ := dPtr_elim hD; obtain ⟨p7, e7, hD⟩ := dPtr_elim hD; obtain ⟨b66, e66, hD⟩ := dBl_elim hD; exact F33_10_ok R J1 l0 l1 n5 p6 p7 b66 ds' w' ρ' e0 e1 e5 e6 e7 e66 hD) h
theorem F33_12_ok (R : Rt) (J1 : (Int) → World → Prop) (l0 : SV) (l1 : SV) (n5 : Int) (ds : Ds) (w : World) (ρ : Env) (e0 : ρ 0 = .slice l0.a l0.len l0.cap) (e1 : ρ 1 = .slice l1.a l1.len l1.cap) (e5 : ρ 5 = .int .i64 n5) (h : F33_12 R J1 l0 l1 n5 ds w) :
    TrL Try.prog Try.f33.ntmps [c33_4_0_2_0, c33_4_0_2_1, c33_4_0_2_2, c33_4_0_2_3, c33_4_0_2_4, c33_4_0_2_5, c33_4_0_2_6] (F33_q8 R J1) ρ ds w :=
  TrL_piece (pre := [c33_4_0_2_0]) (K := (F33_k18 R J1)) (X := F33_12 R J1 l0 l1 n5 ds w) (setAll_cons e0 (setAll_cons e1 (setAll_cons e5 setAll_nil))) (by kernel_rfl) (by kernel_rfl)
    (fun ρ' ds' w' hD => by
      obtain ⟨l0, e0, hD⟩ := dSl_elim hD; obtain ⟨l1, e1, hD⟩ := dSl_elim hD; obtain ⟨n5, e5, hD⟩ := dInt_elim hD; obtain ⟨p6, e6, hD⟩ := dPtr_elim hD; obtain ⟨p7, e7, hD⟩ := dPtr_elim hD; exact F33_11_ok R J1 l0 l1 n5 p6 p7 ds' w' ρ' e0 e1 e5 e6 e7 hD) h
theorem F33_13_ok (R : Rt) (J1 : (Int) → World → Prop) (l0 : SV) (l1 : SV) (n5 : Int) (ds : Ds) (w : World) (ρ : Env) (e0 : ρ 0 = .slice l0.a l0.len l0.cap) (e1 : ρ 1 = .slice l1.a l1.len l1.cap) (e5 : ρ 5 = .int .i64 n5) (h : F33_13 R J1 l0 l1 n5 ds w) :
    TrL Try.prog Try.f33.ntmps [c33_4_0_2, c33_4_0_3] (F33_q5 R J1) ρ ds w :=
  TrL_head (K := (F33_k6 R J1)) (Tr_block' (c := innerC c33_4_0_2) (by kernel_rfl) c33_4_0_2_l (F33_12_ok R J1 l0 l1 n5 ds w ρ e0 e1 e5 h))
    (fun ρ' ds' w' hD => by
      obtain ⟨l0, e0, hD⟩ := dSl_elim hD; obtain ⟨l1, e1, hD⟩ := dSl_elim hD; obtain ⟨n5, e5, hD⟩ := dInt_elim hD; exact F33_2_ok R J1 l0 l1 n5 ds' w' ρ' e0 e1 e5 hD)
theorem F33_14_ok (R : Rt) (J1 : (Int) → World → Prop) (l0 : SV) (l1 : SV) (n5 : Int) (ds : Ds) (w : World) (ρ : Env) (e0 : ρ 0 = .slice l0.a l0.len l0.cap) (e1 : ρ 1 = .slice l1.a l1.len l1.cap) (e5 : ρ 5 = .int .i64 n5) (h : F33_14 R J1 l0 l1 n5 ds w) :
    TrL Try.prog Try.f33.ntmps [c33_4_0_0, c33_4_0_1, c33_4_0_2, c33_4_0_3] (F33_q5 R J1) ρ ds w :=
  TrL_piece (pre := [c33_4_0_0, c33_4_0_1]) (K := (F33_k19 R J1)) (X := F33_14 R J1 l0 l1 n5 ds w) (setAll_cons e0 (setAll_cons e1 (setAll_cons e5 setAll_nil))) (by kernel_rfl) (by kernel_rfl)
    (fun ρ' ds' w' hD => by
      obtain ⟨l0, e0, hD⟩ := dSl_elim hD; obtain ⟨l1, e1, hD⟩ := dSl_elim hD; obtain ⟨n5, e5, hD⟩ := dInt_elim hD; exact F33_13_ok R J1 l0 l1 n5 ds' w' ρ' e0 e1 e5 hD) h
theorem F33_15_ok (R : Rt) (l0 : SV) (l1 : SV) (n5 : Int) (ds : Ds) (w : World) (ρ : Env) (e0 : ρ 0 = .slice l0.a l0.len l0.cap) (e1 : ρ 1 = .slice l1.a l1.len l1.cap) (e5 : ρ 5 = .int .i64 n5) (h : F33_15 R l0 l1 n5 ds w) :
    TrL Try.prog Try.f33.ntmps [c33_4_0] (F33_q4 R) ρ ds w :=
  TrL_one (Tr_loop' (c := innerC c33_4_0) (σ := Int) (enc := (fun (s : Int) (ρ : Env) => ρ 5 = .int .i64 s)) (D := (fun ρ K => dInt .i64 (ρ 5) fun n5 => K n5)) (F := (fun (J1 : (Int) → World → Prop) (s : Int) (w : World) => F33_14 R J1 l0 l1 s ds w)) (s0 := n5) (by kernel_rfl) c33_4_0_l e5 (by kernel_rfl) (fun ρ K hD => by obtain ⟨n5, e5, hD⟩ := dInt_elim hD; exact ⟨n5, e5, hD⟩)
      (fun J1 s ρ' w' he ha hF => by
      have e5' := he
      exact F33_14_ok R J1 l0 l1 s ds w' ρ' ((ha 0 (by kernel_rfl)).trans e0) ((ha 1 (by kernel_rfl)).trans e1) e5' hF) h)
theorem F33_16_ok (R : Rt) (l0 : SV) (l1 : SV) (n5 : Int) (ds : Ds) (w : World) (ρ : Env) (e0 : ρ 0 = .slice l0.a l0.len l0.cap) (e1 : ρ 1 = .slice l1.a l1.len l1.cap) (e5 : ρ 5 = .int .i64 n5) (h : F33_16 R l0 l1 n5 ds w) :
    TrL Try.prog Try.f33.ntmps [c33_4, c33_5, c33_6] (F33_q1 R) ρ ds w :=
  TrL_head (K := (F33_k2 R)) (Tr_block' (c := innerC c33_4) (by kernel_rfl) c33_4_l (F33_15_ok R l0 l1 n5 ds w ρ e0 e1 e5 h))
    (fun ρ' ds' w' hD => by
      exact F33_1_ok R ds' w' ρ'  hD)
theorem F33_17_ok (R : Rt) (l0 : SV) (l1 : SV) (ds : Ds) (w : World) (ρ : Env) (e0 : ρ 0 = .slice l0.a l0.len l0.cap) (e1 : ρ 1 = .slice l1.a l1.len l1.cap) (h : F33_17 R l0 l1 ds w) :
    TrL Try.prog Try.f33.ntmps [c33_0, c33_1, c33_2, c33_3, c33_4, c33_5, c33_6] (F33_q1 R) ρ ds w :=
  TrL_piece (pre := [c33_0, c33_1, c33_2, c33_3]) (K := (F33_k20 R)) (X := F33_17 R l0 l1 ds w) (setAll_cons e0 (setAll_cons e1 setAll_nil)) (by kernel_rfl) (by kernel_rfl)
    (fun ρ' ds' w' hD => by
      obtain ⟨l0, e0, hD⟩ := dSl_elim hD; obtain ⟨l1, e1, hD⟩ := dSl_elim hD; obtain ⟨n5, e5, hD⟩ := dInt_elim hD; exact F33_16_ok R l0 l1 n5 ds' w' ρ' e0 e1 e5 hD) h
theorem F33_calls (l0 : SV) (l1 : SV) (w : World) (R : Rt) (h : F33_17 R l0 l1 [] w) : Calls Try.prog 33 #[.slice l0.a l0.len l0.cap, .slice l1.a l1.len l1.cap] w R :=
  calls_of_L (l := [c33_0, c33_1, c33_2, c33_3, c33_4, c33_5, c33_6]) Try.func33 (by kernel_rfl) (by rw [Try.ntmps33]; exact Nat.le_of_ble_eq_true (by kernel_rfl)) c33_l
    (F33_17_ok R l0 l1 [] w _ rfl rfl h)
theorem F33_callsD (l0 : SV) (l1 : SV) (w : World) (R : Rt) (u : FrameMode) (h : F33_17 R l0 l1 [] w) : CallsD Try.prog 33 #[.slice l0.a l0.len l0.cap, .slice l1.a l1.len l1.cap] u w fun e u' w' => u' = u ∧ R e w' :=
  callsD_of_L (l := [c33_0, c33_1, c33_2, c33_3, c33_4, c33_5, c33_6]) Try.func33 (by kernel_rfl) (by rw [Try.ntmps33]; exact Nat.le_of_ble_eq_true (by kernel_rfl)) (by kernel_rfl) c33_l
    (F33_17_ok R l0 l1 [] w _ rfl rfl h) u

/-! function 65: maps.Keys[map[string]bool,string,bool] -/
noncomputable def c65_0 : Code := itemAt (flat (bodyOf Try.f65)) 0
noncomputable def c65_1 : Code := itemAt (flat (bodyOf Try.f65)) 1
noncomputable def c65_2 : Code := itemAt (flat (bodyOf Try.f65)) 2
def F65_q1 (R : Rt) : EQ := endQ Try.prog Try.f65.results.toList R
def F65_1 (R : Rt) (m0 : Option Nat) (ds : Ds) (w : World) : Prop :=
 alE (.cells #[.map m0] 82) w fun r1 w1 =>
 runD Try.prog ds w1 fun w2 =>
 R (.returned (.func (.func 101) #[] #[.pointer (some (⟨r1, 0, none⟩ : Addr))])) w2
theorem c65_l : flat (bodyOf Try.f65) = [c65_0, c65_1, c65_2] := by kernel_rfl
theorem F65_1_ok (R : Rt) (m0 : Option Nat) (ds : Ds) (w : World) (ρ : Env) (e0 : ρ 0 = .map m0) (h : F65_1 R m0 ds w) :
    TrL Try.prog Try.f65.ntmps [c65_0, c65_1, c65_2] (F65_q1 R) ρ ds w :=
  TrL_leaf (X := F65_1 R m0 ds w) (setAll_cons e0 setAll_nil) (by kernel_rfl) (by kernel_rfl) h
theorem F65_calls (m0 : Option Nat) (w : World) (R : Rt) (h : F65_1 R m0 [] w) : Calls Try.prog 65 #[.map m0] w R :=
  calls_of_L (l := [c65_0, c65_1, c65_2]) Try.func65 (by kernel_rfl) (by rw [Try.ntmps65]; exact Nat.le_of_ble_eq_true (by kernel_rfl)) c65_l
    (F65_1_ok R m0 [] w _ rfl h)
theorem F65_callsD (m0 : Option Nat) (w : World) (R : Rt) (u : FrameMode) (h : F65_1 R m0 [] w) : CallsD Try.prog 65 #[.map m0] u w fun e u' w' => u' = u ∧ R e w' :=
  callsD_of_L (l := [c65_0, c65_1, c65_2]) Try.func65 (by kernel_rfl) (by rw [Try.ntmps65]; exact Nat.le_of_ble_eq_true (by kernel_rfl)) (by kernel_rfl) c65_l
    (F65_1_ok R m0 [] w _ rfl h) u

/-! function 66: cabinetry/link.reach -/
noncomputable def c66_0 : Code := itemAt (flat (bodyOf Try.f66)) 0
noncomputable def c66_1 : Code := itemAt (flat (bodyOf Try.f66)) 1
noncomputable def c66_2 : Code := itemAt (flat (bodyOf Try.f66)) 2
noncomputable def c66_3 : Code := itemAt (flat (bodyOf Try.f66)) 3
noncomputable def c66_4 : Code := itemAt (flat (bodyOf Try.f66)) 4
noncomputable def c66_5 : Code := itemAt (flat (bodyOf Try.f66)) 5
noncomputable def c66_6 : Code := itemAt (flat (bodyOf Try.f66)) 6
def F66_q1 (R : Rt) : EQ := endQ Try.prog Try.f66.results.toList R
def F66_1 (R : Rt) (m0 : Option Nat) (s1 : ByteArray) (ds : Ds) (w : World) : Prop :=
 alE (.cells #[.map m0] 57) w fun r2 w1 =>
 alE (.map #[] 0) w1 fun r7 w2 =>
 alE (.cells #[.map none] 82) w2 fun r5 w3 =>
 st1 (⟨r5, 0, none⟩ : Addr) (.map (some r7)) w3 fun w4 =>
 alE (.cells #[.nilFunc] 126) w4 fun r6 w5 =>
 st1 (⟨r6, 0, none⟩ : Addr) (.func (.func 102) #[] #[.pointer (some (⟨r5, 0, none⟩ : Addr)), .pointer (some (⟨r2, 0, none⟩ : Addr)), .pointer (some (⟨r6, 0, none⟩ : Addr))]) w5 fun w6 =>
 ∃ v9 : Value, w6.cell? (⟨r6, 0, none⟩ : Addr) = some (v9) ∧
 fnE v9 fun f11 first11 cap11 =>
 hasBody Try.prog f11 = true ∧ Calls Try.prog f11 (first11.toList ++ (([.string s1] : List Value) ++ cap11.toList)).toArray w6 fun e w7 =>
 e = .returned (.tuple #[]) ∧
 ∃ m12 : Option Nat, w7.cell? (⟨r5, 0, none⟩ : Addr) = some (.map m12) ∧
 runD Try.prog ds w7 fun w8 =>
 R (.returned (.map m12)) w8
theorem c66_l : flat (bodyOf Try.f66) = [c66_0, c66_1, c66_2, c66_3, c66_4, c66_5, c66_6] := by kernel_rfl
theorem F66_1_ok (R : Rt) (m0 : Option Nat) (s1 : ByteArray) (ds : Ds) (w : World) (ρ : Env) (e0 : ρ 0 = .map m0) (e1 : ρ 1 = .string s1) (h : F66_1 R m0 s1 ds w) :
    TrL Try.prog Try.f66.ntmps [c66_0, c66_1, c66_2, c66_3, c66_4, c66_5, c66_6] (F66_q1 R) ρ ds w :=
  TrL_leaf (X := F66_1 R m0 s1 ds w) (setAll_cons e0 (setAll_cons e1 setAll_nil)) (by kernel_rfl) (by kernel_rfl) h
theorem F66_calls (m0 : Option Nat) (s1 : ByteArray) (w : World) (R : Rt) (h : F66_1 R m0 s1 [] w) : Calls Try.prog 66 #[.map m0, .string s1] w R :=
  calls_of_L (l := [c66_0, c66_1, c66_2, c66_3, c66_4, c66_5, c66_6]) Try.func66 (by kernel_rfl) (by rw [Try.ntmps66]; exact Nat.le_of_ble_eq_true (by kernel_rfl)) c66_l
    (F66_1_ok R m0 s1 [] w _ rfl rfl h)
theorem F66_callsD (m0 : Option Nat) (s1 : ByteArray) (w : World) (R : Rt) (u : FrameMode) (h : F66_1 R m0 s1 [] w) : CallsD Try.prog 66 #[.map m0, .string s1] u w fun e u' w' => u' = u ∧ R e w' :=
  callsD_of_L (l := [c66_0, c66_1, c66_2, c66_3, c66_4, c66_5, c66_6]) Try.func66 (by kernel_rfl) (by rw [Try.ntmps66]; exact Nat.le_of_ble_eq_true (by kernel_rfl)) (by kernel_rfl) c66_l
    (F66_1_ok R m0 s1 [] w _ rfl rfl h) u

/-! function 67: cabinetry/cabinetryref24.reach -/
noncomputable def c67_0 : Code := itemAt (flat (bodyOf Try.f67)) 0
noncomputable def c67_1 : Code := itemAt (flat (bodyOf Try.f67)) 1
noncomputable def c67_2 : Code := itemAt (flat (bodyOf Try.f67)) 2
noncomputable def c67_3 : Code := itemAt (flat (bodyOf Try.f67)) 3
noncomputable def c67_4 : Code := itemAt (flat (bodyOf Try.f67)) 4
noncomputable def c67_5 : Code := itemAt (flat (bodyOf Try.f67)) 5
noncomputable def c67_3_0 : Code := itemAt (flat (innerC c67_3)) 0
noncomputable def c67_3_0_0 : Code := itemAt (flat (innerC c67_3_0)) 0
noncomputable def c67_3_0_1 : Code := itemAt (flat (innerC c67_3_0)) 1
noncomputable def c67_3_0_2 : Code := itemAt (flat (innerC c67_3_0)) 2
noncomputable def c67_3_0_2_0 : Code := itemAt (flat (innerC c67_3_0_2)) 0
noncomputable def c67_3_0_2_1 : Code := itemAt (flat (innerC c67_3_0_2)) 1
noncomputable def c67_3_0_2_2 : Code := itemAt (flat (innerC c67_3_0_2)) 2
noncomputable def c67_3_0_2_3 : Code := itemAt (flat (innerC c67_3_0_2)) 3
noncomputable def c67_3_0_2_4 : Code := itemAt (flat (innerC c67_3_0_2)) 4
noncomputable def c67_3_0_2_5 : Code := itemAt (flat (innerC c67_3_0_2)) 5
noncomputable def c67_3_0_2_6 : Code := itemAt (flat (innerC c67_3_0_2)) 6
noncomputable def c67_3_0_2_6_0 : Code := itemAt (flat (innerC c67_3_0_2_6)) 0
noncomputable def c67_3_0_2_6_0_0 : Code := itemAt (flat (innerC c67_3_0_2_6_0)) 0
noncomputable def c67_3_0_2_6_0_1 : Code := itemAt (flat (innerC c67_3_0_2_6_0)) 1
noncomputable def c67_3_0_2_6_0_2 : Code := itemAt (flat (innerC c67_3_0_2_6_0)) 2
noncomputable def c67_3_0_2_6_0_3 : Code := itemAt (flat (innerC c67_3_0_2_6_0)) 3
def F67_q1 (R : Rt) : EQ := endQ Try.prog Try.f67.results.toList R
def F67_1 (R : Rt) (l5 : SV) (ds : Ds) (w : World) : Prop :=
 runD Try.prog ds w fun w1 =>
 R (.returned (.slice l5.a l5.len l5.cap)) w1
def F67_k2 (R : Rt) : EP := (fun ρ ds w => dSl (ρ 5) fun l5 => F67_1 R l5 ds w)
def F67_q3 (R : Rt) : EQ := (thenQ (F67_k2 R) (F67_q1 R))
def F67_q4 (R : Rt) : EQ := (blockQ 0 (F67_q3 R))
def F67_q5 (R : Rt) (J1 : (SV) → World → Prop) : EQ := (thenQ (fun ρ _ w => dSl (ρ 6) fun l6 => J1 l6 w) (F67_q4 R))
def F67_q6 (R : Rt) (J1 : (SV) → World → Prop) : EQ := (blockQ 1 (F67_q5 R J1))
def F67_q7 (R : Rt) (J1 : (SV) → World → Prop) : EQ := (blockQ 2 (F67_q6 R J1))
def F67_q8 (R : Rt) (J1 : (SV) → World → Prop) (J2 : (SV × Int) → World → Prop) : EQ := (thenQ (fun ρ _ w => dSl (ρ 6) fun l6 => dInt .i64 (ρ 8) fun n8 => J2 (l6, n8) w) (F67_q7 R J1))
def F67_2 (R : Rt) (J1 : (SV) → World → Prop) (J2 : (SV × Int) → World → Prop) (l0 : SV) (l5 : SV) (l6 : SV) (n7 : Int) (n8 : Int) (ds : Ds) (w : World) : Prop :=
 ∃ a2 : Addr, l0.a = some a2 ∧ 0 ≤ n7 ∧ n7 < ((l0.len : Nat) : Int) ∧
 ∃ l34 : SV, w.cell? ((a2.add (n7.toNat * 4)).add 3) = some (.slice l34.a l34.len l34.cap) ∧
 Br (decide (n8 < ((l34.len : Nat) : Int))) (
 ∃ a3 : Addr, l0.a = some a3 ∧ 0 ≤ n7 ∧ n7 < ((l0.len : Nat) : Int) ∧
 ∃ l45 : SV, w.cell? ((a3.add (n7.toNat * 4)).add 3) = some (.slice l45.a l45.len l45.cap) ∧
 ∃ a4 : Addr, l45.a = some a4 ∧ 0 ≤ n8 ∧ n8 < ((l45.len : Nat) : Int) ∧
 ∃ s48 : ByteArray, w.cell? (a4.add (n8.toNat * 1)) = some (.string s48) ∧
 Calls Try.prog 52 #[.slice l0.a l0.len l0.cap, .string s48] w fun e w5 =>
 ∃ n49 : Int, e = .returned (.int .i64 n49) ∧
 alE (.cells #[.int .i64 n49] 3) w5 fun r50 w6 =>
 ∃ l51 : SV, ∃ w7 : World, (Builtin.append_ #[30, 30] 30 #[.slice l6.a l6.len l6.cap, .slice (some ⟨r50, 0, none⟩) 1 1]).run Try.prog w6 = .ok (.slice l51.a l51.len l51.cap) w7 ∧
 J2 (l51, (IntKind.i64.wrap (n8 + 1))) w7) (
 J1 l6 w)
def F67_3 (R : Rt) (J1 : (SV) → World → Prop) (l0 : SV) (l5 : SV) (l6 : SV) (n7 : Int) (n8 : Int) (ds : Ds) (w : World) : Prop :=
 loopT (fun (J2 : (SV × Int) → World → Prop) (s : SV × Int) (w : World) => F67_2 R J1 J2 l0 l5 s.1 n7 s.2 ds w) (l6, n8) w
@[reducible] def F67_4 (R : Rt) (J1 : (SV) → World → Prop) (l0 : SV) (l5 : SV) (l6 : SV) (n7 : Int) (n8 : Int) (ds : Ds) (w : World) : Prop := F67_3 R J1 l0 l5 l6 n7 n8 ds w
def F67_k9 (R : Rt) (J1 : (SV) → World → Prop) : EP := (fun ρ ds w => dSl (ρ 0) fun l0 => dSl (ρ 5) fun l5 => dSl (ρ 6) fun l6 => dInt .i64 (ρ 7) fun n7 => dInt .i64 (ρ 8) fun n8 => F67_4 R J1 l0 l5 l6 n7 n8 ds w)
def F67_5 (R : Rt) (J1 : (SV) → World → Prop) (l0 : SV) (l5 : SV) (l6 : SV) (ds : Ds) (w : World) : Prop :=
 ∃ a8 : Addr, l6.a = some a8 ∧ 0 ≤ (0 : Int) ∧ (0 : Int) < ((l6.len : Nat) : Int) ∧
 ∃ n19 : Int, w.cell? (a8.add ((0 : Int).toNat * 1)) = some (.int .i64 n19) ∧
 l6.len ≤ l6.cap ∧ 0 ≤ (1 : Int) ∧ (1 : Int).toNat ≤ l6.len ∧
 ∃ a9 : Addr, l5.a = some a9 ∧ 0 ≤ n19 ∧ n19 < ((l5.len : Nat) : Int) ∧
 ∃ b25 : Bool, w.cell? (a9.add (n19.toNat * 1)) = some (.bool b25) ∧
 Br b25 (
 J1 ⟨(if l6.cap = (1 : Int).toNat then l6.a else l6.a.map (fun x => x.add ((1 : Int).toNat * 1))), (l6.len - (1 : Int).toNat), (l6.cap - (1 : Int).toNat)⟩ w) (
 ∃ a10 : Addr, l5.a = some a10 ∧ 0 ≤ n19 ∧ n19 < ((l5.len : Nat) : Int) ∧
 st1 (a10.add (n19.toNat * 1)) (.bool true) w fun w11 =>
 F67_4 R J1 l0 l5 ⟨(if l6.cap = (1 : Int).toNat then l6.a else l6.a.map (fun x => x.add ((1 : Int).toNat * 1))), (l6.len - (1 : Int).toNat), (l6.cap - (1 : Int).toNat)⟩ n19 0 ds w11)
@[reducible] def F67_6 (R : Rt) (J1 : (SV) → World → Prop) (l0 : SV) (l5 : SV) (l6 : SV) (ds : Ds) (w : World) : Prop := F67_5 R J1 l0 l5 l6 ds w
def F67_k10 (R : Rt) (J1 : (SV) → World → Prop) : EP := (fun ρ ds w => dSl (ρ 0) fun l0 => dSl (ρ 5) fun l5 => dSl (ρ 6) fun l6 => F67_6 R J1 l0 l5 l6 ds w)
def F67_7 (R : Rt) (J1 : (SV) → World → Prop) (l0 : SV) (l5 : SV) (l6 : SV) (ds : Ds) (w : World) : Prop :=
 Br (decide (((l6.len : Nat) : Int) > 0)) (
 F67_6 R J1 l0 l5 l6 ds w) (
 F67_1 R l5 ds w)
def F67_8 (R : Rt) (l0 : SV) (l5 : SV) (l6 : SV) (ds : Ds) (w : World) : Prop :=
 loopT (fun (J1 : (SV) → World → Prop) (s : SV) (w : World) => F67_7 R J1 l0 l5 s ds w) l6 w
@[reducible] def F67_9 (R : Rt) (l0 : SV) (l5 : SV) (l6 : SV) (ds : Ds) (w : World) : Prop := F67_8 R l0 l5 l6 ds w
def F67_k11 (R : Rt) : EP := (fun ρ ds w => dSl (ρ 0) fun l0 => dSl (ρ 5) fun l5 => dSl (ρ 6) fun l6 => F67_9 R l0 l5 l6 ds w)
def F67_10 (R : Rt) (l0 : SV) (n1 : Int) (ds : Ds) (w : World) : Prop :=
 ∃ l11 : SV, ∃ w12 : World, (Instr.makeSlice 89 (.int .i64 ((l0.len : Nat) : Int)) (.int .i64 ((l0.len : Nat) : Int))).run Try.prog w = .ok (.slice l11.a l11.len l11.cap) w12 ∧
 alE (.cells #[.int .i64 n1] 3) w12 fun r13 w13 =>
 F67_9 R l0 l11 ⟨(some ⟨r13, 0, none⟩), 1, 1⟩ ds w13
theorem c67_l : flat (bodyOf Try.f67) = [c67_0, c67_1, c67_2, c67_3, c67_4, c67_5] := by kernel_rfl
theorem c67_3_l : flat (innerC c67_3) = [c67_3_0] := by kernel_rfl
theorem c67_3_0_l : flat (innerC c67_3_0) = [c67_3_0_0, c67_3_0_1, c67_3_0_2] := by kernel_rfl
theorem c67_3_0_2_l : flat (innerC c67_3_0_2) = [c67_3_0_2_0, c67_3_0_2_1, c67_3_0_2_2, c67_3_0_2_3, c67_3_0_2_4, c67_3_0_2_5, c67_3_0_2_6] := by kernel_rfl
theorem c67_3_0_2_6_l : flat (innerC c67_3_0_2_6) = [c67_3_0_2_6_0] := by kernel_rfl
theorem c67_3_0_2_6_0_l : flat (innerC c67_3_0_2_6_0) = [c67_3_0_2_6_0_0, c67_3_0_2_6_0_1, c67_3_0_2_6_0_2, c67_3_0_2_6_0_3] := by kernel_rfl
theorem F67_1_ok (R : Rt) (l5 : SV) (ds : Ds) (w : World) (ρ : Env) (e5 : ρ 5 = .slice l5.a l5.len l5.cap) (h : F67_1 R l5 ds w) :
    TrL Try.prog Try.f67.ntmps [c67_4, c67_5] (F67_q1 R) ρ ds w :=
  TrL_leaf (X := F67_1 R l5 ds w) (setAll_cons e5 setAll_nil) (by kernel_rfl) (by kernel_rfl) h
theorem F67_2_ok (R : Rt) (J1 : (SV) → World → Prop) (J2 : (SV × Int) → World → Prop) (l0 : SV) (l5 : SV) (l6 : SV) (n7 : Int) (n8 : Int) (ds : Ds) (w : World) (ρ : Env) (e0 : ρ 0 = .slice l0.a l0.len l0.cap) (e5 : ρ 5 = .slice l5.a l5.len l5.cap) (e6 : ρ 6 = .slice l6.a l6.len l6.cap) (e7 : ρ 7 = .int .i64 n7) (e8 : ρ 8 = .int .i64 n8) (h : F67_2 R J1 J2 l0 l5 l6 n7 n8 ds w) :
    TrL Try.prog Try.f67.ntmps [c67_3_0_2_6_0_0, c67_3_0_2_6_0_1, c67_3_0_2_6_0_2, c67_3_0_2_6_0_3] (F67_q8 R J1 J2) ρ ds w :=
  TrL_leaf (X := F67_2 R J1 J2 l0 l5 l6 n7 n8 ds w) (setAll_cons e0 (setAll_cons e5 (setAll_cons e6 (setAll_cons e7 (setAll_cons e8 setAll_nil))))) (by kernel_rfl) (by kernel_rfl) h
theorem F67_3_ok (R : Rt) (J1 : (SV) → World → Prop) (l0 : SV) (l5 : SV) (l6 : SV) (n7 : Int) (n8 : Int) (ds : Ds) (w : World) (ρ : Env) (e0 : ρ 0 = .slice l0.a l0.len l0.cap) (e5 : ρ 5 = .slice l5.a l5.len l5.cap) (e6 : ρ 6 = .slice l6.a l6.len l6.cap) (e7 : ρ 7 = .int .i64 n7) (e8 : ρ 8 = .int .i64 n8) (h : F67_3 R J1 l0 l5 l6 n7 n8 ds w) :
    TrL Try.prog Try.f67.ntmps [c67_3_0_2_6_0] (F67_q7 R J1) ρ ds w :=
  TrL_one (Tr_loop' (c := innerC c67_3_0_2_6_0) (σ := SV × Int) (enc := (fun (s : SV × Int) (ρ : Env) => ρ 6 = .slice s.1.a s.1.len s.1.cap ∧ ρ 8 = .int .i64 s.2)) (D := (fun ρ K => dSl (ρ 6) fun l6 => dInt .i64 (ρ 8) fun n8 => K (l6, n8))) (F := (fun (J2 : (SV × Int) → World → Prop) (s : SV × Int) (w : World) => F67_2 R J1 J2 l0 l5 s.1 n7 s.2 ds w)) (s0 := (l6, n8)) (by kernel_rfl) c67_3_0_2_6_0_l ⟨e6, e8⟩ (by kernel_rfl) (fun ρ K hD => by obtain ⟨l6, e6, hD⟩ := dSl_elim hD; obtain ⟨n8, e8, hD⟩ := dInt_elim hD; exact ⟨(l6, n8), ⟨e6, e8⟩, hD⟩)
      (fun J2 s ρ' w' he ha hF => by
      obtain ⟨e6', e8'⟩ := he
      exact F67_2_ok R J1 J2 l0 l5 s.1 n7 s.2 ds w' ρ' ((ha 0 (by kernel_rfl)).trans e0) ((ha 5 (by kernel_rfl)).trans e5) e6' ((ha 7 (by kernel_rfl)).trans e7) e8' hF) h)
theorem F67_4_ok (R : Rt) (J1 : (SV) → World → Prop) (l0 : SV) (l5 : SV) (l6 : SV) (n7 : Int) (n8 : Int) (ds : Ds) (w : World) (ρ : Env) (e0 : ρ 0 = .slice l0.a l0.len l0.cap) (e5 : ρ 5 = .slice l5.a l5.len l5.cap) (e6 : ρ 6 = .slice l6.a l6.len l6.cap) (e7 : ρ 7 = .int .i64 n7) (e8 : ρ 8 = .int .i64 n8) (h : F67_4 R J1 l0 l5 l6 n7 n8 ds w) :
    TrL Try.prog Try.f67.ntmps [c67_3_0_2_6] (F67_q6 R J1) ρ ds w :=
  TrL_one (Tr_block' (c := innerC c67_3_0_2_6) (by kernel_rfl) c67_3_0_2_6_l (F67_3_ok R J1 l0 l5 l6 n7 n8 ds w ρ e0 e5 e6 e7 e8 h))
theorem F67_5_ok (R : Rt) (J1 : (SV) → World → Prop) (l0 : SV) (l5 : SV) (l6 : SV) (ds : Ds) (w : World) (ρ : Env) (e0 : ρ 0 = .slice l0.a l0.len l0.cap) (e5 : ρ 5 = .slice l5.a l5.len l5.cap) (e6 : ρ 6 = .slice l6.a l6.len l6.cap) (h : F67_5 R J1 l0 l5 l6 ds w) :
    TrL Try.prog Try.f67.ntmps [c67_3_0_2_0, c67_3_0_2_1, c67_3_0_2_2, c67_3_0_2_3, c67_3_0_2_4, c67_3_0_2_5, c67_3_0_2_6] (F67_q6 R J1) ρ ds w :=
  TrL_piece (pre := [c67_3_0_2_0, c67_3_0_2_1, c67_3_0_2_2, c67_3_0_2_3, c67_3_0_2_4, c67_3_0_2_5]) (K := (F67_k9 R J1)) (X := F67_5 R J1 l0 l5 l6 ds w) (setAll_cons e0 (setAll_cons e5 (setAll_cons e6 setAll_nil))) (by kernel_rfl) (by kernel_rfl)
    (fun ρ' ds' w' hD => by
      obtain ⟨l0, e0, hD⟩ := dSl_elim hD; obtain ⟨l5, e5, hD⟩ := dSl_elim hD; obtain ⟨l6, e6, hD⟩ := dSl_elim hD; obtain ⟨n7, e7, hD⟩ := dInt_elim hD; obtain ⟨n8, e8, hD⟩ := dInt_elim hD; exact F67_4_ok R J1 l0 l5 l6 n7 n8 ds' w' ρ' e0 e5 e6 e7 e8 hD) h
theorem F67_6_ok (R : Rt) (J1 : (SV) → World → Prop) (l0 : SV) (l5 : SV) (l6 : SV) (ds : Ds) (w : World) (ρ : Env) (e0 : ρ 0 = .slice l0.a l0.len l0.cap) (e5 : ρ 5 = .slice l5.a l5.len l5.cap) (e6 : ρ 6 = .slice l6.a l6.len l6.cap) (h : F67_6 R J1 l0 l5 l6 ds w) :
    TrL Try.prog Try.f67.ntmps [c67_3_0_2] (F67_q5 R J1) ρ ds w :=
  TrL_one (Tr_block' (c := innerC c67_3_0_2) (by kernel_rfl) c67_3_0_2_l (F67_5_ok R J1 l0 l5 l6 ds w ρ e0 e5 e6 h))
theorem F67_7_ok (R : Rt) (J1 : (SV) → World → Prop) (l0 : SV) (l5 : SV) (l6 : SV) (ds : Ds) (w : World) (ρ : Env) (e0 : ρ 0 = .slice l0.a l0.len l0.cap) (e5 : ρ 5 = .slice l5.a l5.len l5.cap) (e6 : ρ 6 = .slice l6.a l6.len l6.cap) (h : F67_7 R J1 l0 l5 l6 ds w) :
    TrL Try.prog Try.f67.ntmps [c67_3_0_0, c67_3_0_1, c67_3_0_2] (F67_q5 R J1) ρ ds w :=
  TrL_piece (pre := [c67_3_0_0, c67_3_0_1]) (K := (F67_k10 R J1)) (X := F67_7 R J1 l0 l5 l6 ds w) (setAll_cons e0 (setAll_cons e5 (setAll_cons e6 setAll_nil))) (by kernel_rfl) (by kernel_rfl)
    (fun ρ' ds' w' hD => by
      obtain ⟨l0, e0, hD⟩ := dSl_elim hD; obtain ⟨l5, e5, hD⟩ := dSl_elim hD; obtain ⟨l6, e6, hD⟩ := dSl_elim hD; exact F67_6_ok R J1 l0 l5 l6 ds' w' ρ' e0 e5 e6 hD) h
theorem F67_8_ok (R : Rt) (l0 : SV) (l5 : SV) (l6 : SV) (ds : Ds) (w : World) (ρ : Env) (e0 : ρ 0 = .slice l0.a l0.len l0.cap) (e5 : ρ 5 = .slice l5.a l5.len l5.cap) (e6 : ρ 6 = .slice l6.a l6.len l6.cap) (h : F67_8 R l0 l5 l6 ds w) :
    TrL Try.prog Try.f67.ntmps [c67_3_0] (F67_q4 R) ρ ds w :=
  TrL_one (Tr_loop' (c := innerC c67_3_0) (σ := SV) (enc := (fun (s : SV) (ρ : Env) => ρ 6 = .slice s.a s.len s.cap)) (D := (fun ρ K => dSl (ρ 6) fun l6 => K l6)) (F := (fun (J1 : (SV) → World → Prop) (s : SV) (w : World) => F67_7 R J1 l0 l5 s ds w)) (s0 := l6) (by kernel_rfl) c67_3_0_l e6 (by kernel_rfl) (fun ρ K hD => by obtain ⟨l6, e6, hD⟩ := dSl_elim hD; exact ⟨l6, e6, hD⟩)
      (fun J1 s ρ' w' he ha hF => by
      have e6' := he
      exact F67_7_ok R J1 l0 l5 s ds w' ρ' ((ha 0 (by kernel_rfl)).trans e0) ((ha 5 (by kernel_rfl)).trans e5) e6' hF) h)
theorem F67_9_ok (R : Rt) (l0 : SV) (l5 : SV) (l6 : SV) (ds : Ds) (w : World) (ρ : Env) (e0 : ρ 0 = .slice l0.a l0.len l0.cap) (e5 : ρ 5 = .slice l5.a l5.len l5.cap) (e6 : ρ 6 = .slice l6.a l6.len l6.cap) (h : F67_9 R l0 l5 l6 ds w) :
    TrL Try.prog Try.f67.ntmps [c67_3, c67_4, c67_5] (F67_q1 R) ρ ds w :=
  TrL_head (K := (F67_k2 R)) (Tr_block' (c := innerC c67_3) (by kernel_rfl) c67_3_l (F67_8_ok R l0 l5 l6 ds w ρ e0 e5 e6 h))
    (fun ρ' ds' w' hD => by
      obtain ⟨l5, e5, hD⟩ := dSl_elim hD; exact F67_1_ok R l5 ds' w' ρ' e5 hD)
theorem F67_10_ok (R : Rt) (l0 : SV) (n1 : Int) (ds : Ds) (w : World) (ρ : Env) (e0 : ρ 0 = .slice l0.a l0.len l0.cap) (e1 : ρ 1 = .int .i64 n1) (h : F67_10 R l0 n1 ds w) :
    TrL Try.prog Try.f67.ntmps [c67_0, c67_1, c67_2, c67_3, c67_4, c67_5] (F67_q1 R) ρ ds w :=
  TrL_piece (pre := [c67_0, c67_1, c67_2]) (K := (F67_k11 R)) (X := F67_10 R l0 n1 ds w) (setAll_cons e0 (setAll_cons e1 setAll_nil)) (by kernel_rfl) (by kernel_rfl)
    (fun ρ' ds' w' hD => by
      obtain ⟨l0, e0, hD⟩ := dSl_elim hD; obtain ⟨l5, e5, hD⟩ := dSl_elim hD; obtain ⟨l6, e6, hD⟩ := dSl_elim hD; exact F67_9_ok R l0 l5 l6 ds' w' ρ' e0 e5 e6 hD) h
theorem F67_calls (l0 : SV) (n1 : Int) (w : World) (R : Rt) (h : F67_10 R l0 n1 [] w) : Calls Try.prog 67 #[.slice l0.a l0.len l0.cap, .int .i64 n1] w R :=
  calls_of_L (l := [c67_0, c67_1, c67_2, c67_3, c67_4, c67_5]) Try.func67 (by kernel_rfl) (by rw [Try.ntmps67]; exact Nat.le_of_ble_eq_true (by kernel_rfl)) c67_l
    (F67_10_ok R l0 n1 [] w _ rfl rfl h)
theorem F67_callsD (l0 : SV) (n1 : Int) (w : World) (R : Rt) (u : FrameMode) (h : F67_10 R l0 n1 [] w) : CallsD Try.prog 67 #[.slice l0.a l0.len l0.cap, .int .i64 n1] u w fun e u' w' => u' = u ∧ R e w' :=
  callsD_of_L (l := [c67_0, c67_1, c67_2, c67_3, c67_4, c67_5]) Try.func67 (by kernel_rfl) (by rw [Try.ntmps67]; exact Nat.le_of_ble_eq_true (by kernel_rfl)) (by kernel_rfl) c67_l
    (F67_10_ok R l0 n1 [] w _ rfl rfl h) u

/-! function 69: slices.Clone[[]string,string] -/
noncomputable def c69_0 : Code := itemAt (flat (bodyOf Try.f69)) 0
noncomputable def c69_1 : Code := itemAt (flat (bodyOf Try.f69)) 1
noncomputable def c69_2 : Code := itemAt (flat (bodyOf Try.f69)) 2
noncomputable def c69_3 : Code := itemAt (flat (bodyOf Try.f69)) 3
noncomputable def c69_4 : Code := itemAt (flat (bodyOf Try.f69)) 4
def F69_q1 (R : Rt) : EQ := endQ Try.prog Try.f69.results.toList R
def F69_1 (R : Rt) (l0 : SV) (ds : Ds) (w : World) : Prop :=
 ∃ b4 : Bool, ∃ w1 : World, (eqS .eql 23 (.tmp 3) (.const (.slice none 0 0)) (.slice l0.a l0.len l0.cap) (.slice none 0 0)).run Try.prog w = .ok (.bool b4) w1 ∧
 Br b4 (
 runD Try.prog ds w1 fun w2 =>
 R (.returned (.slice none 0 0)) w2) (
 alE (.cells #[] 9) w1 fun r5 w3 =>
 ∃ l7 : SV, ∃ w4 : World, (Builtin.append_ #[23, 23] 23 #[.slice (some ⟨r5, 0, none⟩) 0 0, .slice l0.a l0.len l0.cap]).run Try.prog w3 = .ok (.slice l7.a l7.len l7.cap) w4 ∧
 runD Try.prog ds w4 fun w5 =>
 R (.returned (.slice l7.a l7.len l7.cap)) w5)
theorem c69_l : flat (bodyOf Try.f69) = [c69_0, c69_1, c69_2, c69_3, c69_4] := by kernel_rfl
theorem F69_1_ok (R : Rt) (l0 : SV) (ds : Ds) (w : World) (ρ : Env) (e0 : ρ 0 = .slice l0.a l0.len l0.cap) (h : F69_1 R l0 ds w) :
    TrL Try.prog Try.f69.ntmps [c69_0, c69_1, c69_2, c69_3, c69_4] (F69_q1 R) ρ ds w :=
  TrL_leaf (X := F69_1 R l0 ds w) (setAll_cons e0 setAll_nil) (by kernel_rfl) (by kernel_rfl) h
theorem F69_calls (l0 : SV) (w : World) (R : Rt) (h : F69_1 R l0 [] w) : Calls Try.prog 69 #[.slice l0.a l0.len l0.cap] w R :=
  calls_of_L (l := [c69_0, c69_1, c69_2, c69_3, c69_4]) Try.func69 (by kernel_rfl) (by rw [Try.ntmps69]; exact Nat.le_of_ble_eq_true (by kernel_rfl)) c69_l
    (F69_1_ok R l0 [] w _ rfl h)
theorem F69_callsD (l0 : SV) (w : World) (R : Rt) (u : FrameMode) (h : F69_1 R l0 [] w) : CallsD Try.prog 69 #[.slice l0.a l0.len l0.cap] u w fun e u' w' => u' = u ∧ R e w' :=
  callsD_of_L (l := [c69_0, c69_1, c69_2, c69_3, c69_4]) Try.func69 (by kernel_rfl) (by rw [Try.ntmps69]; exact Nat.le_of_ble_eq_true (by kernel_rfl)) (by kernel_rfl) c69_l
    (F69_1_ok R l0 [] w _ rfl h) u

/-! function 70: cabinetry/cabinetryref24.sameTexts -/
noncomputable def c70_0 : Code := itemAt (flat (bodyOf Try.f70)) 0
noncomputable def c70_1 : Code := itemAt (flat (bodyOf Try.f70)) 1
noncomputable def c70_2 : Code := itemAt (flat (bodyOf Try.f70)) 2
noncomputable def c70_3 : Code := itemAt (flat (bodyOf Try.f70)) 3
noncomputable def c70_4 : Code := itemAt (flat (bodyOf Try.f70)) 4
noncomputable def c70_5 : Code := itemAt (flat (bodyOf Try.f70)) 5
noncomputable def c70_6 : Code := itemAt (flat (bodyOf Try.f70)) 6
noncomputable def c70_4_0 : Code := itemAt (flat (innerC c70_4)) 0
noncomputable def c70_4_0_0 : Code := itemAt (flat (innerC c70_4_0)) 0
noncomputable def c70_4_0_1 : Code := itemAt (flat (innerC c70_4_0)) 1
noncomputable def c70_4_0_2 : Code := itemAt (flat (innerC c70_4_0)) 2
noncomputable def c70_4_0_3 : Code := itemAt (flat (innerC c70_4_0)) 3
def F70_q1 (R : Rt) : EQ := endQ Try.prog Try.f70.results.toList R
def F70_1 (R : Rt) (ds : Ds) (w : World) : Prop :=
 runD Try.prog ds w fun w1 =>
 R (.returned (.bool true)) w1
def F70_k2 (R : Rt) : EP := (fun ρ ds w => F70_1 R ds w)
def F70_q3 (R : Rt) : EQ := (thenQ (F70_k2 R) (F70_q1 R))
def F70_q4 (R : Rt) : EQ := (blockQ 0 (F70_q3 R))
def F70_q5 (R : Rt) (J1 : (Int) → World → Prop) : EQ := (thenQ (fun ρ _ w => dInt .i64 (ρ 5) fun n5 => J1 n5 w) (F70_q4 R))
def F70_2 (R : Rt) (J1 : (Int) → World → Prop) (l0 : SV) (l1 : SV) (n5 : Int) (ds : Ds) (w : World) : Prop :=
 Br (decide (n5 < ((l0.len : Nat) : Int))) (
 dwE w fun w2 =>
 ∃ a3 : Addr, l0.a = some a3 ∧ 0 ≤ n5 ∧ n5 < ((l0.len : Nat) : Int) ∧
 ∃ s20 : ByteArray, w2.cell? (a3.add (n5.toNat * 1)) = some (.string s20) ∧
 ∃ a4 : Addr, l1.a = some a4 ∧ 0 ≤ n5 ∧ n5 < ((l1.len : Nat) : Int) ∧
 ∃ s24 : ByteArray, w2.cell? (a4.add (n5.toNat * 1)) = some (.string s24) ∧
 Br (!(s20.toList == s24.toList)) (
 runD Try.prog ds w2 fun w5 =>
 R (.returned (.bool false)) w5) (
 J1 (IntKind.i64.wrap (n5 + 1)) w2)) (
 F70_1 R ds w)
def F70_3 (R : Rt) (l0 : SV) (l1 : SV) (n5 : Int) (ds : Ds) (w : World) : Prop :=
 loopT (fun (J1 : (Int) → World → Prop) (s : Int) (w : World) => F70_2 R J1 l0 l1 s ds w) n5 w
@[reducible] def F70_4 (R : Rt) (l0 : SV) (l1 : SV) (n5 : Int) (ds : Ds) (w : World) : Prop := F70_3 R l0 l1 n5 ds w
def F70_k6 (R : Rt) : EP := (fun ρ ds w => dSl (ρ 0) fun l0 => dSl (ρ 1) fun l1 => dInt .i64 (ρ 5) fun n5 => F70_4 R l0 l1 n5 ds w)
def F70_5 (R : Rt) (l0 : SV) (l1 : SV) (ds : Ds) (w : World) : Prop :=
 Br (((l0.len : Nat) : Int) != ((l1.len : Nat) : Int)) (
 runD Try.prog ds w fun w6 =>
 R (.returned (.bool false)) w6) (
 F70_4 R l0 l1 0 ds w)
theorem c70_l : flat (bodyOf Try.f70) = [c70_0, c70_1, c70_2, c70_3, c70_4, c70_5, c70_6] := by kernel_rfl
theorem c70_4_l : flat (innerC c70_4) = [c70_4_0] := by kernel_rfl
theorem c70_4_0_l : flat (innerC c70_4_0) = [c70_4_0_0, c70_4_0_1, c70_4_0_2, c70_4_0_3] := by kernel_rfl
theorem F70_1_ok (R : Rt) (ds : Ds) (w : World) (ρ : Env) (h : F70_1 R ds w) :
    TrL Try.prog Try.f70.ntmps [c70_5, c70_6] (F70_q1 R) ρ ds w :=
  TrL_leaf (X := F70_1 R ds w) setAll_nil (by kernel_rfl) (by kernel_rfl) h
theorem F70_2_ok (R : Rt) (J1 : (Int) → World → Prop) (l0 : SV) (l1 : SV) (n5 : Int) (ds : Ds) (w : World) (ρ : Env) (e0 : ρ 0 = .slice l0.a l0.len l0.cap) (e1 : ρ 1 = .slice l1.a l1.len l1.cap) (e5 : ρ 5 = .int .i64 n5) (h : F70_2 R J1 l0 l1 n5 ds w) :
    TrL Try.prog Try.f70.ntmps [c70_4_0_0, c70_4_0_1, c70_4_0_2, c70_4_0_3] (F70_q5 R J1) ρ ds w :=
  TrL_leaf (X := F70_2 R J1 l0 l1 n5 ds w) (setAll_cons e0 (setAll_cons e1 (setAll_cons e5 setAll_nil))) (by kernel_rfl) (by kernel_rfl) h
theorem F70_3_ok (R : Rt) (l0 : SV) (l1 : SV) (n5 : Int) (ds : Ds) (w : World) (ρ : Env) (e0 : ρ 0 = .slice l0.a l0.len l0.cap) (e1 : ρ 1 = .slice l1.a l1.len l1.cap) (e5 : ρ 5 = .int .i64 n5) (h : F70_3 R l0 l1 n5 ds w) :
    TrL Try.prog Try.f70.ntmps [c70_4_0] (F70_q4 R) ρ ds w :=
  TrL_one (Tr_loop' (c := innerC c70_4_0) (σ := Int) (enc := (fun (s : Int) (ρ : Env) => ρ 5 = .int .i64 s)) (D := (fun ρ K => dInt .i64 (ρ 5) fun n5 => K n5)) (F := (fun (J1 : (Int) → World → Prop) (s : Int) (w : World) => F70_2 R J1 l0 l1 s ds w)) (s0 := n5) (by kernel_rfl) c70_4_0_l e5 (by kernel_rfl) (fun ρ K hD => by obtain ⟨n5, e5, hD⟩ := dInt_elim hD; exact ⟨n5, e5, hD⟩)
      (fun J1 s ρ' w' he ha hF => by
      have e5' := he
      exact F70_2_ok R J1 l0 l1 s ds w' ρ' ((ha 0 (by kernel_rfl)).trans e0) ((ha 1 (by kernel_rfl)).trans e1) e5' hF) h)
theorem F70_4_ok (R : Rt) (l0 : SV) (l1 : SV) (n5 : Int) (ds : Ds) (w : World) (ρ : Env) (e0 : ρ 0 = .slice l0.a l0.len l0.cap) (e1 : ρ 1 = .slice l1.a l1.len l1.cap) (e5 : ρ 5 = .int .i64 n5) (h : F70_4 R l0 l1 n5 ds w) :
    TrL Try.prog Try.f70.ntmps [c70_4, c70_5, c70_6] (F70_q1 R) ρ ds w :=
  TrL_head (K := (F70_k2 R)) (Tr_block' (c := innerC c70_4) (by kernel_rfl) c70_4_l (F70_3_ok R l0 l1 n5 ds w ρ e0 e1 e5 h))
    (fun ρ' ds' w' hD => by
      exact F70_1_ok R ds' w' ρ'  hD)
theorem F70_5_ok (R : Rt) (l0 : SV) (l1 : SV) (ds : Ds) (w : World) (ρ : Env) (e0 : ρ 0 = .slice l0.a l0.len l0.cap) (e1 : ρ 1 = .slice l1.a l1.len l1.cap) (h : F70_5 R l0 l1 ds w) :
    TrL Try.prog Try.f70.ntmps [c70_0, c70_1, c70_2, c70_3, c70_4, c70_5, c70_6] (F70_q1 R) ρ ds w :=
  TrL_piece (pre := [c70_0, c70_1, c70_2, c70_3]) (K := (F70_k6 R)) (X := F70_5 R l0 l1 ds w) (setAll_cons e0 (setAll_cons e1 setAll_nil)) (by kernel_rfl) (by kernel_rfl)
    (fun ρ' ds' w' hD => by
      obtain ⟨l0, e0, hD⟩ := dSl_elim hD; obtain ⟨l1, e1, hD⟩ := dSl_elim hD; obtain ⟨n5, e5, hD⟩ := dInt_elim hD; exact F70_4_ok R l0 l1 n5 ds' w' ρ' e0 e1 e5 hD) h
theorem F70_calls (l0 : SV) (l1 : SV) (w : World) (R : Rt) (h : F70_5 R l0 l1 [] w) : Calls Try.prog 70 #[.slice l0.a l0.len l0.cap, .slice l1.a l1.len l1.cap] w R :=
  calls_of_L (l := [c70_0, c70_1, c70_2, c70_3, c70_4, c70_5, c70_6]) Try.func70 (by kernel_rfl) (by rw [Try.ntmps70]; exact Nat.le_of_ble_eq_true (by kernel_rfl)) c70_l
    (F70_5_ok R l0 l1 [] w _ rfl rfl h)
theorem F70_callsD (l0 : SV) (l1 : SV) (w : World) (R : Rt) (u : FrameMode) (h : F70_5 R l0 l1 [] w) : CallsD Try.prog 70 #[.slice l0.a l0.len l0.cap, .slice l1.a l1.len l1.cap] u w fun e u' w' => u' = u ∧ R e w' :=
  callsD_of_L (l := [c70_0, c70_1, c70_2, c70_3, c70_4, c70_5, c70_6]) Try.func70 (by kernel_rfl) (by rw [Try.ntmps70]; exact Nat.le_of_ble_eq_true (by kernel_rfl)) (by kernel_rfl) c70_l
    (F70_5_ok R l0 l1 [] w _ rfl rfl h) u

/-! function 102: cabinetry/link.reach$1 -/
noncomputable def c102_0 : Code := itemAt (flat (bodyOf Try.f102)) 0
noncomputable def c102_1 : Code := itemAt (flat (bodyOf Try.f102)) 1
noncomputable def c102_2 : Code := itemAt (flat (bodyOf Try.f102)) 2
noncomputable def c102_3 : Code := itemAt (flat (bodyOf Try.f102)) 3
noncomputable def c102_4 : Code := itemAt (flat (bodyOf Try.f102)) 4
noncomputable def c102_4_0 : Code := itemAt (flat (innerC c102_4)) 0
noncomputable def c102_4_0_0 : Code := itemAt (flat (innerC c102_4_0)) 0
noncomputable def c102_4_0_1 : Code := itemAt (flat (innerC c102_4_0)) 1
noncomputable def c102_4_0_2 : Code := itemAt (flat (innerC c102_4_0)) 2
noncomputable def c102_4_0_3 : Code := itemAt (flat (innerC c102_4_0)) 3
def F102_q1 (R : Rt) : EQ := endQ Try.prog Try.f102.results.toList R
def F102_q2 (R : Rt) : EQ := (blockQ 0 (F102_q1 R))
def F102_q3 (R : Rt) (J1 : (Int) → World → Prop) : EQ := (thenQ (fun ρ _ w => dInt .i64 (ρ 17) fun n17 => J1 n17 w) (F102_q2 R))
def F102_1 (R : Rt) (J1 : (Int) → World → Prop) (v3 : Value) (l15 : SV) (n16 : Int) (n17 : Int) (ds : Ds) (w : World) : Prop :=
 Br (decide (n17 < n16)) (
 ∃ a1 : Addr, l15.a = some a1 ∧ 0 ≤ n17 ∧ n17 < ((l15.len : Nat) : Int) ∧
 ∃ s20 : ByteArray, w.cell? (a1.add (n17.toNat * 1)) = some (.string s20) ∧
 addrE v3 fun a2 =>
 ∃ v21 : Value, w.cell? a2 = some (v21) ∧
 fnE v21 fun f23 first23 cap23 =>
 hasBody Try.prog f23 = true ∧ Calls Try.prog f23 (first23.toList ++ (([.string s20] : List Value) ++ cap23.toList)).toArray w fun e w3 =>
 e = .returned (.tuple #[]) ∧
 J1 (IntKind.i64.wrap (n17 + 1)) w3) (
 runD Try.prog ds w fun w4 =>
 R (.returned (.tuple #[])) w4)
def F102_2 (R : Rt) (v3 : Value) (l15 : SV) (n16 : Int) (n17 : Int) (ds : Ds) (w : World) : Prop :=
 loopT (fun (J1 : (Int) → World → Prop) (s : Int) (w : World) => F102_1 R J1 v3 l15 n16 s ds w) n17 w
@[reducible] def F102_3 (R : Rt) (v3 : Value) (l15 : SV) (n16 : Int) (n17 : Int) (ds : Ds) (w : World) : Prop := F102_2 R v3 l15 n16 n17 ds w
def F102_k4 (R : Rt) : EP := (fun ρ ds w => dSl (ρ 15) fun l15 => dInt .i64 (ρ 16) fun n16 => dInt .i64 (ρ 17) fun n17 => F102_3 R (ρ 3) l15 n16 n17 ds w)
def F102_4 (R : Rt) (s0 : ByteArray) (v1 : Value) (v2 : Value) (v3 : Value) (ds : Ds) (w : World) : Prop :=
 addrE v1 fun a5 =>
 ∃ m7 : Option Nat, w.cell? a5 = some (.map m7) ∧
 ∃ b9 : Bool, ∃ w6 : World, (Instr.lookup 82 (.map m7) (.string s0) false).run Try.prog w = .ok (.bool b9) w6 ∧
 Br b9 (
 runD Try.prog ds w6 fun w7 =>
 R (.returned (.tuple #[])) w7) (
 addrE v1 fun a8 =>
 ∃ m10 : Option Nat, w6.cell? a8 = some (.map m10) ∧
 doE Try.prog (Instr.mapUpdate 82 (.map m10) (.string s0) (.bool true)) w6 fun w9 =>
 addrE v2 fun a10 =>
 ∃ m12 : Option Nat, w9.cell? a10 = some (.map m12) ∧
 ∃ n14_0 : Int, ∃ l14_1 : SV, ∃ w11 : World, (Instr.lookup 57 (.map m12) (.string s0) false).run Try.prog w9 = .ok (.agg #[.int .i64 n14_0, .slice l14_1.a l14_1.len l14_1.cap]) w11 ∧
 F102_3 R (v3) l14_1 ((l14_1.len : Nat) : Int) 0 ds w11)
theorem c102_l : flat (bodyOf Try.f102) = [c102_0, c102_1, c102_2, c102_3, c102_4] := by kernel_rfl
theorem c102_4_l : flat (innerC c102_4) = [c102_4_0] := by kernel_rfl
theorem c102_4_0_l : flat (innerC c102_4_0) = [c102_4_0_0, c102_4_0_1, c102_4_0_2, c102_4_0_3] := by kernel_rfl
theorem F102_1_ok (R : Rt) (J1 : (Int) → World → Prop) (v3 : Value) (l15 : SV) (n16 : Int) (n17 : Int) (ds : Ds) (w : World) (ρ : Env) (e3 : ρ 3 = v3) (e15 : ρ 15 = .slice l15.a l15.len l15.cap) (e16 : ρ 16 = .int .i64 n16) (e17 : ρ 17 = .int .i64 n17) (h : F102_1 R J1 v3 l15 n16 n17 ds w) :
    TrL Try.prog Try.f102.ntmps [c102_4_0_0, c102_4_0_1, c102_4_0_2, c102_4_0_3] (F102_q3 R J1) ρ ds w :=
  TrL_leaf (X := F102_1 R J1 v3 l15 n16 n17 ds w) (setAll_cons e3 (setAll_cons e15 (setAll_cons e16 (setAll_cons e17 setAll_nil)))) (by kernel_rfl) (by kernel_rfl) h
theorem F102_2_ok (R : Rt) (v3 : Value) (l15 : SV) (n16 : Int) (n17 : Int) (ds : Ds) (w : World) (ρ : Env) (e3 : ρ 3 = v3) (e15 : ρ 15 = .slice l15.a l15.len l15.cap) (e16 : ρ 16 = .int .i64 n16) (e17 : ρ 17 = .int .i64 n17) (h : F102_2 R v3 l15 n16 n17 ds w) :
    TrL Try.prog Try.f102.ntmps [c102_4_0] (F102_q2 R) ρ ds w :=
  TrL_one (Tr_loop' (c := innerC c102_4_0) (σ := Int) (enc := (fun (s : Int) (ρ : Env) => ρ 17 = .int .i64 s)) (D := (fun ρ K => dInt .i64 (ρ 17) fun n17 => K n17)) (F := (fun (J1 : (Int) → World → Prop) (s : Int) (w : World) => F102_1 R J1 v3 l15 n16 s ds w)) (s0 := n17) (by kernel_rfl) c102_4_0_l e17 (by kernel_rfl) (fun ρ K hD => by obtain ⟨n17, e17, hD⟩ := dInt_elim hD; exact ⟨n17, e17, hD⟩)
      (fun J1 s ρ' w' he ha hF => by
      have e17' := he
      exact F102_1_ok R J1 v3 l15 n16 s ds w' ρ' ((ha 3 (by kernel_rfl)).trans e3) ((ha 15 (by kernel_rfl)).trans e15) ((ha 16 (by kernel_rfl)).trans e16) e17' hF) h)
theorem F102_3_ok (R : Rt) (v3 : Value) (l15 : SV) (n16 : Int) (n17 : Int) (ds : Ds) (w : World) (ρ : Env) (e3 : ρ 3 = v3) (e15 : ρ 15 = .slice l15.a l15.len l15.cap) (e16 : ρ 16 = .int .i64 n16) (e17 : ρ 17 = .int .i64 n17) (h : F102_3 R v3 l15 n16 n17 ds w) :
    TrL Try.prog Try.f102.ntmps [c102_4] (F102_q1 R) ρ ds w :=
  TrL_one (Tr_block' (c := innerC c102_4) (by kernel_rfl) c102_4_l (F102_2_ok R v3 l15 n16 n17 ds w ρ e3 e15 e16 e17 h))
theorem F102_4_ok (R : Rt) (s0 : ByteArray) (v1 : Value) (v2 : Value) (v3 : Value) (ds : Ds) (w : World) (ρ : Env) (e0 : ρ 0 = .string s0) (e1 : ρ 1 = v1) (e2 : ρ 2 = v2) (e3 : ρ 3 = v3) (h : F102_4 R s0 v1 v2 v3 ds w) :
    TrL Try.prog Try.f102.ntmps [c102_0, c102_1, c102_2, c102_3, c102_4] (F102_q1 R) ρ ds w :=
  TrL_piece (pre := [c102_0, c102_1, c102_2, c102_3]) (K := (F102_k4 R)) (X := F102_4 R s0 v1 v2 v3 ds w) (setAll_cons e0 (setAll_cons e1 (setAll_cons e2 (setAll_cons e3 setAll_nil)))) (by kernel_rfl) (by kernel_rfl)
    (fun ρ' ds' w' hD => by
      obtain ⟨l15, e15, hD⟩ := dSl_elim hD; obtain ⟨n16, e16, hD⟩ := dInt_elim hD; obtain ⟨n17, e17, hD⟩ := dInt_elim hD; exact F102_3_ok R (ρ' 3) l15 n16 n17 ds' w' ρ' rfl e15 e16 e17 hD) h
theorem F102_calls (s0 : ByteArray) (v1 : Value) (v2 : Value) (v3 : Value) (w : World) (R : Rt) (h : F102_4 R s0 v1 v2 v3 [] w) : Calls Try.prog 102 #[.string s0, v1, v2, v3] w R :=
  calls_of_L (l := [c102_0, c102_1, c102_2, c102_3, c102_4]) Try.func102 (by kernel_rfl) (by rw [Try.ntmps102]; exact Nat.le_of_ble_eq_true (by kernel_rfl)) c102_l
    (F102_4_ok R s0 v1 v2 v3 [] w _ rfl rfl rfl rfl h)
theorem F102_callsD (s0 : ByteArray) (v1 : Value) (v2 : Value) (v3 : Value) (w : World) (R : Rt) (u : FrameMode) (h : F102_4 R s0 v1 v2 v3 [] w) : CallsD Try.prog 102 #[.string s0, v1, v2, v3] u w fun e u' w' => u' = u ∧ R e w' :=
  callsD_of_L (l := [c102_0, c102_1, c102_2, c102_3, c102_4]) Try.func102 (by kernel_rfl) (by rw [Try.ntmps102]; exact Nat.le_of_ble_eq_true (by kernel_rfl)) (by kernel_rfl) c102_l
    (F102_4_ok R s0 v1 v2 v3 [] w _ rfl rfl rfl rfl h) u

/-! function 104: slices.Clone[[]int,int] -/
noncomputable def c104_0 : Code := itemAt (flat (bodyOf Try.f104)) 0
noncomputable def c104_1 : Code := itemAt (flat (bodyOf Try.f104)) 1
noncomputable def c104_2 : Code := itemAt (flat (bodyOf Try.f104)) 2
noncomputable def c104_3 : Code := itemAt (flat (bodyOf Try.f104)) 3
noncomputable def c104_4 : Code := itemAt (flat (bodyOf Try.f104)) 4
def F104_q1 (R : Rt) : EQ := endQ Try.prog Try.f104.results.toList R
def F104_1 (R : Rt) (l0 : SV) (ds : Ds) (w : World) : Prop :=
 ∃ b4 : Bool, ∃ w1 : World, (eqS .eql 30 (.tmp 3) (.const (.slice none 0 0)) (.slice l0.a l0.len l0.cap) (.slice none 0 0)).run Try.prog w = .ok (.bool b4) w1 ∧
 Br b4 (
 runD Try.prog ds w1 fun w2 =>
 R (.returned (.slice none 0 0)) w2) (
 alE (.cells #[] 3) w1 fun r5 w3 =>
 ∃ l7 : SV, ∃ w4 : World, (Builtin.append_ #[30, 30] 30 #[.slice (some ⟨r5, 0, none⟩) 0 0, .slice l0.a l0.len l0.cap]).run Try.prog w3 = .ok (.slice l7.a l7.len l7.cap) w4 ∧
 runD Try.prog ds w4 fun w5 =>
 R (.returned (.slice l7.a l7.len l7.cap)) w5)
theorem c104_l : flat (bodyOf Try.f104) = [c104_0, c104_1, c104_2, c104_3, c104_4] := by kernel_rfl
theorem F104_1_ok (R : Rt) (l0 : SV) (ds : Ds) (w : World) (ρ : Env) (e0 : ρ 0 = .slice l0.a l0.len l0.cap) (h : F104_1 R l0 ds w) :
    TrL Try.prog Try.f104.ntmps [c104_0, c104_1, c104_2, c104_3, c104_4] (F104_q1 R) ρ ds w :=
  TrL_leaf (X := F104_1 R l0 ds w) (setAll_cons e0 setAll_nil) (by kernel_rfl) (by kernel_rfl) h
theorem F104_calls (l0 : SV) (w : World) (R : Rt) (h : F104_1 R l0 [] w) : Calls Try.prog 104 #[.slice l0.a l0.len l0.cap] w R :=
  calls_of_L (l := [c104_0, c104_1, c104_2, c104_3, c104_4]) Try.func104 (by kernel_rfl) (by rw [Try.ntmps104]; exact Nat.le_of_ble_eq_true (by kernel_rfl)) c104_l
    (F104_1_ok R l0 [] w _ rfl h)
theorem F104_callsD (l0 : SV) (w : World) (R : Rt) (u : FrameMode) (h : F104_1 R l0 [] w) : CallsD Try.prog 104 #[.slice l0.a l0.len l0.cap] u w fun e u' w' => u' = u ∧ R e w' :=
  callsD_of_L (l := [c104_0, c104_1, c104_2, c104_3, c104_4]) Try.func104 (by kernel_rfl) (by rw [Try.ntmps104]; exact Nat.le_of_ble_eq_true (by kernel_rfl)) (by kernel_rfl) c104_l
    (F104_1_ok R l0 [] w _ rfl h) u

/-! function 105: slices.Clone[[][]string,[]string] -/
noncomputable def c105_0 : Code := itemAt (flat (bodyOf Try.f105)) 0
noncomputable def c105_1 : Code := itemAt (flat (bodyOf Try.f105)) 1
noncomputable def c105_2 : Code := itemAt (flat (bodyOf Try.f105)) 2
noncomputable def c105_3 : Code := itemAt (flat (bodyOf Try.f105)) 3
noncomputable def c105_4 : Code := itemAt (flat (bodyOf Try.f105)) 4
def F105_q1 (R : Rt) : EQ := endQ Try.prog Try.f105.results.toList R
def F105_1 (R : Rt) (l0 : SV) (ds : Ds) (w : World) : Prop :=
 ∃ b4 : Bool, ∃ w1 : World, (eqS .eql 31 (.tmp 3) (.const (.slice none 0 0)) (.slice l0.a l0.len l0.cap) (.slice none 0 0)).run Try.prog w = .ok (.bool b4) w1 ∧
 Br b4 (
 runD Try.prog ds w1 fun w2 =>
 R (.returned (.slice none 0 0)) w2) (
 alE (.cells #[] 23) w1 fun r5 w3 =>
 ∃ l7 : SV, ∃ w4 : World, (Builtin.append_ #[31, 31] 31 #[.slice (some ⟨r5, 0, none⟩) 0 0, .slice l0.a l0.len l0.cap]).run Try.prog w3 = .ok (.slice l7.a l7.len l7.cap) w4 ∧
 runD Try.prog ds w4 fun w5 =>
 R (.returned (.slice l7.a l7.len l7.cap)) w5)
theorem c105_l : flat (bodyOf Try.f105) = [c105_0, c105_1, c105_2, c105_3, c105_4] := by kernel_rfl
theorem F105_1_ok (R : Rt) (l0 : SV) (ds : Ds) (w : World) (ρ : Env) (e0 : ρ 0 = .slice l0.a l0.len l0.cap) (h : F105_1 R l0 ds w) :
    TrL Try.prog Try.f105.ntmps [c105_0, c105_1, c105_2, c105_3, c105_4] (F105_q1 R) ρ ds w :=
  TrL_leaf (X := F105_1 R l0 ds w) (setAll_cons e0 setAll_nil) (by kernel_rfl) (by kernel_rfl) h
theorem F105_calls (l0 : SV) (w : World) (R : Rt) (h : F105_1 R l0 [] w) : Calls Try.prog 105 #[.slice l0.a l0.len l0.cap] w R :=
  calls_of_L (l := [c105_0, c105_1, c105_2, c105_3, c105_4]) Try.func105 (by kernel_rfl) (by rw [Try.ntmps105]; exact Nat.le_of_ble_eq_true (by kernel_rfl)) c105_l
    (F105_1_ok R l0 [] w _ rfl h)
theorem F105_callsD (l0 : SV) (w : World) (R : Rt) (u : FrameMode) (h : F105_1 R l0 [] w) : CallsD Try.prog 105 #[.slice l0.a l0.len l0.cap] u w fun e u' w' => u' = u ∧ R e w' :=
  callsD_of_L (l := [c105_0, c105_1, c105_2, c105_3, c105_4]) Try.func105 (by kernel_rfl) (by rw [Try.ntmps105]; exact Nat.le_of_ble_eq_true (by kernel_rfl)) (by kernel_rfl) c105_l
    (F105_1_ok R l0 [] w _ rfl h) u

end Go.Proofs.Ytcnenlmhbpijlaa
