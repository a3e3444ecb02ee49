import Derived.Test.YtcnenlmhbpijlaaProg
import Derived.Test.YtcnenlmhbpijlaaShEight
/- Shallow texts of functions, printed by program, each checked by the kernel against the loaded code. No condition. -/
set_option maxRecDepth 100000
set_option linter.unusedVariables false
namespace Go.Proofs.Ytcnenlmhbpijlaa
open Go.Sh
/-! function 9: cabinetry/cabinetrylaw24.LinkMoves -/
noncomputable def c9_0 : Code := itemAt (flat (bodyOf Try.f9)) 0
noncomputable def c9_1 : Code := itemAt (flat (bodyOf Try.f9)) 1
noncomputable def c9_2 : Code := itemAt (flat (bodyOf Try.f9)) 2
noncomputable def c9_3 : Code := itemAt (flat (bodyOf Try.f9)) 3
noncomputable def c9_4 : Code := itemAt (flat (bodyOf Try.f9)) 4
noncomputable def c9_5 : Code := itemAt (flat (bodyOf Try.f9)) 5
noncomputable def c9_6 : Code := itemAt (flat (bodyOf Try.f9)) 6
def F9_q1 (R : Rt) : EQ := endQ Try.prog Try.f9.results.toList R
def F9_1 (R : Rt) (l0 : SV) (l7 : SV) (n8 : Int) (l9 : SV) (n10 : Int) (ds : Ds) (w : World) : Prop :=
 Calls Try.prog 33 #[.slice l7.a l7.len l7.cap, .slice l9.a l9.len l9.cap] w fun e w1 =>
 ∃ b35 : Bool, e = .returned (.bool b35) ∧
 Br b35 (
 Br (n8 == n10) (
 Calls Try.prog 36 #[.slice l7.a l7.len l7.cap, .slice l0.a l0.len l0.cap] w1 fun e w2 =>
 ∃ b44 : Bool, e = .returned (.bool b44) ∧
 Calls Try.prog 33 #[.slice l9.a l9.len l9.cap, .slice l0.a l0.len l0.cap] w2 fun e w3 =>
 ∃ b47 : Bool, e = .returned (.bool b47) ∧
 Br (b44 == b47) (
 Calls Try.prog 36 #[.slice l0.a l0.len l0.cap, .slice l0.a l0.len l0.cap] w3 fun e w4 =>
 ∃ b53 : Bool, e = .returned (.bool b53) ∧
 Br b53 (
 Calls Try.prog 16 #[] w4 fun e w5 =>
 ∃ b56 : Bool, e = .returned (.bool b56) ∧
 runD Try.prog ds w5 fun w6 =>
 R (.returned (.bool b56)) w6) (
 runD Try.prog ds w4 fun w7 =>
 R (.returned (.bool false)) w7)) (
 runD Try.prog ds w3 fun w8 =>
 R (.returned (.bool false)) w8)) (
 runD Try.prog ds w1 fun w9 =>
 R (.returned (.bool false)) w9)) (
 runD Try.prog ds w1 fun w10 =>
 R (.returned (.bool false)) w10)
def F9_k2 (R : Rt) : EP := (fun ρ ds w => dSl (ρ 0) fun l0 => dSl (ρ 7) fun l7 => dInt .i64 (ρ 8) fun n8 => dSl (ρ 9) fun l9 => dInt .i64 (ρ 10) fun n10 => F9_1 R l0 l7 n8 l9 n10 ds w)
def F9_2 (R : Rt) (l0 : SV) (s1 : ByteArray) (n2 : Int) (ds : Ds) (w : World) : Prop :=
 Calls Try.prog 14 #[.slice l0.a l0.len l0.cap] w fun e w11 =>
 ∃ b12 : Bool, e = .returned (.bool b12) ∧
 Br b12 (
 Calls Try.prog 16 #[] w11 fun e w12 =>
 ∃ b18 : Bool, e = .returned (.bool b18) ∧
 runD Try.prog ds w12 fun w13 =>
 R (.returned (.bool b18)) w13) (
 Br (decide (((s1.size : Nat) : Int) > 65536)) (
 Calls Try.prog 16 #[] w11 fun e w14 =>
 ∃ b18 : Bool, e = .returned (.bool b18) ∧
 runD Try.prog ds w14 fun w15 =>
 R (.returned (.bool b18)) w15) (
 Calls Try.prog 34 #[.slice l0.a l0.len l0.cap, .string s1, .int .i64 n2] w11 fun e w16 =>
 ∃ l23_0 : SV, ∃ n23_1 : Int, e = .returned (.tuple #[.slice l23_0.a l23_0.len l23_0.cap, .int .i64 n23_1]) ∧
 Calls Try.prog 35 #[.slice l0.a l0.len l0.cap, .string s1, .int .i64 n2] w16 fun e w17 =>
 ∃ l30_0 : SV, ∃ n30_1 : Int, e = .returned (.tuple #[.slice l30_0.a l30_0.len l30_0.cap, .int .i64 n30_1]) ∧
 F9_1 R l0 l23_0 n23_1 l30_0 n30_1 ds w17))
theorem c9_l : flat (bodyOf Try.f9) = [c9_0, c9_1, c9_2, c9_3, c9_4, c9_5, c9_6] := by kernel_rfl
theorem F9_1_ok (R : Rt) (l0 : SV) (l7 : SV) (n8 : Int) (l9 : SV) (n10 : Int) (ds : Ds) (w : World) (ρ : Env) (e0 : ρ 0 = .slice l0.a l0.len l0.cap) (e7 : ρ 7 = .slice l7.a l7.len l7.cap) (e8 : ρ 8 = .int .i64 n8) (e9 : ρ 9 = .slice l9.a l9.len l9.cap) (e10 : ρ 10 = .int .i64 n10) (h : F9_1 R l0 l7 n8 l9 n10 ds w) :
    TrL Try.prog Try.f9.ntmps [c9_5, c9_6] (F9_q1 R) ρ ds w :=
  TrL_leaf (X := F9_1 R l0 l7 n8 l9 n10 ds w) (setAll_cons e0 (setAll_cons e7 (setAll_cons e8 (setAll_cons e9 (setAll_cons e10 setAll_nil))))) (by kernel_rfl) (by kernel_rfl) h
theorem F9_2_ok (R : Rt) (l0 : SV) (s1 : ByteArray) (n2 : Int) (ds : Ds) (w : World) (ρ : Env) (e0 : ρ 0 = .slice l0.a l0.len l0.cap) (e1 : ρ 1 = .string s1) (e2 : ρ 2 = .int .i64 n2) (h : F9_2 R l0 s1 n2 ds w) :
    TrL Try.prog Try.f9.ntmps [c9_0, c9_1, c9_2, c9_3, c9_4, c9_5, c9_6] (F9_q1 R) ρ ds w :=
  TrL_piece (pre := [c9_0, c9_1, c9_2, c9_3, c9_4]) (K := (F9_k2 R)) (X := F9_2 R l0 s1 n2 ds w) (setAll_cons e0 (setAll_cons e1 (setAll_cons e2 setAll_nil))) (by kernel_rfl) (by kernel_rfl)
    (fun ρ' ds' w' hD => by
      obtain ⟨l0, e0, hD⟩ := dSl_elim hD; obtain ⟨l7, e7, hD⟩ := dSl_elim hD; obtain ⟨n8, e8, hD⟩ := dInt_elim hD; obtain ⟨l9, e9, hD⟩ := dSl_elim hD; obtain ⟨n10, e10, hD⟩ := dInt_elim hD; exact F9_1_ok R l0 l7 n8 l9 n10 ds' w' ρ' e0 e7 e8 e9 e10 hD) h
theorem F9_calls (l0 : SV) (s1 : ByteArray) (n2 : Int) (w : World) (R : Rt) (h : F9_2 R l0 s1 n2 [] w) : Calls Try.prog 9 #[.slice l0.a l0.len l0.cap, .string s1, .int .i64 n2] w R :=
  calls_of_L (l := [c9_0, c9_1, c9_2, c9_3, c9_4, c9_5, c9_6]) Try.func9 (by kernel_rfl) (by rw [Try.ntmps9]; exact Nat.le_of_ble_eq_true (by kernel_rfl)) c9_l
    (F9_2_ok R l0 s1 n2 [] w _ rfl rfl rfl h)
theorem F9_callsD (l0 : SV) (s1 : ByteArray) (n2 : Int) (w : World) (R : Rt) (u : FrameMode) (h : F9_2 R l0 s1 n2 [] w) : CallsD Try.prog 9 #[.slice l0.a l0.len l0.cap, .string s1, .int .i64 n2] u w fun e u' w' => u' = u ∧ R e w' :=
  callsD_of_L (l := [c9_0, c9_1, c9_2, c9_3, c9_4, c9_5, c9_6]) Try.func9 (by kernel_rfl) (by rw [Try.ntmps9]; exact Nat.le_of_ble_eq_true (by kernel_rfl)) (by kernel_rfl) c9_l
    (F9_2_ok R l0 s1 n2 [] w _ rfl rfl rfl h) u

/-! function 34: cabinetry/link.Move -/
noncomputable def c34_0 : Code := itemAt (flat (bodyOf Try.f34)) 0
noncomputable def c34_1 : Code := itemAt (flat (bodyOf Try.f34)) 1
noncomputable def c34_2 : Code := itemAt (flat (bodyOf Try.f34)) 2
noncomputable def c34_3 : Code := itemAt (flat (bodyOf Try.f34)) 3
noncomputable def c34_4 : Code := itemAt (flat (bodyOf Try.f34)) 4
noncomputable def c34_5 : Code := itemAt (flat (bodyOf Try.f34)) 5
noncomputable def c34_6 : Code := itemAt (flat (bodyOf Try.f34)) 6
noncomputable def c34_7 : Code := itemAt (flat (bodyOf Try.f34)) 7
noncomputable def c34_8 : Code := itemAt (flat (bodyOf Try.f34)) 8
noncomputable def c34_9 : Code := itemAt (flat (bodyOf Try.f34)) 9
noncomputable def c34_10 : Code := itemAt (flat (bodyOf Try.f34)) 10
noncomputable def c34_11 : Code := itemAt (flat (bodyOf Try.f34)) 11
noncomputable def c34_12 : Code := itemAt (flat (bodyOf Try.f34)) 12
noncomputable def c34_13 : Code := itemAt (flat (bodyOf Try.f34)) 13
noncomputable def c34_9_0 : Code := itemAt (flat (innerC c34_9)) 0
noncomputable def c34_9_0_0 : Code := itemAt (flat (innerC c34_9_0)) 0
noncomputable def c34_9_0_1 : Code := itemAt (flat (innerC c34_9_0)) 1
noncomputable def c34_9_0_2 : Code := itemAt (flat (innerC c34_9_0)) 2
noncomputable def c34_9_0_3 : Code := itemAt (flat (innerC c34_9_0)) 3
def F34_q1 (R : Rt) : EQ := endQ Try.prog Try.f34.results.toList R
def F34_1 (R : Rt) (b9 : Bool) (l10 : SV) (ds : Ds) (w : World) : Prop :=
 Br (!b9) (
 runD Try.prog ds w fun w1 =>
 R (.returned (.tuple #[.slice none 0 0, .int .i64 4])) w1) (
 runD Try.prog ds w fun w2 =>
 R (.returned (.tuple #[.slice l10.a l10.len l10.cap, .int .i64 0])) w2)
def F34_k2 (R : Rt) : EP := (fun ρ ds w => dBl (ρ 9) fun b9 => dSl (ρ 10) fun l10 => F34_1 R b9 l10 ds w)
def F34_q3 (R : Rt) : EQ := (thenQ (F34_k2 R) (F34_q1 R))
def F34_q4 (R : Rt) : EQ := (blockQ 0 (F34_q3 R))
def F34_q5 (R : Rt) (J1 : (Bool × SV × Int) → World → Prop) : EQ := (thenQ (fun ρ _ w => dBl (ρ 9) fun b9 => dSl (ρ 10) fun l10 => dInt .i64 (ρ 27) fun n27 => J1 (b9, l10, n27) w) (F34_q4 R))
def F34_2 (R : Rt) (J1 : (Bool × SV × Int) → World → Prop) (s1 : ByteArray) (n2 : Int) (b9 : Bool) (l10 : SV) (l25 : SV) (n26 : Int) (n27 : Int) (ds : Ds) (w : World) : Prop :=
 Br (decide (n27 < n26)) (
 ∃ a3 : Addr, l25.a = some a3 ∧ 0 ≤ n27 ∧ n27 < ((l25.len : Nat) : Int) ∧
 ∃ s30_0 : ByteArray, w.cell? ((a3.add (n27.toNat * 5)).add 0) = some (.string s30_0) ∧
 ∃ n30_1 : Int, w.cell? ((a3.add (n27.toNat * 5)).add 1) = some (.int .i64 n30_1) ∧
 ∃ l30_2 : SV, w.cell? ((a3.add (n27.toNat * 5)).add 2) = some (.slice l30_2.a l30_2.len l30_2.cap) ∧
 ∃ l30_3 : SV, w.cell? ((a3.add (n27.toNat * 5)).add 3) = some (.slice l30_3.a l30_3.len l30_3.cap) ∧
 ∃ l30_4 : SV, w.cell? ((a3.add (n27.toNat * 5)).add 4) = some (.slice l30_4.a l30_4.len l30_4.cap) ∧
 alE (.cells #[.string (⟨#[]⟩ : ByteArray), .int .i64 0, .slice none 0 0, .slice none 0 0, .slice none 0 0] 33) w fun r12 w4 =>
 stA Try.prog 33 (⟨r12, 0, none⟩ : Addr) #[.string s30_0, .int .i64 n30_1, .slice l30_2.a l30_2.len l30_2.cap, .slice l30_3.a l30_3.len l30_3.cap, .slice l30_4.a l30_4.len l30_4.cap] w4 fun w5 =>
 ∃ s31_0 : ByteArray, w5.cell? ((⟨r12, 0, none⟩ : Addr).add 0) = some (.string s31_0) ∧
 ∃ n31_1 : Int, w5.cell? ((⟨r12, 0, none⟩ : Addr).add 1) = some (.int .i64 n31_1) ∧
 ∃ l31_2 : SV, w5.cell? ((⟨r12, 0, none⟩ : Addr).add 2) = some (.slice l31_2.a l31_2.len l31_2.cap) ∧
 ∃ l31_3 : SV, w5.cell? ((⟨r12, 0, none⟩ : Addr).add 3) = some (.slice l31_3.a l31_3.len l31_3.cap) ∧
 ∃ l31_4 : SV, w5.cell? ((⟨r12, 0, none⟩ : Addr).add 4) = some (.slice l31_4.a l31_4.len l31_4.cap) ∧
 Calls Try.prog 71 #[.agg #[.string s31_0, .int .i64 n31_1, .slice l31_2.a l31_2.len l31_2.cap, .slice l31_3.a l31_3.len l31_3.cap, .slice l31_4.a l31_4.len l31_4.cap]] w5 fun e w6 =>
 ∃ s32_0 : ByteArray, ∃ n32_1 : Int, ∃ l32_2 : SV, ∃ l32_3 : SV, ∃ l32_4 : SV, e = .returned (.agg #[.string s32_0, .int .i64 n32_1, .slice l32_2.a l32_2.len l32_2.cap, .slice l32_3.a l32_3.len l32_3.cap, .slice l32_4.a l32_4.len l32_4.cap]) ∧
 alE (.cells #[.string (⟨#[]⟩ : ByteArray), .int .i64 0, .slice none 0 0, .slice none 0 0, .slice none 0 0] 33) w6 fun r13 w7 =>
 stA Try.prog 33 (⟨r13, 0, none⟩ : Addr) #[.string s32_0, .int .i64 n32_1, .slice l32_2.a l32_2.len l32_2.cap, .slice l32_3.a l32_3.len l32_3.cap, .slice l32_4.a l32_4.len l32_4.cap] w7 fun w8 =>
 ∃ s34 : ByteArray, w8.cell? (⟨r12, 0, none⟩ : Addr) = some (.string s34) ∧
 Br (s34.toList == s1.toList) (
 st1 ((⟨r13, 0, none⟩ : Addr).add 1) (.int .i64 n2) w8 fun w9 =>
 ∃ s40_0 : ByteArray, w9.cell? ((⟨r13, 0, none⟩ : Addr).add 0) = some (.string s40_0) ∧
 ∃ n40_1 : Int, w9.cell? ((⟨r13, 0, none⟩ : Addr).add 1) = some (.int .i64 n40_1) ∧
 ∃ l40_2 : SV, w9.cell? ((⟨r13, 0, none⟩ : Addr).add 2) = some (.slice l40_2.a l40_2.len l40_2.cap) ∧
 ∃ l40_3 : SV, w9.cell? ((⟨r13, 0, none⟩ : Addr).add 3) = some (.slice l40_3.a l40_3.len l40_3.cap) ∧
 ∃ l40_4 : SV, w9.cell? ((⟨r13, 0, none⟩ : Addr).add 4) = some (.slice l40_4.a l40_4.len l40_4.cap) ∧
 alE (.cells #[.string s40_0, .int .i64 n40_1, .slice l40_2.a l40_2.len l40_2.cap, .slice l40_3.a l40_3.len l40_3.cap, .slice l40_4.a l40_4.len l40_4.cap] 33) w9 fun r41 w10 =>
 ∃ l42 : SV, ∃ w11 : World, (Builtin.append_ #[22, 22] 22 #[.slice l10.a l10.len l10.cap, .slice (some ⟨r41, 0, none⟩) 1 1]).run Try.prog w10 = .ok (.slice l42.a l42.len l42.cap) w11 ∧
 J1 (true, l42, (IntKind.i64.wrap (n27 + 1))) w11) (
 ∃ s40_0 : ByteArray, w8.cell? ((⟨r13, 0, none⟩ : Addr).add 0) = some (.string s40_0) ∧
 ∃ n40_1 : Int, w8.cell? ((⟨r13, 0, none⟩ : Addr).add 1) = some (.int .i64 n40_1) ∧
 ∃ l40_2 : SV, w8.cell? ((⟨r13, 0, none⟩ : Addr).add 2) = some (.slice l40_2.a l40_2.len l40_2.cap) ∧
 ∃ l40_3 : SV, w8.cell? ((⟨r13, 0, none⟩ : Addr).add 3) = some (.slice l40_3.a l40_3.len l40_3.cap) ∧
 ∃ l40_4 : SV, w8.cell? ((⟨r13, 0, none⟩ : Addr).add 4) = some (.slice l40_4.a l40_4.len l40_4.cap) ∧
 alE (.cells #[.string s40_0, .int .i64 n40_1, .slice l40_2.a l40_2.len l40_2.cap, .slice l40_3.a l40_3.len l40_3.cap, .slice l40_4.a l40_4.len l40_4.cap] 33) w8 fun r41 w12 =>
 ∃ l42 : SV, ∃ w13 : World, (Builtin.append_ #[22, 22] 22 #[.slice l10.a l10.len l10.cap, .slice (some ⟨r41, 0, none⟩) 1 1]).run Try.prog w12 = .ok (.slice l42.a l42.len l42.cap) w13 ∧
 J1 (b9, l42, (IntKind.i64.wrap (n27 + 1))) w13)) (
 F34_1 R b9 l10 ds w)
def F34_3 (R : Rt) (s1 : ByteArray) (n2 : Int) (b9 : Bool) (l10 : SV) (l25 : SV) (n26 : Int) (n27 : Int) (ds : Ds) (w : World) : Prop :=
 loopT (fun (J1 : (Bool × SV × Int) → World → Prop) (s : Bool × SV × Int) (w : World) => F34_2 R J1 s1 n2 s.1 s.2.1 l25 n26 s.2.2 ds w) (b9, l10, n27) w
@[reducible] def F34_4 (R : Rt) (s1 : ByteArray) (n2 : Int) (b9 : Bool) (l10 : SV) (l25 : SV) (n26 : Int) (n27 : Int) (ds : Ds) (w : World) : Prop := F34_3 R s1 n2 b9 l10 l25 n26 n27 ds w
def F34_k6 (R : Rt) : EP := (fun ρ ds w => dStr (ρ 1) fun s1 => dInt .i64 (ρ 2) fun n2 => dBl (ρ 9) fun b9 => dSl (ρ 10) fun l10 => dSl (ρ 25) fun l25 => dInt .i64 (ρ 26) fun n26 => dInt .i64 (ρ 27) fun n27 => F34_4 R s1 n2 b9 l10 l25 n26 n27 ds w)
def F34_5 (R : Rt) (l0 : SV) (s1 : ByteArray) (n2 : Int) (ds : Ds) (w : World) : Prop :=
 Calls Try.prog 18 #[.slice l0.a l0.len l0.cap] w fun e w14 =>
 ∃ n15 : Int, e = .returned (.int .i64 n15) ∧
 Br (n15 != 0) (
 runD Try.prog ds w14 fun w15 =>
 R (.returned (.tuple #[.slice none 0 0, .int .i64 n15])) w15) (
 Br (decide (n2 < 0)) (
 runD Try.prog ds w14 fun w16 =>
 R (.returned (.tuple #[.slice none 0 0, .int .i64 1])) w16) (
 Br (decide (n2 > 15)) (
 runD Try.prog ds w14 fun w17 =>
 R (.returned (.tuple #[.slice none 0 0, .int .i64 1])) w17) (
 F34_4 R s1 n2 false ⟨none, 0, 0⟩ l0 ((l0.len : Nat) : Int) 0 ds w14)))
theorem c34_l : flat (bodyOf Try.f34) = [c34_0, c34_1, c34_2, c34_3, c34_4, c34_5, c34_6, c34_7, c34_8, c34_9, c34_10, c34_11, c34_12, c34_13] := by kernel_rfl
theorem c34_9_l : flat (innerC c34_9) = [c34_9_0] := by kernel_rfl
theorem c34_9_0_l : flat (innerC c34_9_0) = [c34_9_0_0, c34_9_0_1, c34_9_0_2, c34_9_0_3] := by kernel_rfl
theorem F34_1_ok (R : Rt) (b9 : Bool) (l10 : SV) (ds : Ds) (w : World) (ρ : Env) (e9 : ρ 9 = .bool b9) (e10 : ρ 10 = .slice l10.a l10.len l10.cap) (h : F34_1 R b9 l10 ds w) :
    TrL Try.prog Try.f34.ntmps [c34_10, c34_11, c34_12, c34_13] (F34_q1 R) ρ ds w :=
  TrL_leaf (X := F34_1 R b9 l10 ds w) (setAll_cons e9 (setAll_cons e10 setAll_nil)) (by kernel_rfl) (by kernel_rfl) h
theorem F34_2_ok (R : Rt) (J1 : (Bool × SV × Int) → World → Prop) (s1 : ByteArray) (n2 : Int) (b9 : Bool) (l10 : SV) (l25 : SV) (n26 : Int) (n27 : Int) (ds : Ds) (w : World) (ρ : Env) (e1 : ρ 1 = .string s1) (e2 : ρ 2 = .int .i64 n2) (e9 : ρ 9 = .bool b9) (e10 : ρ 10 = .slice l10.a l10.len l10.cap) (e25 : ρ 25 = .slice l25.a l25.len l25.cap) (e26 : ρ 26 = .int .i64 n26) (e27 : ρ 27 = .int .i64 n27) (h : F34_2 R J1 s1 n2 b9 l10 l25 n26 n27 ds w) :
    TrL Try.prog Try.f34.ntmps [c34_9_0_0, c34_9_0_1, c34_9_0_2, c34_9_0_3] (F34_q5 R J1) ρ ds w :=
  TrL_leaf (X := F34_2 R J1 s1 n2 b9 l10 l25 n26 n27 ds w) (setAll_cons e1 (setAll_cons e2 (setAll_cons e9 (setAll_cons e10 (setAll_cons e25 (setAll_cons e26 (setAll_cons e27 setAll_nil))))))) (by kernel_rfl) (by kernel_rfl) h
theorem F34_3_ok (R : Rt) (s1 : ByteArray) (n2 : Int) (b9 : Bool) (l10 : SV) (l25 : SV) (n26 : Int) (n27 : Int) (ds : Ds) (w : World) (ρ : Env) (e1 : ρ 1 = .string s1) (e2 : ρ 2 = .int .i64 n2) (e9 : ρ 9 = .bool b9) (e10 : ρ 10 = .slice l10.a l10.len l10.cap) (e25 : ρ 25 = .slice l25.a l25.len l25.cap) (e26 : ρ 26 = .int .i64 n26) (e27 : ρ 27 = .int .i64 n27) (h : F34_3 R s1 n2 b9 l10 l25 n26 n27 ds w) :
    TrL Try.prog Try.f34.ntmps [c34_9_0] (F34_q4 R) ρ ds w :=
  TrL_one (Tr_loop' (c := innerC c34_9_0) (σ := Bool × SV × Int) (enc := (fun (s : Bool × SV × Int) (ρ : Env) => ρ 9 = .bool s.1 ∧ ρ 10 = .slice s.2.1.a s.2.1.len s.2.1.cap ∧ ρ 27 = .int .i64 s.2.2)) (D := (fun ρ K => dBl (ρ 9) fun b9 => dSl (ρ 10) fun l10 => dInt .i64 (ρ 27) fun n27 => K (b9, l10, n27))) (F := (fun (J1 : (Bool × SV × Int) → World → Prop) (s : Bool × SV × Int) (w : World) => F34_2 R J1 s1 n2 s.1 s.2.1 l25 n26 s.2.2 ds w)) (s0 := (b9, l10, n27)) (by kernel_rfl) c34_9_0_l ⟨e9, e10, e27⟩ (by kernel_rfl) (fun ρ K hD => by obtain ⟨b9, e9, hD⟩ := dBl_elim hD; obtain ⟨l10, e10, hD⟩ := dSl_elim hD; obtain ⟨n27, e27, hD⟩ := dInt_elim hD; exact ⟨(b9, l10, n27), ⟨e9, e10, e27⟩, hD⟩)
      (fun J1 s ρ' w' he ha hF => by
      obtain ⟨e9', e10', e27'⟩ := he
      exact F34_2_ok R J1 s1 n2 s.1 s.2.1 l25 n26 s.2.2 ds w' ρ' ((ha 1 (by kernel_rfl)).trans e1) ((ha 2 (by kernel_rfl)).trans e2) e9' e10' ((ha 25 (by kernel_rfl)).trans e25) ((ha 26 (by kernel_rfl)).trans e26) e27' hF) h)
theorem F34_4_ok (R : Rt) (s1 : ByteArray) (n2 : Int) (b9 : Bool) (l10 : SV) (l25 : SV) (n26 : Int) (n27 : Int) (ds : Ds) (w : World) (ρ : Env) (e1 : ρ 1 = .string s1) (e2 : ρ 2 = .int .i64 n2) (e9 : ρ 9 = .bool b9) (e10 : ρ 10 = .slice l10.a l10.len l10.cap) (e25 : ρ 25 = .slice l25.a l25.len l25.cap) (e26 : ρ 26 = .int .i64 n26) (e27 : ρ 27 = .int .i64 n27) (h : F34_4 R s1 n2 b9 l10 l25 n26 n27 ds w) :
    TrL Try.prog Try.f34.ntmps [c34_9, c34_10, c34_11, c34_12, c34_13] (F34_q1 R) ρ ds w :=
  TrL_head (K := (F34_k2 R)) (Tr_block' (c := innerC c34_9) (by kernel_rfl) c34_9_l (F34_3_ok R s1 n2 b9 l10 l25 n26 n27 ds w ρ e1 e2 e9 e10 e25 e26 e27 h))
    (fun ρ' ds' w' hD => by
      obtain ⟨b9, e9, hD⟩ := dBl_elim hD; obtain ⟨l10, e10, hD⟩ := dSl_elim hD; exact F34_1_ok R b9 l10 ds' w' ρ' e9 e10 hD)
theorem F34_5_ok (R : Rt) (l0 : SV) (s1 : ByteArray) (n2 : Int) (ds : Ds) (w : World) (ρ : Env) (e0 : ρ 0 = .slice l0.a l0.len l0.cap) (e1 : ρ 1 = .string s1) (e2 : ρ 2 = .int .i64 n2) (h : F34_5 R l0 s1 n2 ds w) :
    TrL Try.prog Try.f34.ntmps [c34_0, c34_1, c34_2, c34_3, c34_4, c34_5, c34_6, c34_7, c34_8, c34_9, c34_10, c34_11, c34_12, c34_13] (F34_q1 R) ρ ds w :=
  TrL_piece (pre := [c34_0, c34_1, c34_2, c34_3, c34_4, c34_5, c34_6, c34_7, c34_8]) (K := (F34_k6 R)) (X := F34_5 R l0 s1 n2 ds w) (setAll_cons e0 (setAll_cons e1 (setAll_cons e2 setAll_nil))) (by kernel_rfl) (by kernel_rfl)
    (fun ρ' ds' w' hD => by
      obtain ⟨s1, e1, hD⟩ := dStr_elim hD; obtain ⟨n2, e2, hD⟩ := dInt_elim hD; obtain ⟨b9, e9, hD⟩ := dBl_elim hD; obtain ⟨l10, e10, hD⟩ := dSl_elim hD; obtain ⟨l25, e25, hD⟩ := dSl_elim hD; obtain ⟨n26, e26, hD⟩ := dInt_elim hD; obtain ⟨n27, e27, hD⟩ := dInt_elim hD; exact F34_4_ok R s1 n2 b9 l10 l25 n26 n27 ds' w' ρ' e1 e2 e9 e10 e25 e26 e27 hD) h
theorem F34_calls (l0 : SV) (s1 : ByteArray) (n2 : Int) (w : World) (R : Rt) (h : F34_5 R l0 s1 n2 [] w) : Calls Try.prog 34 #[.slice l0.a l0.len l0.cap, .string s1, .int .i64 n2] w R :=
  calls_of_L (l := [c34_0, c34_1, c34_2, c34_3, c34_4, c34_5, c34_6, c34_7, c34_8, c34_9, c34_10, c34_11, c34_12, c34_13]) Try.func34 (by kernel_rfl) (by rw [Try.ntmps34]; exact Nat.le_of_ble_eq_true (by kernel_rfl)) c34_l
    (F34_5_ok R l0 s1 n2 [] w _ rfl rfl rfl h)
theorem F34_callsD (l0 : SV) (s1 : ByteArray) (n2 : Int) (w : World) (R : Rt) (u : FrameMode) (h : F34_5 R l0 s1 n2 [] w) : CallsD Try.prog 34 #[.slice l0.a l0.len l0.cap, .string s1, .int .i64 n2] u w fun e u' w' => u' = u ∧ R e w' :=
  callsD_of_L (l := [c34_0, c34_1, c34_2, c34_3, c34_4, c34_5, c34_6, c34_7, c34_8, c34_9, c34_10, c34_11, c34_12, c34_13]) Try.func34 (by kernel_rfl) (by rw [Try.ntmps34]; exact Nat.le_of_ble_eq_true (by kernel_rfl)) (by kernel_rfl) c34_l
    (F34_5_ok R l0 s1 n2 [] w _ rfl rfl rfl h) u

/-! function 35: cabinetry/cabinetryref24.Move -/
noncomputable def c35_0 : Code := itemAt (flat (bodyOf Try.f35)) 0
noncomputable def c35_1 : Code := itemAt (flat (bodyOf Try.f35)) 1
noncomputable def c35_2 : Code := itemAt (flat (bodyOf Try.f35)) 2
noncomputable def c35_3 : Code := itemAt (flat (bodyOf Try.f35)) 3
noncomputable def c35_4 : Code := itemAt (flat (bodyOf Try.f35)) 4
noncomputable def c35_5 : Code := itemAt (flat (bodyOf Try.f35)) 5
noncomputable def c35_6 : Code := itemAt (flat (bodyOf Try.f35)) 6
noncomputable def c35_7 : Code := itemAt (flat (bodyOf Try.f35)) 7
noncomputable def c35_8 : Code := itemAt (flat (bodyOf Try.f35)) 8
noncomputable def c35_9 : Code := itemAt (flat (bodyOf Try.f35)) 9
noncomputable def c35_10 : Code := itemAt (flat (bodyOf Try.f35)) 10
noncomputable def c35_8_0 : Code := itemAt (flat (innerC c35_8)) 0
noncomputable def c35_8_0_0 : Code := itemAt (flat (innerC c35_8_0)) 0
noncomputable def c35_8_0_1 : Code := itemAt (flat (innerC c35_8_0)) 1
noncomputable def c35_8_0_2 : Code := itemAt (flat (innerC c35_8_0)) 2
noncomputable def c35_8_0_3 : Code := itemAt (flat (innerC c35_8_0)) 3
def F35_q1 (R : Rt) : EQ := endQ Try.prog Try.f35.results.toList R
def F35_1 (R : Rt) (ds : Ds) (w : World) : Prop :=
 runD Try.prog ds w fun w1 =>
 R (.returned (.tuple #[.slice none 0 0, .int .i64 4])) w1
def F35_k2 (R : Rt) : EP := (fun ρ ds w => F35_1 R ds w)
def F35_q3 (R : Rt) : EQ := (thenQ (F35_k2 R) (F35_q1 R))
def F35_q4 (R : Rt) : EQ := (blockQ 0 (F35_q3 R))
def F35_q5 (R : Rt) (J1 : (Int) → World → Prop) : EQ := (thenQ (fun ρ _ w => dInt .i64 (ρ 10) fun n10 => J1 n10 w) (F35_q4 R))
def F35_2 (R : Rt) (J1 : (Int) → World → Prop) (s1 : ByteArray) (n2 : Int) (l9 : SV) (n10 : Int) (ds : Ds) (w : World) : Prop :=
 Br (decide (n10 < ((l9.len : Nat) : Int))) (
 ∃ a2 : Addr, l9.a = some a2 ∧ 0 ≤ n10 ∧ n10 < ((l9.len : Nat) : Int) ∧
 ∃ s34 : ByteArray, w.cell? (a2.add (n10.toNat * 5)) = some (.string s34) ∧
 Br (s34.toList == s1.toList) (
 ∃ a3 : Addr, l9.a = some a3 ∧ 0 ≤ n10 ∧ n10 < ((l9.len : Nat) : Int) ∧
 st1 ((a3.add (n10.toNat * 5)).add 1) (.int .i64 n2) w fun w4 =>
 runD Try.prog ds w4 fun w5 =>
 R (.returned (.tuple #[.slice l9.a l9.len l9.cap, .int .i64 0])) w5) (
 J1 (IntKind.i64.wrap (n10 + 1)) w)) (
 F35_1 R ds w)
def F35_3 (R : Rt) (s1 : ByteArray) (n2 : Int) (l9 : SV) (n10 : Int) (ds : Ds) (w : World) : Prop :=
 loopT (fun (J1 : (Int) → World → Prop) (s : Int) (w : World) => F35_2 R J1 s1 n2 l9 s ds w) n10 w
@[reducible] def F35_4 (R : Rt) (s1 : ByteArray) (n2 : Int) (l9 : SV) (n10 : Int) (ds : Ds) (w : World) : Prop := F35_3 R s1 n2 l9 n10 ds w
def F35_k6 (R : Rt) : EP := (fun ρ ds w => dStr (ρ 1) fun s1 => dInt .i64 (ρ 2) fun n2 => dSl (ρ 9) fun l9 => dInt .i64 (ρ 10) fun n10 => F35_4 R s1 n2 l9 n10 ds w)
def F35_5 (R : Rt) (l0 : SV) (s1 : ByteArray) (n2 : Int) (ds : Ds) (w : World) : Prop :=
 Calls Try.prog 24 #[.slice l0.a l0.len l0.cap] w fun e w6 =>
 ∃ n12 : Int, e = .returned (.int .i64 n12) ∧
 Br (n12 != 0) (
 runD Try.prog ds w6 fun w7 =>
 R (.returned (.tuple #[.slice none 0 0, .int .i64 n12])) w7) (
 Br (decide (n2 < 0)) (
 runD Try.prog ds w6 fun w8 =>
 R (.returned (.tuple #[.slice none 0 0, .int .i64 1])) w8) (
 Br (decide (n2 > 15)) (
 runD Try.prog ds w6 fun w9 =>
 R (.returned (.tuple #[.slice none 0 0, .int .i64 1])) w9) (
 ∃ l23 : SV, ∃ w10 : World, (Builtin.append_ #[22, 22] 22 #[.slice none 0 0, .slice l0.a l0.len l0.cap]).run Try.prog w6 = .ok (.slice l23.a l23.len l23.cap) w10 ∧
 F35_4 R s1 n2 l23 0 ds w10)))
theorem c35_l : flat (bodyOf Try.f35) = [c35_0, c35_1, c35_2, c35_3, c35_4, c35_5, c35_6, c35_7, c35_8, c35_9, c35_10] := by kernel_rfl
theorem c35_8_l : flat (innerC c35_8) = [c35_8_0] := by kernel_rfl
theorem c35_8_0_l : flat (innerC c35_8_0) = [c35_8_0_0, c35_8_0_1, c35_8_0_2, c35_8_0_3] := by kernel_rfl
theorem F35_1_ok (R : Rt) (ds : Ds) (w : World) (ρ : Env) (h : F35_1 R ds w) :
    TrL Try.prog Try.f35.ntmps [c35_9, c35_10] (F35_q1 R) ρ ds w :=
  TrL_leaf (X := F35_1 R ds w) setAll_nil (by kernel_rfl) (by kernel_rfl) h
theorem F35_2_ok (R : Rt) (J1 : (Int) → World → Prop) (s1 : ByteArray) (n2 : Int) (l9 : SV) (n10 : Int) (ds : Ds) (w : World) (ρ : Env) (e1 : ρ 1 = .string s1) (e2 : ρ 2 = .int .i64 n2) (e9 : ρ 9 = .slice l9.a l9.len l9.cap) (e10 : ρ 10 = .int .i64 n10) (h : F35_2 R J1 s1 n2 l9 n10 ds w) :
    TrL Try.prog Try.f35.ntmps [c35_8_0_0, c35_8_0_1, c35_8_0_2, c35_8_0_3] (F35_q5 R J1) ρ ds w :=
  TrL_leaf (X := F35_2 R J1 s1 n2 l9 n10 ds w) (setAll_cons e1 (setAll_cons e2 (setAll_cons e9 (setAll_cons e10 setAll_nil)))) (by kernel_rfl) (by kernel_rfl) h
theorem F35_3_ok (R : Rt) (s1 : ByteArray) (n2 : Int) (l9 : SV) (n10 : Int) (ds : Ds) (w : World) (ρ : Env) (e1 : ρ 1 = .string s1) (e2 : ρ 2 = .int .i64 n2) (e9 : ρ 9 = .slice l9.a l9.len l9.cap) (e10 : ρ 10 = .int .i64 n10) (h : F35_3 R s1 n2 l9 n10 ds w) :
    TrL Try.prog Try.f35.ntmps [c35_8_0] (F35_q4 R) ρ ds w :=
  TrL_one (Tr_loop' (c := innerC c35_8_0) (σ := Int) (enc := (fun (s : Int) (ρ : Env) => ρ 10 = .int .i64 s)) (D := (fun ρ K => dInt .i64 (ρ 10) fun n10 => K n10)) (F := (fun (J1 : (Int) → World → Prop) (s : Int) (w : World) => F35_2 R J1 s1 n2 l9 s ds w)) (s0 := n10) (by kernel_rfl) c35_8_0_l e10 (by kernel_rfl) (fun ρ K hD => by obtain ⟨n10, e10, hD⟩ := dInt_elim hD; exact ⟨n10, e10, hD⟩)
      (fun J1 s ρ' w' he ha hF => by
      have e10' := he
      exact F35_2_ok R J1 s1 n2 l9 s ds w' ρ' ((ha 1 (by kernel_rfl)).trans e1) ((ha 2 (by kernel_rfl)).trans e2) ((ha 9 (by kernel_rfl)).trans e9) e10' hF) h)
theorem F35_4_ok (R : Rt) (s1 : ByteArray) (n2 : Int) (l9 : SV) (n10 : Int) (ds : Ds) (w : World) (ρ : Env) (e1 : ρ 1 = .string s1) (e2 : ρ 2 = .int .i64 n2) (e9 : ρ 9 = .slice l9.a l9.len l9.cap) (e10 : ρ 10 = .int .i64 n10) (h : F35_4 R s1 n2 l9 n10 ds w) :
    TrL Try.prog Try.f35.ntmps [c35_8, c35_9, c35_10] (F35_q1 R) ρ ds w :=
  TrL_head (K := (F35_k2 R)) (Tr_block' (c := innerC c35_8) (by kernel_rfl) c35_8_l (F35_3_ok R s1 n2 l9 n10 ds w ρ e1 e2 e9 e10 h))
    (fun ρ' ds' w' hD => by
      exact F35_1_ok R ds' w' ρ'  hD)
theorem F35_5_ok (R : Rt) (l0 : SV) (s1 : ByteArray) (n2 : Int) (ds : Ds) (w : World) (ρ : Env) (e0 : ρ 0 = .slice l0.a l0.len l0.cap) (e1 : ρ 1 = .string s1) (e2 : ρ 2 = .int .i64 n2) (h : F35_5 R l0 s1 n2 ds w) :
    TrL Try.prog Try.f35.ntmps [c35_0, c35_1, c35_2, c35_3, c35_4, c35_5, c35_6, c35_7, c35_8, c35_9, c35_10] (F35_q1 R) ρ ds w :=
  TrL_piece (pre := [c35_0, c35_1, c35_2, c35_3, c35_4, c35_5, c35_6, c35_7]) (K := (F35_k6 R)) (X := F35_5 R l0 s1 n2 ds w) (setAll_cons e0 (setAll_cons e1 (setAll_cons e2 setAll_nil))) (by kernel_rfl) (by kernel_rfl)
    (fun ρ' ds' w' hD => by
      obtain ⟨s1, e1, hD⟩ := dStr_elim hD; obtain ⟨n2, e2, hD⟩ := dInt_elim hD; obtain ⟨l9, e9, hD⟩ := dSl_elim hD; obtain ⟨n10, e10, hD⟩ := dInt_elim hD; exact F35_4_ok R s1 n2 l9 n10 ds' w' ρ' e1 e2 e9 e10 hD) h
theorem F35_calls (l0 : SV) (s1 : ByteArray) (n2 : Int) (w : World) (R : Rt) (h : F35_5 R l0 s1 n2 [] w) : Calls Try.prog 35 #[.slice l0.a l0.len l0.cap, .string s1, .int .i64 n2] w R :=
  calls_of_L (l := [c35_0, c35_1, c35_2, c35_3, c35_4, c35_5, c35_6, c35_7, c35_8, c35_9, c35_10]) Try.func35 (by kernel_rfl) (by rw [Try.ntmps35]; exact Nat.le_of_ble_eq_true (by kernel_rfl)) c35_l
    (F35_5_ok R l0 s1 n2 [] w _ rfl rfl rfl h)
theorem F35_callsD (l0 : SV) (s1 : ByteArray) (n2 : Int) (w : World) (R : Rt) (u : FrameMode) (h : F35_5 R l0 s1 n2 [] w) : CallsD Try.prog 35 #[.slice l0.a l0.len l0.cap, .string s1, .int .i64 n2] u w fun e u' w' => u' = u ∧ R e w' :=
  callsD_of_L (l := [c35_0, c35_1, c35_2, c35_3, c35_4, c35_5, c35_6, c35_7, c35_8, c35_9, c35_10]) Try.func35 (by kernel_rfl) (by rw [Try.ntmps35]; exact Nat.le_of_ble_eq_true (by kernel_rfl)) (by kernel_rfl) c35_l
    (F35_5_ok R l0 s1 n2 [] w _ rfl rfl rfl h) u

/-! function 36: cabinetry/link.Same -/
noncomputable def c36_0 : Code := itemAt (flat (bodyOf Try.f36)) 0
noncomputable def c36_1 : Code := itemAt (flat (bodyOf Try.f36)) 1
noncomputable def c36_2 : Code := itemAt (flat (bodyOf Try.f36)) 2
def F36_q1 (R : Rt) : EQ := endQ Try.prog Try.f36.results.toList R
def F36_1 (R : Rt) (l0 : SV) (l1 : SV) (ds : Ds) (w : World) : Prop :=
 Calls Try.prog 72 #[.slice l0.a l0.len l0.cap, .slice l1.a l1.len l1.cap, .func (.func 73) #[] #[]] w fun e w1 =>
 ∃ b7 : Bool, e = .returned (.bool b7) ∧
 runD Try.prog ds w1 fun w2 =>
 R (.returned (.bool b7)) w2
theorem c36_l : flat (bodyOf Try.f36) = [c36_0, c36_1, c36_2] := by kernel_rfl
theorem F36_1_ok (R : Rt) (l0 : SV) (l1 : SV) (ds : Ds) (w : World) (ρ : Env) (e0 : ρ 0 = .slice l0.a l0.len l0.cap) (e1 : ρ 1 = .slice l1.a l1.len l1.cap) (h : F36_1 R l0 l1 ds w) :
    TrL Try.prog Try.f36.ntmps [c36_0, c36_1, c36_2] (F36_q1 R) ρ ds w :=
  TrL_leaf (X := F36_1 R l0 l1 ds w) (setAll_cons e0 (setAll_cons e1 setAll_nil)) (by kernel_rfl) (by kernel_rfl) h
theorem F36_calls (l0 : SV) (l1 : SV) (w : World) (R : Rt) (h : F36_1 R l0 l1 [] w) : Calls Try.prog 36 #[.slice l0.a l0.len l0.cap, .slice l1.a l1.len l1.cap] w R :=
  calls_of_L (l := [c36_0, c36_1, c36_2]) Try.func36 (by kernel_rfl) (by rw [Try.ntmps36]; exact Nat.le_of_ble_eq_true (by kernel_rfl)) c36_l
    (F36_1_ok R l0 l1 [] w _ rfl rfl h)
theorem F36_callsD (l0 : SV) (l1 : SV) (w : World) (R : Rt) (u : FrameMode) (h : F36_1 R l0 l1 [] w) : CallsD Try.prog 36 #[.slice l0.a l0.len l0.cap, .slice l1.a l1.len l1.cap] u w fun e u' w' => u' = u ∧ R e w' :=
  callsD_of_L (l := [c36_0, c36_1, c36_2]) Try.func36 (by kernel_rfl) (by rw [Try.ntmps36]; exact Nat.le_of_ble_eq_true (by kernel_rfl)) (by kernel_rfl) c36_l
    (F36_1_ok R l0 l1 [] w _ rfl rfl h) u

/-! function 71: cabinetry/link.cloned -/
noncomputable def c71_0 : Code := itemAt (flat (bodyOf Try.f71)) 0
noncomputable def c71_1 : Code := itemAt (flat (bodyOf Try.f71)) 1
noncomputable def c71_2 : Code := itemAt (flat (bodyOf Try.f71)) 2
noncomputable def c71_3 : Code := itemAt (flat (bodyOf Try.f71)) 3
noncomputable def c71_4 : Code := itemAt (flat (bodyOf Try.f71)) 4
noncomputable def c71_5 : Code := itemAt (flat (bodyOf Try.f71)) 5
noncomputable def c71_6 : Code := itemAt (flat (bodyOf Try.f71)) 6
noncomputable def c71_4_0 : Code := itemAt (flat (innerC c71_4)) 0
noncomputable def c71_4_0_0 : Code := itemAt (flat (innerC c71_4_0)) 0
noncomputable def c71_4_0_1 : Code := itemAt (flat (innerC c71_4_0)) 1
noncomputable def c71_4_0_2 : Code := itemAt (flat (innerC c71_4_0)) 2
noncomputable def c71_4_0_3 : Code := itemAt (flat (innerC c71_4_0)) 3
def F71_q1 (R : Rt) : EQ := endQ Try.prog Try.f71.results.toList R
def F71_1 (R : Rt) (p1 : Option Addr) (p2 : Option Addr) (ds : Ds) (w : World) : Prop :=
 ptrE p1 fun a1 =>
 ∃ s32_0 : ByteArray, w.cell? (a1.add 0) = some (.string s32_0) ∧
 ∃ n32_1 : Int, w.cell? (a1.add 1) = some (.int .i64 n32_1) ∧
 ∃ l32_2 : SV, w.cell? (a1.add 2) = some (.slice l32_2.a l32_2.len l32_2.cap) ∧
 ∃ l32_3 : SV, w.cell? (a1.add 3) = some (.slice l32_3.a l32_3.len l32_3.cap) ∧
 ∃ l32_4 : SV, w.cell? (a1.add 4) = some (.slice l32_4.a l32_4.len l32_4.cap) ∧
 ptrE p2 fun a2 =>
 stA Try.prog 33 a2 #[.string s32_0, .int .i64 n32_1, .slice l32_2.a l32_2.len l32_2.cap, .slice l32_3.a l32_3.len l32_3.cap, .slice l32_4.a l32_4.len l32_4.cap] w fun w3 =>
 runD Try.prog ds w3 fun w4 =>
 ptrE p2 fun a5 =>
 ∃ sR0_0 : ByteArray, w4.cell? (a5.add 0) = some (.string sR0_0) ∧
 ∃ nR0_1 : Int, w4.cell? (a5.add 1) = some (.int .i64 nR0_1) ∧
 ∃ lR0_2 : SV, w4.cell? (a5.add 2) = some (.slice lR0_2.a lR0_2.len lR0_2.cap) ∧
 ∃ lR0_3 : SV, w4.cell? (a5.add 3) = some (.slice lR0_3.a lR0_3.len lR0_3.cap) ∧
 ∃ lR0_4 : SV, w4.cell? (a5.add 4) = some (.slice lR0_4.a lR0_4.len lR0_4.cap) ∧
 R (.returned (.agg #[.string sR0_0, .int .i64 nR0_1, .slice lR0_2.a lR0_2.len lR0_2.cap, .slice lR0_3.a lR0_3.len lR0_3.cap, .slice lR0_4.a lR0_4.len lR0_4.cap])) w4
def F71_k2 (R : Rt) : EP := (fun ρ ds w => dPtr (ρ 1) fun p1 => dPtr (ρ 2) fun p2 => F71_1 R p1 p2 ds w)
def F71_q3 (R : Rt) : EQ := (thenQ (F71_k2 R) (F71_q1 R))
def F71_q4 (R : Rt) : EQ := (blockQ 0 (F71_q3 R))
def F71_q5 (R : Rt) (J1 : (Int) → World → Prop) : EQ := (thenQ (fun ρ _ w => dInt .i64 (ρ 20) fun n20 => J1 n20 w) (F71_q4 R))
def F71_2 (R : Rt) (J1 : (Int) → World → Prop) (p1 : Option Addr) (p2 : Option Addr) (l18 : SV) (n19 : Int) (n20 : Int) (ds : Ds) (w : World) : Prop :=
 Br (decide (n20 < n19)) (
 ∃ a6 : Addr, l18.a = some a6 ∧ 0 ≤ n20 ∧ n20 < ((l18.len : Nat) : Int) ∧
 ∃ l24 : SV, w.cell? (a6.add (n20.toNat * 1)) = some (.slice l24.a l24.len l24.cap) ∧
 dwE w fun w7 =>
 ∃ S1 : World → Prop, S1 w7 ∧
 ptrE p1 fun a8 =>
 ∃ l26 : SV, (∀ w', S1 w' → w'.cell? (a8.add 4) = some (.slice l26.a l26.len l26.cap)) ∧
 Calls Try.prog 69 #[.slice l24.a l24.len l24.cap] w7 fun e w9 =>
 ∃ l29 : SV, e = .returned (.slice l29.a l29.len l29.cap) ∧
 S1 w9 ∧
 ∃ a10 : Addr, l26.a = some a10 ∧ 0 ≤ n20 ∧ n20 < ((l26.len : Nat) : Int) ∧
 st1 (a10.add (n20.toNat * 1)) (.slice l29.a l29.len l29.cap) w9 fun w11 =>
 J1 (IntKind.i64.wrap (n20 + 1)) w11) (
 F71_1 R p1 p2 ds w)
def F71_3 (R : Rt) (p1 : Option Addr) (p2 : Option Addr) (l18 : SV) (n19 : Int) (n20 : Int) (ds : Ds) (w : World) : Prop :=
 loopT (fun (J1 : (Int) → World → Prop) (s : Int) (w : World) => F71_2 R J1 p1 p2 l18 n19 s ds w) n20 w
@[reducible] def F71_4 (R : Rt) (p1 : Option Addr) (p2 : Option Addr) (l18 : SV) (n19 : Int) (n20 : Int) (ds : Ds) (w : World) : Prop := F71_3 R p1 p2 l18 n19 n20 ds w
def F71_k6 (R : Rt) : EP := (fun ρ ds w => dPtr (ρ 1) fun p1 => dPtr (ρ 2) fun p2 => dSl (ρ 18) fun l18 => dInt .i64 (ρ 19) fun n19 => dInt .i64 (ρ 20) fun n20 => F71_4 R p1 p2 l18 n19 n20 ds w)
def F71_5 (R : Rt) (s0_0 : ByteArray) (n0_1 : Int) (l0_2 : SV) (l0_3 : SV) (l0_4 : SV) (ds : Ds) (w : World) : Prop :=
 alE (.cells #[.string s0_0, .int .i64 n0_1, .slice l0_2.a l0_2.len l0_2.cap, .slice l0_3.a l0_3.len l0_3.cap, .slice l0_4.a l0_4.len l0_4.cap] 33) w fun r1 w12 =>
 alE (.cells #[.string (⟨#[]⟩ : ByteArray), .int .i64 0, .slice none 0 0, .slice none 0 0, .slice none 0 0] 33) w12 fun r2 w13 =>
 dwE w13 fun w14 =>
 ∃ S2 : World → Prop, S2 w14 ∧
 ∃ l6 : SV, (∀ w', S2 w' → w'.cell? ((⟨r1, 0, none⟩ : Addr).add 2) = some (.slice l6.a l6.len l6.cap)) ∧
 ∃ l9 : SV, (∀ w', S2 w' → w'.cell? ((⟨r1, 0, none⟩ : Addr).add 3) = some (.slice l9.a l9.len l9.cap)) ∧
 Calls Try.prog 69 #[.slice l6.a l6.len l6.cap] w14 fun e w15 =>
 ∃ l7 : SV, e = .returned (.slice l7.a l7.len l7.cap) ∧
 S2 w15 ∧
 Calls Try.prog 104 #[.slice l9.a l9.len l9.cap] w15 fun e w16 =>
 ∃ l10 : SV, e = .returned (.slice l10.a l10.len l10.cap) ∧
 st1 ((⟨r1, 0, none⟩ : Addr).add 2) (.slice l7.a l7.len l7.cap) w16 fun w17 =>
 st1 ((⟨r1, 0, none⟩ : Addr).add 3) (.slice l10.a l10.len l10.cap) w17 fun w18 =>
 ∃ l14 : SV, w18.cell? ((⟨r1, 0, none⟩ : Addr).add 4) = some (.slice l14.a l14.len l14.cap) ∧
 Calls Try.prog 105 #[.slice l14.a l14.len l14.cap] w18 fun e w19 =>
 ∃ l15 : SV, e = .returned (.slice l15.a l15.len l15.cap) ∧
 st1 ((⟨r1, 0, none⟩ : Addr).add 4) (.slice l15.a l15.len l15.cap) w19 fun w20 =>
 ∃ l18 : SV, w20.cell? ((⟨r1, 0, none⟩ : Addr).add 4) = some (.slice l18.a l18.len l18.cap) ∧
 F71_4 R (some (⟨r1, 0, none⟩ : Addr)) (some (⟨r2, 0, none⟩ : Addr)) l18 ((l18.len : Nat) : Int) 0 ds w20
theorem c71_l : flat (bodyOf Try.f71) = [c71_0, c71_1, c71_2, c71_3, c71_4, c71_5, c71_6] := by kernel_rfl
theorem c71_4_l : flat (innerC c71_4) = [c71_4_0] := by kernel_rfl
theorem c71_4_0_l : flat (innerC c71_4_0) = [c71_4_0_0, c71_4_0_1, c71_4_0_2, c71_4_0_3] := by kernel_rfl
theorem F71_1_ok (R : Rt) (p1 : Option Addr) (p2 : Option Addr) (ds : Ds) (w : World) (ρ : Env) (e1 : ρ 1 = .pointer p1) (e2 : ρ 2 = .pointer p2) (h : F71_1 R p1 p2 ds w) :
    TrL Try.prog Try.f71.ntmps [c71_5, c71_6] (F71_q1 R) ρ ds w :=
  TrL_leaf (X := F71_1 R p1 p2 ds w) (setAll_cons e1 (setAll_cons e2 setAll_nil)) (by kernel_rfl) (by kernel_rfl) h
theorem F71_2_ok (R : Rt) (J1 : (Int) → World → Prop) (p1 : Option Addr) (p2 : Option Addr) (l18 : SV) (n19 : Int) (n20 : Int) (ds : Ds) (w : World) (ρ : Env) (e1 : ρ 1 = .pointer p1) (e2 : ρ 2 = .pointer p2) (e18 : ρ 18 = .slice l18.a l18.len l18.cap) (e19 : ρ 19 = .int .i64 n19) (e20 : ρ 20 = .int .i64 n20) (h : F71_2 R J1 p1 p2 l18 n19 n20 ds w) :
    TrL Try.prog Try.f71.ntmps [c71_4_0_0, c71_4_0_1, c71_4_0_2, c71_4_0_3] (F71_q5 R J1) ρ ds w :=
  TrL_leaf (X := F71_2 R J1 p1 p2 l18 n19 n20 ds w) (setAll_cons e1 (setAll_cons e2 (setAll_cons e18 (setAll_cons e19 (setAll_cons e20 setAll_nil))))) (by kernel_rfl) (by kernel_rfl) h
theorem F71_3_ok (R : Rt) (p1 : Option Addr) (p2 : Option Addr) (l18 : SV) (n19 : Int) (n20 : Int) (ds : Ds) (w : World) (ρ : Env) (e1 : ρ 1 = .pointer p1) (e2 : ρ 2 = .pointer p2) (e18 : ρ 18 = .slice l18.a l18.len l18.cap) (e19 : ρ 19 = .int .i64 n19) (e20 : ρ 20 = .int .i64 n20) (h : F71_3 R p1 p2 l18 n19 n20 ds w) :
    TrL Try.prog Try.f71.ntmps [c71_4_0] (F71_q4 R) ρ ds w :=
  TrL_one (Tr_loop' (c := innerC c71_4_0) (σ := Int) (enc := (fun (s : Int) (ρ : Env) => ρ 20 = .int .i64 s)) (D := (fun ρ K => dInt .i64 (ρ 20) fun n20 => K n20)) (F := (fun (J1 : (Int) → World → Prop) (s : Int) (w : World) => F71_2 R J1 p1 p2 l18 n19 s ds w)) (s0 := n20) (by kernel_rfl) c71_4_0_l e20 (by kernel_rfl) (fun ρ K hD => by obtain ⟨n20, e20, hD⟩ := dInt_elim hD; exact ⟨n20, e20, hD⟩)
      (fun J1 s ρ' w' he ha hF => by
      have e20' := he
      exact F71_2_ok R J1 p1 p2 l18 n19 s ds w' ρ' ((ha 1 (by kernel_rfl)).trans e1) ((ha 2 (by kernel_rfl)).trans e2) ((ha 18 (by kernel_rfl)).trans e18) ((ha 19 (by kernel_rfl)).trans e19) e20' hF) h)
theorem F71_4_ok (R : Rt) (p1 : Option Addr) (p2 : Option Addr) (l18 : SV) (n19 : Int) (n20 : Int) (ds : Ds) (w : World) (ρ : Env) (e1 : ρ 1 = .pointer p1) (e2 : ρ 2 = .pointer p2) (e18 : ρ 18 = .slice l18.a l18.len l18.cap) (e19 : ρ 19 = .int .i64 n19) (e20 : ρ 20 = .int .i64 n20) (h : F71_4 R p1 p2 l18 n19 n20 ds w) :
    TrL Try.prog Try.f71.ntmps [c71_4, c71_5, c71_6] (F71_q1 R) ρ ds w :=
  TrL_head (K := (F71_k2 R)) (Tr_block' (c := innerC c71_4) (by kernel_rfl) c71_4_l (F71_3_ok R p1 p2 l18 n19 n20 ds w ρ e1 e2 e18 e19 e20 h))
    (fun ρ' ds' w' hD => by
      obtain ⟨p1, e1, hD⟩ := dPtr_elim hD; obtain ⟨p2, e2, hD⟩ := dPtr_elim hD; exact F71_1_ok R p1 p2 ds' w' ρ' e1 e2 hD)
theorem F71_5_ok (R : Rt) (s0_0 : ByteArray) (n0_1 : Int) (l0_2 : SV) (l0_3 : SV) (l0_4 : SV) (ds : Ds) (w : World) (ρ : Env) (e0 : ρ 0 = .agg #[.string s0_0, .int .i64 n0_1, .slice l0_2.a l0_2.len l0_2.cap, .slice l0_3.a l0_3.len l0_3.cap, .slice l0_4.a l0_4.len l0_4.cap]) (h : F71_5 R s0_0 n0_1 l0_2 l0_3 l0_4 ds w) :
    TrL Try.prog Try.f71.ntmps [c71_0, c71_1, c71_2, c71_3, c71_4, c71_5, c71_6] (F71_q1 R) ρ ds w :=
  TrL_piece (pre := [c71_0, c71_1, c71_2, c71_3]) (K := (F71_k6 R)) (X := F71_5 R s0_0 n0_1 l0_2 l0_3 l0_4 ds w) (setAll_cons e0 setAll_nil) (by kernel_rfl) (by kernel_rfl)
    (fun ρ' ds' w' hD => by
      obtain ⟨p1, e1, hD⟩ := dPtr_elim hD; obtain ⟨p2, e2, hD⟩ := dPtr_elim hD; obtain ⟨l18, e18, hD⟩ := dSl_elim hD; obtain ⟨n19, e19, hD⟩ := dInt_elim hD; obtain ⟨n20, e20, hD⟩ := dInt_elim hD; exact F71_4_ok R p1 p2 l18 n19 n20 ds' w' ρ' e1 e2 e18 e19 e20 hD) h
theorem F71_calls (s0_0 : ByteArray) (n0_1 : Int) (l0_2 : SV) (l0_3 : SV) (l0_4 : SV) (w : World) (R : Rt) (h : F71_5 R s0_0 n0_1 l0_2 l0_3 l0_4 [] w) : Calls Try.prog 71 #[.agg #[.string s0_0, .int .i64 n0_1, .slice l0_2.a l0_2.len l0_2.cap, .slice l0_3.a l0_3.len l0_3.cap, .slice l0_4.a l0_4.len l0_4.cap]] w R :=
  calls_of_L (l := [c71_0, c71_1, c71_2, c71_3, c71_4, c71_5, c71_6]) Try.func71 (by kernel_rfl) (by rw [Try.ntmps71]; exact Nat.le_of_ble_eq_true (by kernel_rfl)) c71_l
    (F71_5_ok R s0_0 n0_1 l0_2 l0_3 l0_4 [] w _ rfl h)
theorem F71_callsD (s0_0 : ByteArray) (n0_1 : Int) (l0_2 : SV) (l0_3 : SV) (l0_4 : SV) (w : World) (R : Rt) (u : FrameMode) (h : F71_5 R s0_0 n0_1 l0_2 l0_3 l0_4 [] w) : CallsD Try.prog 71 #[.agg #[.string s0_0, .int .i64 n0_1, .slice l0_2.a l0_2.len l0_2.cap, .slice l0_3.a l0_3.len l0_3.cap, .slice l0_4.a l0_4.len l0_4.cap]] u w fun e u' w' => u' = u ∧ R e w' :=
  callsD_of_L (l := [c71_0, c71_1, c71_2, c71_3, c71_4, c71_5, c71_6]) Try.func71 (by kernel_rfl) (by rw [Try.ntmps71]; exact Nat.le_of_ble_eq_true (by kernel_rfl)) (by kernel_rfl) c71_l
    (F71_5_ok R s0_0 n0_1 l0_2 l0_3 l0_4 [] w _ rfl h) u

/-! function 72: slices.EqualFunc[[]cabinetry/api.Module,[]cabinetry/api.Module,cabinetry/api.Module,cabinetry/api.Module] -/
noncomputable def c72_0 : Code := itemAt (flat (bodyOf Try.f72)) 0
noncomputable def c72_1 : Code := itemAt (flat (bodyOf Try.f72)) 1
noncomputable def c72_2 : Code := itemAt (flat (bodyOf Try.f72)) 2
noncomputable def c72_3 : Code := itemAt (flat (bodyOf Try.f72)) 3
noncomputable def c72_4 : Code := itemAt (flat (bodyOf Try.f72)) 4
noncomputable def c72_5 : Code := itemAt (flat (bodyOf Try.f72)) 5
noncomputable def c72_6 : Code := itemAt (flat (bodyOf Try.f72)) 6
noncomputable def c72_4_0 : Code := itemAt (flat (innerC c72_4)) 0
noncomputable def c72_4_0_0 : Code := itemAt (flat (innerC c72_4_0)) 0
noncomputable def c72_4_0_1 : Code := itemAt (flat (innerC c72_4_0)) 1
noncomputable def c72_4_0_2 : Code := itemAt (flat (innerC c72_4_0)) 2
noncomputable def c72_4_0_3 : Code := itemAt (flat (innerC c72_4_0)) 3
def F72_q1 (R : Rt) : EQ := endQ Try.prog Try.f72.results.toList R
def F72_1 (R : Rt) (ds : Ds) (w : World) : Prop :=
 runD Try.prog ds w fun w1 =>
 R (.returned (.bool true)) w1
def F72_k2 (R : Rt) : EP := (fun ρ ds w => F72_1 R ds w)
def F72_q3 (R : Rt) : EQ := (thenQ (F72_k2 R) (F72_q1 R))
def F72_q4 (R : Rt) : EQ := (blockQ 0 (F72_q3 R))
def F72_q5 (R : Rt) (J1 : (Int) → World → Prop) : EQ := (thenQ (fun ρ _ w => dInt .i64 (ρ 17) fun n17 => J1 n17 w) (F72_q4 R))
def F72_2 (R : Rt) (J1 : (Int) → World → Prop) (l1 : SV) (v2 : Value) (l15 : SV) (n16 : Int) (n17 : Int) (ds : Ds) (w : World) : Prop :=
 Br (decide (n17 < n16)) (
 ∃ a2 : Addr, l15.a = some a2 ∧ 0 ≤ n17 ∧ n17 < ((l15.len : Nat) : Int) ∧
 ∃ s21_0 : ByteArray, w.cell? ((a2.add (n17.toNat * 5)).add 0) = some (.string s21_0) ∧
 ∃ n21_1 : Int, w.cell? ((a2.add (n17.toNat * 5)).add 1) = some (.int .i64 n21_1) ∧
 ∃ l21_2 : SV, w.cell? ((a2.add (n17.toNat * 5)).add 2) = some (.slice l21_2.a l21_2.len l21_2.cap) ∧
 ∃ l21_3 : SV, w.cell? ((a2.add (n17.toNat * 5)).add 3) = some (.slice l21_3.a l21_3.len l21_3.cap) ∧
 ∃ l21_4 : SV, w.cell? ((a2.add (n17.toNat * 5)).add 4) = some (.slice l21_4.a l21_4.len l21_4.cap) ∧
 alE (.cells #[.string (⟨#[]⟩ : ByteArray), .int .i64 0, .slice none 0 0, .slice none 0 0, .slice none 0 0] 33) w fun r8 w3 =>
 stA Try.prog 33 (⟨r8, 0, none⟩ : Addr) #[.string s21_0, .int .i64 n21_1, .slice l21_2.a l21_2.len l21_2.cap, .slice l21_3.a l21_3.len l21_3.cap, .slice l21_4.a l21_4.len l21_4.cap] w3 fun w4 =>
 ∃ a5 : Addr, l1.a = some a5 ∧ 0 ≤ n17 ∧ n17 < ((l1.len : Nat) : Int) ∧
 ∃ s25_0 : ByteArray, w4.cell? ((a5.add (n17.toNat * 5)).add 0) = some (.string s25_0) ∧
 ∃ n25_1 : Int, w4.cell? ((a5.add (n17.toNat * 5)).add 1) = some (.int .i64 n25_1) ∧
 ∃ l25_2 : SV, w4.cell? ((a5.add (n17.toNat * 5)).add 2) = some (.slice l25_2.a l25_2.len l25_2.cap) ∧
 ∃ l25_3 : SV, w4.cell? ((a5.add (n17.toNat * 5)).add 3) = some (.slice l25_3.a l25_3.len l25_3.cap) ∧
 ∃ l25_4 : SV, w4.cell? ((a5.add (n17.toNat * 5)).add 4) = some (.slice l25_4.a l25_4.len l25_4.cap) ∧
 alE (.cells #[.string (⟨#[]⟩ : ByteArray), .int .i64 0, .slice none 0 0, .slice none 0 0, .slice none 0 0] 33) w4 fun r9 w6 =>
 stA Try.prog 33 (⟨r9, 0, none⟩ : Addr) #[.string s25_0, .int .i64 n25_1, .slice l25_2.a l25_2.len l25_2.cap, .slice l25_3.a l25_3.len l25_3.cap, .slice l25_4.a l25_4.len l25_4.cap] w6 fun w7 =>
 ∃ s27_0 : ByteArray, w7.cell? ((⟨r8, 0, none⟩ : Addr).add 0) = some (.string s27_0) ∧
 ∃ n27_1 : Int, w7.cell? ((⟨r8, 0, none⟩ : Addr).add 1) = some (.int .i64 n27_1) ∧
 ∃ l27_2 : SV, w7.cell? ((⟨r8, 0, none⟩ : Addr).add 2) = some (.slice l27_2.a l27_2.len l27_2.cap) ∧
 ∃ l27_3 : SV, w7.cell? ((⟨r8, 0, none⟩ : Addr).add 3) = some (.slice l27_3.a l27_3.len l27_3.cap) ∧
 ∃ l27_4 : SV, w7.cell? ((⟨r8, 0, none⟩ : Addr).add 4) = some (.slice l27_4.a l27_4.len l27_4.cap) ∧
 ∃ s28_0 : ByteArray, w7.cell? ((⟨r9, 0, none⟩ : Addr).add 0) = some (.string s28_0) ∧
 ∃ n28_1 : Int, w7.cell? ((⟨r9, 0, none⟩ : Addr).add 1) = some (.int .i64 n28_1) ∧
 ∃ l28_2 : SV, w7.cell? ((⟨r9, 0, none⟩ : Addr).add 2) = some (.slice l28_2.a l28_2.len l28_2.cap) ∧
 ∃ l28_3 : SV, w7.cell? ((⟨r9, 0, none⟩ : Addr).add 3) = some (.slice l28_3.a l28_3.len l28_3.cap) ∧
 ∃ l28_4 : SV, w7.cell? ((⟨r9, 0, none⟩ : Addr).add 4) = some (.slice l28_4.a l28_4.len l28_4.cap) ∧
 fnE v2 fun f29 first29 cap29 =>
 hasBody Try.prog f29 = true ∧ Calls Try.prog f29 (first29.toList ++ (([.agg #[.string s27_0, .int .i64 n27_1, .slice l27_2.a l27_2.len l27_2.cap, .slice l27_3.a l27_3.len l27_3.cap, .slice l27_4.a l27_4.len l27_4.cap], .agg #[.string s28_0, .int .i64 n28_1, .slice l28_2.a l28_2.len l28_2.cap, .slice l28_3.a l28_3.len l28_3.cap, .slice l28_4.a l28_4.len l28_4.cap]] : List Value) ++ cap29.toList)).toArray w7 fun e w8 =>
 ∃ b29 : Bool, e = .returned (.bool b29) ∧
 Br (!b29) (
 runD Try.prog ds w8 fun w9 =>
 R (.returned (.bool false)) w9) (
 J1 (IntKind.i64.wrap (n17 + 1)) w8)) (
 F72_1 R ds w)
def F72_3 (R : Rt) (l1 : SV) (v2 : Value) (l15 : SV) (n16 : Int) (n17 : Int) (ds : Ds) (w : World) : Prop :=
 loopT (fun (J1 : (Int) → World → Prop) (s : Int) (w : World) => F72_2 R J1 l1 v2 l15 n16 s ds w) n17 w
@[reducible] def F72_4 (R : Rt) (l1 : SV) (v2 : Value) (l15 : SV) (n16 : Int) (n17 : Int) (ds : Ds) (w : World) : Prop := F72_3 R l1 v2 l15 n16 n17 ds w
def F72_k6 (R : Rt) : EP := (fun ρ ds w => dSl (ρ 1) fun l1 => dSl (ρ 15) fun l15 => dInt .i64 (ρ 16) fun n16 => dInt .i64 (ρ 17) fun n17 => F72_4 R l1 (ρ 2) l15 n16 n17 ds w)
def F72_5 (R : Rt) (l0 : SV) (l1 : SV) (v2 : Value) (ds : Ds) (w : World) : Prop :=
 Br (((l0.len : Nat) : Int) != ((l1.len : Nat) : Int)) (
 runD Try.prog ds w fun w10 =>
 R (.returned (.bool false)) w10) (
 F72_4 R l1 (v2) l0 ((l0.len : Nat) : Int) 0 ds w)
theorem c72_l : flat (bodyOf Try.f72) = [c72_0, c72_1, c72_2, c72_3, c72_4, c72_5, c72_6] := by kernel_rfl
theorem c72_4_l : flat (innerC c72_4) = [c72_4_0] := by kernel_rfl
theorem c72_4_0_l : flat (innerC c72_4_0) = [c72_4_0_0, c72_4_0_1, c72_4_0_2, c72_4_0_3] := by kernel_rfl
theorem F72_1_ok (R : Rt) (ds : Ds) (w : World) (ρ : Env) (h : F72_1 R ds w) :
    TrL Try.prog Try.f72.ntmps [c72_5, c72_6] (F72_q1 R) ρ ds w :=
  TrL_leaf (X := F72_1 R ds w) setAll_nil (by kernel_rfl) (by kernel_rfl) h
theorem F72_2_ok (R : Rt) (J1 : (Int) → World → Prop) (l1 : SV) (v2 : Value) (l15 : SV) (n16 : Int) (n17 : Int) (ds : Ds) (w : World) (ρ : Env) (e1 : ρ 1 = .slice l1.a l1.len l1.cap) (e2 : ρ 2 = v2) (e15 : ρ 15 = .slice l15.a l15.len l15.cap) (e16 : ρ 16 = .int .i64 n16) (e17 : ρ 17 = .int .i64 n17) (h : F72_2 R J1 l1 v2 l15 n16 n17 ds w) :
    TrL Try.prog Try.f72.ntmps [c72_4_0_0, c72_4_0_1, c72_4_0_2, c72_4_0_3] (F72_q5 R J1) ρ ds w :=
  TrL_leaf (X := F72_2 R J1 l1 v2 l15 n16 n17 ds w) (setAll_cons e1 (setAll_cons e2 (setAll_cons e15 (setAll_cons e16 (setAll_cons e17 setAll_nil))))) (by kernel_rfl) (by kernel_rfl) h
theorem F72_3_ok (R : Rt) (l1 : SV) (v2 : Value) (l15 : SV) (n16 : Int) (n17 : Int) (ds : Ds) (w : World) (ρ : Env) (e1 : ρ 1 = .slice l1.a l1.len l1.cap) (e2 : ρ 2 = v2) (e15 : ρ 15 = .slice l15.a l15.len l15.cap) (e16 : ρ 16 = .int .i64 n16) (e17 : ρ 17 = .int .i64 n17) (h : F72_3 R l1 v2 l15 n16 n17 ds w) :
    TrL Try.prog Try.f72.ntmps [c72_4_0] (F72_q4 R) ρ ds w :=
  TrL_one (Tr_loop' (c := innerC c72_4_0) (σ := Int) (enc := (fun (s : Int) (ρ : Env) => ρ 17 = .int .i64 s)) (D := (fun ρ K => dInt .i64 (ρ 17) fun n17 => K n17)) (F := (fun (J1 : (Int) → World → Prop) (s : Int) (w : World) => F72_2 R J1 l1 v2 l15 n16 s ds w)) (s0 := n17) (by kernel_rfl) c72_4_0_l e17 (by kernel_rfl) (fun ρ K hD => by obtain ⟨n17, e17, hD⟩ := dInt_elim hD; exact ⟨n17, e17, hD⟩)
      (fun J1 s ρ' w' he ha hF => by
      have e17' := he
      exact F72_2_ok R J1 l1 v2 l15 n16 s ds w' ρ' ((ha 1 (by kernel_rfl)).trans e1) ((ha 2 (by kernel_rfl)).trans e2) ((ha 15 (by kernel_rfl)).trans e15) ((ha 16 (by kernel_rfl)).trans e16) e17' hF) h)
theorem F72_4_ok (R : Rt) (l1 : SV) (v2 : Value) (l15 : SV) (n16 : Int) (n17 : Int) (ds : Ds) (w : World) (ρ : Env) (e1 : ρ 1 = .slice l1.a l1.len l1.cap) (e2 : ρ 2 = v2) (e15 : ρ 15 = .slice l15.a l15.len l15.cap) (e16 : ρ 16 = .int .i64 n16) (e17 : ρ 17 = .int .i64 n17) (h : F72_4 R l1 v2 l15 n16 n17 ds w) :
    TrL Try.prog Try.f72.ntmps [c72_4, c72_5, c72_6] (F72_q1 R) ρ ds w :=
  TrL_head (K := (F72_k2 R)) (Tr_block' (c := innerC c72_4) (by kernel_rfl) c72_4_l (F72_3_ok R l1 v2 l15 n16 n17 ds w ρ e1 e2 e15 e16 e17 h))
    (fun ρ' ds' w' hD => by
      exact F72_1_ok R ds' w' ρ'  hD)
theorem F72_5_ok (R : Rt) (l0 : SV) (l1 : SV) (v2 : Value) (ds : Ds) (w : World) (ρ : Env) (e0 : ρ 0 = .slice l0.a l0.len l0.cap) (e1 : ρ 1 = .slice l1.a l1.len l1.cap) (e2 : ρ 2 = v2) (h : F72_5 R l0 l1 v2 ds w) :
    TrL Try.prog Try.f72.ntmps [c72_0, c72_1, c72_2, c72_3, c72_4, c72_5, c72_6] (F72_q1 R) ρ ds w :=
  TrL_piece (pre := [c72_0, c72_1, c72_2, c72_3]) (K := (F72_k6 R)) (X := F72_5 R l0 l1 v2 ds w) (setAll_cons e0 (setAll_cons e1 (setAll_cons e2 setAll_nil))) (by kernel_rfl) (by kernel_rfl)
    (fun ρ' ds' w' hD => by
      obtain ⟨l1, e1, hD⟩ := dSl_elim hD; obtain ⟨l15, e15, hD⟩ := dSl_elim hD; obtain ⟨n16, e16, hD⟩ := dInt_elim hD; obtain ⟨n17, e17, hD⟩ := dInt_elim hD; exact F72_4_ok R l1 (ρ' 2) l15 n16 n17 ds' w' ρ' e1 rfl e15 e16 e17 hD) h
theorem F72_calls (l0 : SV) (l1 : SV) (v2 : Value) (w : World) (R : Rt) (h : F72_5 R l0 l1 v2 [] w) : Calls Try.prog 72 #[.slice l0.a l0.len l0.cap, .slice l1.a l1.len l1.cap, v2] w R :=
  calls_of_L (l := [c72_0, c72_1, c72_2, c72_3, c72_4, c72_5, c72_6]) Try.func72 (by kernel_rfl) (by rw [Try.ntmps72]; exact Nat.le_of_ble_eq_true (by kernel_rfl)) c72_l
    (F72_5_ok R l0 l1 v2 [] w _ rfl rfl rfl h)
theorem F72_callsD (l0 : SV) (l1 : SV) (v2 : Value) (w : World) (R : Rt) (u : FrameMode) (h : F72_5 R l0 l1 v2 [] w) : CallsD Try.prog 72 #[.slice l0.a l0.len l0.cap, .slice l1.a l1.len l1.cap, v2] u w fun e u' w' => u' = u ∧ R e w' :=
  callsD_of_L (l := [c72_0, c72_1, c72_2, c72_3, c72_4, c72_5, c72_6]) Try.func72 (by kernel_rfl) (by rw [Try.ntmps72]; exact Nat.le_of_ble_eq_true (by kernel_rfl)) (by kernel_rfl) c72_l
    (F72_5_ok R l0 l1 v2 [] w _ rfl rfl rfl h) u

/-! function 73: cabinetry/link.Same$1 -/
noncomputable def c73_0 : Code := itemAt (flat (bodyOf Try.f73)) 0
noncomputable def c73_1 : Code := itemAt (flat (bodyOf Try.f73)) 1
noncomputable def c73_2 : Code := itemAt (flat (bodyOf Try.f73)) 2
def F73_q1 (R : Rt) : EQ := endQ Try.prog Try.f73.results.toList R
def F73_1 (R : Rt) (b4 : Bool) (ds : Ds) (w : World) : Prop :=
 runD Try.prog ds w fun w1 =>
 R (.returned (.bool b4)) w1
def F73_k2 (R : Rt) : EP := (fun ρ ds w => dBl (ρ 4) fun b4 => F73_1 R b4 ds w)
def F73_2 (R : Rt) (p2 : Option Addr) (p3 : Option Addr) (ds : Ds) (w : World) : Prop :=
 ptrE p2 fun a2 =>
 ∃ s6 : ByteArray, w.cell? a2 = some (.string s6) ∧
 ptrE p3 fun a3 =>
 ∃ s8 : ByteArray, w.cell? a3 = some (.string s8) ∧
 Br (s6.toList == s8.toList) (
 ptrE p2 fun a4 =>
 ∃ n12 : Int, w.cell? (a4.add 1) = some (.int .i64 n12) ∧
 ptrE p3 fun a5 =>
 ∃ n14 : Int, w.cell? (a5.add 1) = some (.int .i64 n14) ∧
 Br (n12 == n14) (
 ptrE p2 fun a6 =>
 ∃ l19 : SV, w.cell? (a6.add 2) = some (.slice l19.a l19.len l19.cap) ∧
 ptrE p3 fun a7 =>
 ∃ l21 : SV, w.cell? (a7.add 2) = some (.slice l21.a l21.len l21.cap) ∧
 Calls Try.prog 74 #[.slice l19.a l19.len l19.cap, .slice l21.a l21.len l21.cap] w fun e w8 =>
 ∃ b22 : Bool, e = .returned (.bool b22) ∧
 Br b22 (
 ptrE p2 fun a9 =>
 ∃ l26 : SV, w8.cell? (a9.add 3) = some (.slice l26.a l26.len l26.cap) ∧
 ptrE p3 fun a10 =>
 ∃ l28 : SV, w8.cell? (a10.add 3) = some (.slice l28.a l28.len l28.cap) ∧
 Calls Try.prog 75 #[.slice l26.a l26.len l26.cap, .slice l28.a l28.len l28.cap] w8 fun e w11 =>
 ∃ b29 : Bool, e = .returned (.bool b29) ∧
 Br b29 (
 ptrE p2 fun a12 =>
 ∃ l33 : SV, w11.cell? (a12.add 4) = some (.slice l33.a l33.len l33.cap) ∧
 ptrE p3 fun a13 =>
 ∃ l35 : SV, w11.cell? (a13.add 4) = some (.slice l35.a l35.len l35.cap) ∧
 Calls Try.prog 76 #[.slice l33.a l33.len l33.cap, .slice l35.a l35.len l35.cap, .func (.func 74) #[] #[]] w11 fun e w14 =>
 ∃ b36 : Bool, e = .returned (.bool b36) ∧
 F73_1 R b36 ds w14) (
 F73_1 R false ds w11)) (
 F73_1 R false ds w8)) (
 F73_1 R false ds w)) (
 F73_1 R false ds w)
def F73_k3 (R : Rt) : EP := (fun ρ ds w => dPtr (ρ 2) fun p2 => dPtr (ρ 3) fun p3 => F73_2 R p2 p3 ds w)
def F73_3 (R : Rt) (s0_0 : ByteArray) (n0_1 : Int) (l0_2 : SV) (l0_3 : SV) (l0_4 : SV) (s1_0 : ByteArray) (n1_1 : Int) (l1_2 : SV) (l1_3 : SV) (l1_4 : SV) (ds : Ds) (w : World) : Prop :=
 alE (.cells #[.string s0_0, .int .i64 n0_1, .slice l0_2.a l0_2.len l0_2.cap, .slice l0_3.a l0_3.len l0_3.cap, .slice l0_4.a l0_4.len l0_4.cap] 33) w fun r2 w15 =>
 alE (.cells #[.string s1_0, .int .i64 n1_1, .slice l1_2.a l1_2.len l1_2.cap, .slice l1_3.a l1_3.len l1_3.cap, .slice l1_4.a l1_4.len l1_4.cap] 33) w15 fun r3 w16 =>
 F73_2 R (some (⟨r2, 0, none⟩ : Addr)) (some (⟨r3, 0, none⟩ : Addr)) ds w16
theorem c73_l : flat (bodyOf Try.f73) = [c73_0, c73_1, c73_2] := by kernel_rfl
theorem F73_1_ok (R : Rt) (b4 : Bool) (ds : Ds) (w : World) (ρ : Env) (e4 : ρ 4 = .bool b4) (h : F73_1 R b4 ds w) :
    TrL Try.prog Try.f73.ntmps [c73_2] (F73_q1 R) ρ ds w :=
  TrL_leaf (X := F73_1 R b4 ds w) (setAll_cons e4 setAll_nil) (by kernel_rfl) (by kernel_rfl) h
theorem F73_2_ok (R : Rt) (p2 : Option Addr) (p3 : Option Addr) (ds : Ds) (w : World) (ρ : Env) (e2 : ρ 2 = .pointer p2) (e3 : ρ 3 = .pointer p3) (h : F73_2 R p2 p3 ds w) :
    TrL Try.prog Try.f73.ntmps [c73_1, c73_2] (F73_q1 R) ρ ds w :=
  TrL_piece (pre := [c73_1]) (K := (F73_k2 R)) (X := F73_2 R p2 p3 ds w) (setAll_cons e2 (setAll_cons e3 setAll_nil)) (by kernel_rfl) (by kernel_rfl)
    (fun ρ' ds' w' hD => by
      obtain ⟨b4, e4, hD⟩ := dBl_elim hD; exact F73_1_ok R b4 ds' w' ρ' e4 hD) h
theorem F73_3_ok (R : Rt) (s0_0 : ByteArray) (n0_1 : Int) (l0_2 : SV) (l0_3 : SV) (l0_4 : SV) (s1_0 : ByteArray) (n1_1 : Int) (l1_2 : SV) (l1_3 : SV) (l1_4 : SV) (ds : Ds) (w : World) (ρ : Env) (e0 : ρ 0 = .agg #[.string s0_0, .int .i64 n0_1, .slice l0_2.a l0_2.len l0_2.cap, .slice l0_3.a l0_3.len l0_3.cap, .slice l0_4.a l0_4.len l0_4.cap]) (e1 : ρ 1 = .agg #[.string s1_0, .int .i64 n1_1, .slice l1_2.a l1_2.len l1_2.cap, .slice l1_3.a l1_3.len l1_3.cap, .slice l1_4.a l1_4.len l1_4.cap]) (h : F73_3 R s0_0 n0_1 l0_2 l0_3 l0_4 s1_0 n1_1 l1_2 l1_3 l1_4 ds w) :
    TrL Try.prog Try.f73.ntmps [c73_0, c73_1, c73_2] (F73_q1 R) ρ ds w :=
  TrL_piece (pre := [c73_0]) (K := (F73_k3 R)) (X := F73_3 R s0_0 n0_1 l0_2 l0_3 l0_4 s1_0 n1_1 l1_2 l1_3 l1_4 ds w) (setAll_cons e0 (setAll_cons e1 setAll_nil)) (by kernel_rfl) (by kernel_rfl)
    (fun ρ' ds' w' hD => by
      obtain ⟨p2, e2, hD⟩ := dPtr_elim hD; obtain ⟨p3, e3, hD⟩ := dPtr_elim hD; exact F73_2_ok R p2 p3 ds' w' ρ' e2 e3 hD) h
theorem F73_calls (s0_0 : ByteArray) (n0_1 : Int) (l0_2 : SV) (l0_3 : SV) (l0_4 : SV) (s1_0 : ByteArray) (n1_1 : Int) (l1_2 : SV) (l1_3 : SV) (l1_4 : SV) (w : World) (R : Rt) (h : F73_3 R s0_0 n0_1 l0_2 l0_3 l0_4 s1_0 n1_1 l1_2 l1_3 l1_4 [] w) : Calls Try.prog 73 #[.agg #[.string s0_0, .int .i64 n0_1, .slice l0_2.a l0_2.len l0_2.cap, .slice l0_3.a l0_3.len l0_3.cap, .slice l0_4.a l0_4.len l0_4.cap], .agg #[.string s1_0, .int .i64 n1_1, .slice l1_2.a l1_2.len l1_2.cap, .slice l1_3.a l1_3.len l1_3.cap, .slice l1_4.a l1_4.len l1_4.cap]] w R :=
  calls_of_L (l := [c73_0, c73_1, c73_2]) Try.func73 (by kernel_rfl) (by rw [Try.ntmps73]; exact Nat.le_of_ble_eq_true (by kernel_rfl)) c73_l
    (F73_3_ok R s0_0 n0_1 l0_2 l0_3 l0_4 s1_0 n1_1 l1_2 l1_3 l1_4 [] w _ rfl rfl h)
theorem F73_callsD (s0_0 : ByteArray) (n0_1 : Int) (l0_2 : SV) (l0_3 : SV) (l0_4 : SV) (s1_0 : ByteArray) (n1_1 : Int) (l1_2 : SV) (l1_3 : SV) (l1_4 : SV) (w : World) (R : Rt) (u : FrameMode) (h : F73_3 R s0_0 n0_1 l0_2 l0_3 l0_4 s1_0 n1_1 l1_2 l1_3 l1_4 [] w) : CallsD Try.prog 73 #[.agg #[.string s0_0, .int .i64 n0_1, .slice l0_2.a l0_2.len l0_2.cap, .slice l0_3.a l0_3.len l0_3.cap, .slice l0_4.a l0_4.len l0_4.cap], .agg #[.string s1_0, .int .i64 n1_1, .slice l1_2.a l1_2.len l1_2.cap, .slice l1_3.a l1_3.len l1_3.cap, .slice l1_4.a l1_4.len l1_4.cap]] u w fun e u' w' => u' = u ∧ R e w' :=
  callsD_of_L (l := [c73_0, c73_1, c73_2]) Try.func73 (by kernel_rfl) (by rw [Try.ntmps73]; exact Nat.le_of_ble_eq_true (by kernel_rfl)) (by kernel_rfl) c73_l
    (F73_3_ok R s0_0 n0_1 l0_2 l0_3 l0_4 s1_0 n1_1 l1_2 l1_3 l1_4 [] w _ rfl rfl h) u

/-! function 74: slices.Equal[[]string,string] -/
noncomputable def c74_0 : Code := itemAt (flat (bodyOf Try.f74)) 0
noncomputable def c74_1 : Code := itemAt (flat (bodyOf Try.f74)) 1
noncomputable def c74_2 : Code := itemAt (flat (bodyOf Try.f74)) 2
noncomputable def c74_3 : Code := itemAt (flat (bodyOf Try.f74)) 3
noncomputable def c74_4 : Code := itemAt (flat (bodyOf Try.f74)) 4
noncomputable def c74_5 : Code := itemAt (flat (bodyOf Try.f74)) 5
noncomputable def c74_6 : Code := itemAt (flat (bodyOf Try.f74)) 6
noncomputable def c74_4_0 : Code := itemAt (flat (innerC c74_4)) 0
noncomputable def c74_4_0_0 : Code := itemAt (flat (innerC c74_4_0)) 0
noncomputable def c74_4_0_1 : Code := itemAt (flat (innerC c74_4_0)) 1
noncomputable def c74_4_0_2 : Code := itemAt (flat (innerC c74_4_0)) 2
noncomputable def c74_4_0_3 : Code := itemAt (flat (innerC c74_4_0)) 3
def F74_q1 (R : Rt) : EQ := endQ Try.prog Try.f74.results.toList R
def F74_1 (R : Rt) (ds : Ds) (w : World) : Prop :=
 runD Try.prog ds w fun w1 =>
 R (.returned (.bool true)) w1
def F74_k2 (R : Rt) : EP := (fun ρ ds w => F74_1 R ds w)
def F74_q3 (R : Rt) : EQ := (thenQ (F74_k2 R) (F74_q1 R))
def F74_q4 (R : Rt) : EQ := (blockQ 0 (F74_q3 R))
def F74_q5 (R : Rt) (J1 : (Int) → World → Prop) : EQ := (thenQ (fun ρ _ w => dInt .i64 (ρ 13) fun n13 => J1 n13 w) (F74_q4 R))
def F74_2 (R : Rt) (J1 : (Int) → World → Prop) (l0 : SV) (l1 : SV) (n12 : Int) (n13 : Int) (ds : Ds) (w : World) : Prop :=
 Br (decide (n13 < n12)) (
 dwE w fun w2 =>
 ∃ a3 : Addr, l0.a = some a3 ∧ 0 ≤ n13 ∧ n13 < ((l0.len : Nat) : Int) ∧
 ∃ s19 : ByteArray, w2.cell? (a3.add (n13.toNat * 1)) = some (.string s19) ∧
 ∃ a4 : Addr, l1.a = some a4 ∧ 0 ≤ n13 ∧ n13 < ((l1.len : Nat) : Int) ∧
 ∃ s23 : ByteArray, w2.cell? (a4.add (n13.toNat * 1)) = some (.string s23) ∧
 Br (!(s19.toList == s23.toList)) (
 runD Try.prog ds w2 fun w5 =>
 R (.returned (.bool false)) w5) (
 J1 (IntKind.i64.wrap (n13 + 1)) w2)) (
 F74_1 R ds w)
def F74_3 (R : Rt) (l0 : SV) (l1 : SV) (n12 : Int) (n13 : Int) (ds : Ds) (w : World) : Prop :=
 loopT (fun (J1 : (Int) → World → Prop) (s : Int) (w : World) => F74_2 R J1 l0 l1 n12 s ds w) n13 w
@[reducible] def F74_4 (R : Rt) (l0 : SV) (l1 : SV) (n12 : Int) (n13 : Int) (ds : Ds) (w : World) : Prop := F74_3 R l0 l1 n12 n13 ds w
def F74_k6 (R : Rt) : EP := (fun ρ ds w => dSl (ρ 0) fun l0 => dSl (ρ 1) fun l1 => dInt .i64 (ρ 12) fun n12 => dInt .i64 (ρ 13) fun n13 => F74_4 R l0 l1 n12 n13 ds w)
def F74_5 (R : Rt) (l0 : SV) (l1 : SV) (ds : Ds) (w : World) : Prop :=
 Br (((l0.len : Nat) : Int) != ((l1.len : Nat) : Int)) (
 runD Try.prog ds w fun w6 =>
 R (.returned (.bool false)) w6) (
 F74_4 R l0 l1 ((l0.len : Nat) : Int) 0 ds w)
theorem c74_l : flat (bodyOf Try.f74) = [c74_0, c74_1, c74_2, c74_3, c74_4, c74_5, c74_6] := by kernel_rfl
theorem c74_4_l : flat (innerC c74_4) = [c74_4_0] := by kernel_rfl
theorem c74_4_0_l : flat (innerC c74_4_0) = [c74_4_0_0, c74_4_0_1, c74_4_0_2, c74_4_0_3] := by kernel_rfl
theorem F74_1_ok (R : Rt) (ds : Ds) (w : World) (ρ : Env) (h : F74_1 R ds w) :
    TrL Try.prog Try.f74.ntmps [c74_5, c74_6] (F74_q1 R) ρ ds w :=
  TrL_leaf (X := F74_1 R ds w) setAll_nil (by kernel_rfl) (by kernel_rfl) h
theorem F74_2_ok (R : Rt) (J1 : (Int) → World → Prop) (l0 : SV) (l1 : SV) (n12 : Int) (n13 : Int) (ds : Ds) (w : World) (ρ : Env) (e0 : ρ 0 = .slice l0.a l0.len l0.cap) (e1 : ρ 1 = .slice l1.a l1.len l1.cap) (e12 : ρ 12 = .int .i64 n12) (e13 : ρ 13 = .int .i64 n13) (h : F74_2 R J1 l0 l1 n12 n13 ds w) :
    TrL Try.prog Try.f74.ntmps [c74_4_0_0, c74_4_0_1, c74_4_0_2, c74_4_0_3] (F74_q5 R J1) ρ ds w :=
  TrL_leaf (X := F74_2 R J1 l0 l1 n12 n13 ds w) (setAll_cons e0 (setAll_cons e1 (setAll_cons e12 (setAll_cons e13 setAll_nil)))) (by kernel_rfl) (by kernel_rfl) h
theorem F74_3_ok (R : Rt) (l0 : SV) (l1 : SV) (n12 : Int) (n13 : Int) (ds : Ds) (w : World) (ρ : Env) (e0 : ρ 0 = .slice l0.a l0.len l0.cap) (e1 : ρ 1 = .slice l1.a l1.len l1.cap) (e12 : ρ 12 = .int .i64 n12) (e13 : ρ 13 = .int .i64 n13) (h : F74_3 R l0 l1 n12 n13 ds w) :
    TrL Try.prog Try.f74.ntmps [c74_4_0] (F74_q4 R) ρ ds w :=
  TrL_one (Tr_loop' (c := innerC c74_4_0) (σ := Int) (enc := (fun (s : Int) (ρ : Env) => ρ 13 = .int .i64 s)) (D := (fun ρ K => dInt .i64 (ρ 13) fun n13 => K n13)) (F := (fun (J1 : (Int) → World → Prop) (s : Int) (w : World) => F74_2 R J1 l0 l1 n12 s ds w)) (s0 := n13) (by kernel_rfl) c74_4_0_l e13 (by kernel_rfl) (fun ρ K hD => by obtain ⟨n13, e13, hD⟩ := dInt_elim hD; exact ⟨n13, e13, hD⟩)
      (fun J1 s ρ' w' he ha hF => by
      have e13' := he
      exact F74_2_ok R J1 l0 l1 n12 s ds w' ρ' ((ha 0 (by kernel_rfl)).trans e0) ((ha 1 (by kernel_rfl)).trans e1) ((ha 12 (by kernel_rfl)).trans e12) e13' hF) h)
theorem F74_4_ok (R : Rt) (l0 : SV) (l1 : SV) (n12 : Int) (n13 : Int) (ds : Ds) (w : World) (ρ : Env) (e0 : ρ 0 = .slice l0.a l0.len l0.cap) (e1 : ρ 1 = .slice l1.a l1.len l1.cap) (e12 : ρ 12 = .int .i64 n12) (e13 : ρ 13 = .int .i64 n13) (h : F74_4 R l0 l1 n12 n13 ds w) :
    TrL Try.prog Try.f74.ntmps [c74_4, c74_5, c74_6] (F74_q1 R) ρ ds w :=
  TrL_head (K := (F74_k2 R)) (Tr_block' (c := innerC c74_4) (by kernel_rfl) c74_4_l (F74_3_ok R l0 l1 n12 n13 ds w ρ e0 e1 e12 e13 h))
    (fun ρ' ds' w' hD => by
      exact F74_1_ok R ds' w' ρ'  hD)
theorem F74_5_ok (R : Rt) (l0 : SV) (l1 : SV) (ds : Ds) (w : World) (ρ : Env) (e0 : ρ 0 = .slice l0.a l0.len l0.cap) (e1 : ρ 1 = .slice l1.a l1.len l1.cap) (h : F74_5 R l0 l1 ds w) :
    TrL Try.prog Try.f74.ntmps [c74_0, c74_1, c74_2, c74_3, c74_4, c74_5, c74_6] (F74_q1 R) ρ ds w :=
  TrL_piece (pre := [c74_0, c74_1, c74_2, c74_3]) (K := (F74_k6 R)) (X := F74_5 R l0 l1 ds w) (setAll_cons e0 (setAll_cons e1 setAll_nil)) (by kernel_rfl) (by kernel_rfl)
    (fun ρ' ds' w' hD => by
      obtain ⟨l0, e0, hD⟩ := dSl_elim hD; obtain ⟨l1, e1, hD⟩ := dSl_elim hD; obtain ⟨n12, e12, hD⟩ := dInt_elim hD; obtain ⟨n13, e13, hD⟩ := dInt_elim hD; exact F74_4_ok R l0 l1 n12 n13 ds' w' ρ' e0 e1 e12 e13 hD) h
theorem F74_calls (l0 : SV) (l1 : SV) (w : World) (R : Rt) (h : F74_5 R l0 l1 [] w) : Calls Try.prog 74 #[.slice l0.a l0.len l0.cap, .slice l1.a l1.len l1.cap] w R :=
  calls_of_L (l := [c74_0, c74_1, c74_2, c74_3, c74_4, c74_5, c74_6]) Try.func74 (by kernel_rfl) (by rw [Try.ntmps74]; exact Nat.le_of_ble_eq_true (by kernel_rfl)) c74_l
    (F74_5_ok R l0 l1 [] w _ rfl rfl h)
theorem F74_callsD (l0 : SV) (l1 : SV) (w : World) (R : Rt) (u : FrameMode) (h : F74_5 R l0 l1 [] w) : CallsD Try.prog 74 #[.slice l0.a l0.len l0.cap, .slice l1.a l1.len l1.cap] u w fun e u' w' => u' = u ∧ R e w' :=
  callsD_of_L (l := [c74_0, c74_1, c74_2, c74_3, c74_4, c74_5, c74_6]) Try.func74 (by kernel_rfl) (by rw [Try.ntmps74]; exact Nat.le_of_ble_eq_true (by kernel_rfl)) (by kernel_rfl) c74_l
    (F74_5_ok R l0 l1 [] w _ rfl rfl h) u

/-! function 75: slices.Equal[[]int,int] -/
noncomputable def c75_0 : Code := itemAt (flat (bodyOf Try.f75)) 0
noncomputable def c75_1 : Code := itemAt (flat (bodyOf Try.f75)) 1
noncomputable def c75_2 : Code := itemAt (flat (bodyOf Try.f75)) 2
noncomputable def c75_3 : Code := itemAt (flat (bodyOf Try.f75)) 3
noncomputable def c75_4 : Code := itemAt (flat (bodyOf Try.f75)) 4
noncomputable def c75_5 : Code := itemAt (flat (bodyOf Try.f75)) 5
noncomputable def c75_6 : Code := itemAt (flat (bodyOf Try.f75)) 6
noncomputable def c75_4_0 : Code := itemAt (flat (innerC c75_4)) 0
noncomputable def c75_4_0_0 : Code := itemAt (flat (innerC c75_4_0)) 0
noncomputable def c75_4_0_1 : Code := itemAt (flat (innerC c75_4_0)) 1
noncomputable def c75_4_0_2 : Code := itemAt (flat (innerC c75_4_0)) 2
noncomputable def c75_4_0_3 : Code := itemAt (flat (innerC c75_4_0)) 3
def F75_q1 (R : Rt) : EQ := endQ Try.prog Try.f75.results.toList R
def F75_1 (R : Rt) (ds : Ds) (w : World) : Prop :=
 runD Try.prog ds w fun w1 =>
 R (.returned (.bool true)) w1
def F75_k2 (R : Rt) : EP := (fun ρ ds w => F75_1 R ds w)
def F75_q3 (R : Rt) : EQ := (thenQ (F75_k2 R) (F75_q1 R))
def F75_q4 (R : Rt) : EQ := (blockQ 0 (F75_q3 R))
def F75_q5 (R : Rt) (J1 : (Int) → World → Prop) : EQ := (thenQ (fun ρ _ w => dInt .i64 (ρ 13) fun n13 => J1 n13 w) (F75_q4 R))
def F75_2 (R : Rt) (J1 : (Int) → World → Prop) (l0 : SV) (l1 : SV) (n12 : Int) (n13 : Int) (ds : Ds) (w : World) : Prop :=
 Br (decide (n13 < n12)) (
 dwE w fun w2 =>
 ∃ a3 : Addr, l0.a = some a3 ∧ 0 ≤ n13 ∧ n13 < ((l0.len : Nat) : Int) ∧
 ∃ n19 : Int, w2.cell? (a3.add (n13.toNat * 1)) = some (.int .i64 n19) ∧
 ∃ a4 : Addr, l1.a = some a4 ∧ 0 ≤ n13 ∧ n13 < ((l1.len : Nat) : Int) ∧
 ∃ n23 : Int, w2.cell? (a4.add (n13.toNat * 1)) = some (.int .i64 n23) ∧
 Br (n19 != n23) (
 runD Try.prog ds w2 fun w5 =>
 R (.returned (.bool false)) w5) (
 J1 (IntKind.i64.wrap (n13 + 1)) w2)) (
 F75_1 R ds w)
def F75_3 (R : Rt) (l0 : SV) (l1 : SV) (n12 : Int) (n13 : Int) (ds : Ds) (w : World) : Prop :=
 loopT (fun (J1 : (Int) → World → Prop) (s : Int) (w : World) => F75_2 R J1 l0 l1 n12 s ds w) n13 w
@[reducible] def F75_4 (R : Rt) (l0 : SV) (l1 : SV) (n12 : Int) (n13 : Int) (ds : Ds) (w : World) : Prop := F75_3 R l0 l1 n12 n13 ds w
def F75_k6 (R : Rt) : EP := (fun ρ ds w => dSl (ρ 0) fun l0 => dSl (ρ 1) fun l1 => dInt .i64 (ρ 12) fun n12 => dInt .i64 (ρ 13) fun n13 => F75_4 R l0 l1 n12 n13 ds w)
def F75_5 (R : Rt) (l0 : SV) (l1 : SV) (ds : Ds) (w : World) : Prop :=
 Br (((l0.len : Nat) : Int) != ((l1.len : Nat) : Int)) (
 runD Try.prog ds w fun w6 =>
 R (.returned (.bool false)) w6) (
 F75_4 R l0 l1 ((l0.len : Nat) : Int) 0 ds w)
theorem c75_l : flat (bodyOf Try.f75) = [c75_0, c75_1, c75_2, c75_3, c75_4, c75_5, c75_6] := by kernel_rfl
theorem c75_4_l : flat (innerC c75_4) = [c75_4_0] := by kernel_rfl
theorem c75_4_0_l : flat (innerC c75_4_0) = [c75_4_0_0, c75_4_0_1, c75_4_0_2, c75_4_0_3] := by kernel_rfl
theorem F75_1_ok (R : Rt) (ds : Ds) (w : World) (ρ : Env) (h : F75_1 R ds w) :
    TrL Try.prog Try.f75.ntmps [c75_5, c75_6] (F75_q1 R) ρ ds w :=
  TrL_leaf (X := F75_1 R ds w) setAll_nil (by kernel_rfl) (by kernel_rfl) h
theorem F75_2_ok (R : Rt) (J1 : (Int) → World → Prop) (l0 : SV) (l1 : SV) (n12 : Int) (n13 : Int) (ds : Ds) (w : World) (ρ : Env) (e0 : ρ 0 = .slice l0.a l0.len l0.cap) (e1 : ρ 1 = .slice l1.a l1.len l1.cap) (e12 : ρ 12 = .int .i64 n12) (e13 : ρ 13 = .int .i64 n13) (h : F75_2 R J1 l0 l1 n12 n13 ds w) :
    TrL Try.prog Try.f75.ntmps [c75_4_0_0, c75_4_0_1, c75_4_0_2, c75_4_0_3] (F75_q5 R J1) ρ ds w :=
  TrL_leaf (X := F75_2 R J1 l0 l1 n12 n13 ds w) (setAll_cons e0 (setAll_cons e1 (setAll_cons e12 (setAll_cons e13 setAll_nil)))) (by kernel_rfl) (by kernel_rfl) h
theorem F75_3_ok (R : Rt) (l0 : SV) (l1 : SV) (n12 : Int) (n13 : Int) (ds : Ds) (w : World) (ρ : Env) (e0 : ρ 0 = .slice l0.a l0.len l0.cap) (e1 : ρ 1 = .slice l1.a l1.len l1.cap) (e12 : ρ 12 = .int .i64 n12) (e13 : ρ 13 = .int .i64 n13) (h : F75_3 R l0 l1 n12 n13 ds w) :
    TrL Try.prog Try.f75.ntmps [c75_4_0] (F75_q4 R) ρ ds w :=
  TrL_one (Tr_loop' (c := innerC c75_4_0) (σ := Int) (enc := (fun (s : Int) (ρ : Env) => ρ 13 = .int .i64 s)) (D := (fun ρ K => dInt .i64 (ρ 13) fun n13 => K n13)) (F := (fun (J1 : (Int) → World → Prop) (s : Int) (w : World) => F75_2 R J1 l0 l1 n12 s ds w)) (s0 := n13) (by kernel_rfl) c75_4_0_l e13 (by kernel_rfl) (fun ρ K hD => by obtain ⟨n13, e13, hD⟩ := dInt_elim hD; exact ⟨n13, e13, hD⟩)
      (fun J1 s ρ' w' he ha hF => by
      have e13' := he
      exact F75_2_ok R J1 l0 l1 n12 s ds w' ρ' ((ha 0 (by kernel_rfl)).trans e0) ((ha 1 (by kernel_rfl)).trans e1) ((ha 12 (by kernel_rfl)).trans e12) e13' hF) h)
theorem F75_4_ok (R : Rt) (l0 : SV) (l1 : SV) (n12 : Int) (n13 : Int) (ds : Ds) (w : World) (ρ : Env) (e0 : ρ 0 = .slice l0.a l0.len l0.cap) (e1 : ρ 1 = .slice l1.a l1.len l1.cap) (e12 : ρ 12 = .int .i64 n12) (e13 : ρ 13 = .int .i64 n13) (h : F75_4 R l0 l1 n12 n13 ds w) :
    TrL Try.prog Try.f75.ntmps [c75_4, c75_5, c75_6] (F75_q1 R) ρ ds w :=
  TrL_head (K := (F75_k2 R)) (Tr_block' (c := innerC c75_4) (by kernel_rfl) c75_4_l (F75_3_ok R l0 l1 n12 n13 ds w ρ e0 e1 e12 e13 h))
    (fun ρ' ds' w' hD => by
      exact F75_1_ok R ds' w' ρ'  hD)
theorem F75_5_ok (R : Rt) (l0 : SV) (l1 : SV) (ds : Ds) (w : World) (ρ : Env) (e0 : ρ 0 = .slice l0.a l0.len l0.cap) (e1 : ρ 1 = .slice l1.a l1.len l1.cap) (h : F75_5 R l0 l1 ds w) :
    TrL Try.prog Try.f75.ntmps [c75_0, c75_1, c75_2, c75_3, c75_4, c75_5, c75_6] (F75_q1 R) ρ ds w :=
  TrL_piece (pre := [c75_0, c75_1, c75_2, c75_3]) (K := (F75_k6 R)) (X := F75_5 R l0 l1 ds w) (setAll_cons e0 (setAll_cons e1 setAll_nil)) (by kernel_rfl) (by kernel_rfl)
    (fun ρ' ds' w' hD => by
      obtain ⟨l0, e0, hD⟩ := dSl_elim hD; obtain ⟨l1, e1, hD⟩ := dSl_elim hD; obtain ⟨n12, e12, hD⟩ := dInt_elim hD; obtain ⟨n13, e13, hD⟩ := dInt_elim hD; exact F75_4_ok R l0 l1 n12 n13 ds' w' ρ' e0 e1 e12 e13 hD) h
theorem F75_calls (l0 : SV) (l1 : SV) (w : World) (R : Rt) (h : F75_5 R l0 l1 [] w) : Calls Try.prog 75 #[.slice l0.a l0.len l0.cap, .slice l1.a l1.len l1.cap] w R :=
  calls_of_L (l := [c75_0, c75_1, c75_2, c75_3, c75_4, c75_5, c75_6]) Try.func75 (by kernel_rfl) (by rw [Try.ntmps75]; exact Nat.le_of_ble_eq_true (by kernel_rfl)) c75_l
    (F75_5_ok R l0 l1 [] w _ rfl rfl h)
theorem F75_callsD (l0 : SV) (l1 : SV) (w : World) (R : Rt) (u : FrameMode) (h : F75_5 R l0 l1 [] w) : CallsD Try.prog 75 #[.slice l0.a l0.len l0.cap, .slice l1.a l1.len l1.cap] u w fun e u' w' => u' = u ∧ R e w' :=
  callsD_of_L (l := [c75_0, c75_1, c75_2, c75_3, c75_4, c75_5, c75_6]) Try.func75 (by kernel_rfl) (by rw [Try.ntmps75]; exact Nat.le_of_ble_eq_true (by kernel_rfl)) (by kernel_rfl) c75_l
    (F75_5_ok R l0 l1 [] w _ rfl rfl h) u

/-! function 76: slices.EqualFunc[[][]string,[][]string,[]string,[]string] -/
noncomputable def c76_0 : Code := itemAt (flat (bodyOf Try.f76)) 0
noncomputable def c76_1 : Code := itemAt (flat (bodyOf Try.f76)) 1
noncomputable def c76_2 : Code := itemAt (flat (bodyOf Try.f76)) 2
noncomputable def c76_3 : Code := itemAt (flat (bodyOf Try.f76)) 3
noncomputable def c76_4 : Code := itemAt (flat (bodyOf Try.f76)) 4
noncomputable def c76_5 : Code := itemAt (flat (bodyOf Try.f76)) 5
noncomputable def c76_6 : Code := itemAt (flat (bodyOf Try.f76)) 6
noncomputable def c76_4_0 : Code := itemAt (flat (innerC c76_4)) 0
noncomputable def c76_4_0_0 : Code := itemAt (flat (innerC c76_4_0)) 0
noncomputable def c76_4_0_1 : Code := itemAt (flat (innerC c76_4_0)) 1
noncomputable def c76_4_0_2 : Code := itemAt (flat (innerC c76_4_0)) 2
noncomputable def c76_4_0_3 : Code := itemAt (flat (innerC c76_4_0)) 3
def F76_q1 (R : Rt) : EQ := endQ Try.prog Try.f76.results.toList R
def F76_1 (R : Rt) (ds : Ds) (w : World) : Prop :=
 runD Try.prog ds w fun w1 =>
 R (.returned (.bool true)) w1
def F76_k2 (R : Rt) : EP := (fun ρ ds w => F76_1 R ds w)
def F76_q3 (R : Rt) : EQ := (thenQ (F76_k2 R) (F76_q1 R))
def F76_q4 (R : Rt) : EQ := (blockQ 0 (F76_q3 R))
def F76_q5 (R : Rt) (J1 : (Int) → World → Prop) : EQ := (thenQ (fun ρ _ w => dInt .i64 (ρ 17) fun n17 => J1 n17 w) (F76_q4 R))
def F76_2 (R : Rt) (J1 : (Int) → World → Prop) (l1 : SV) (v2 : Value) (l15 : SV) (n16 : Int) (n17 : Int) (ds : Ds) (w : World) : Prop :=
 Br (decide (n17 < n16)) (
 ∃ a2 : Addr, l15.a = some a2 ∧ 0 ≤ n17 ∧ n17 < ((l15.len : Nat) : Int) ∧
 ∃ l21 : SV, w.cell? (a2.add (n17.toNat * 1)) = some (.slice l21.a l21.len l21.cap) ∧
 ∃ a3 : Addr, l1.a = some a3 ∧ 0 ≤ n17 ∧ n17 < ((l1.len : Nat) : Int) ∧
 ∃ l25 : SV, w.cell? (a3.add (n17.toNat * 1)) = some (.slice l25.a l25.len l25.cap) ∧
 fnE v2 fun f29 first29 cap29 =>
 hasBody Try.prog f29 = true ∧ Calls Try.prog f29 (first29.toList ++ (([.slice l21.a l21.len l21.cap, .slice l25.a l25.len l25.cap] : List Value) ++ cap29.toList)).toArray w fun e w4 =>
 ∃ b29 : Bool, e = .returned (.bool b29) ∧
 Br (!b29) (
 runD Try.prog ds w4 fun w5 =>
 R (.returned (.bool false)) w5) (
 J1 (IntKind.i64.wrap (n17 + 1)) w4)) (
 F76_1 R ds w)
def F76_3 (R : Rt) (l1 : SV) (v2 : Value) (l15 : SV) (n16 : Int) (n17 : Int) (ds : Ds) (w : World) : Prop :=
 loopT (fun (J1 : (Int) → World → Prop) (s : Int) (w : World) => F76_2 R J1 l1 v2 l15 n16 s ds w) n17 w
@[reducible] def F76_4 (R : Rt) (l1 : SV) (v2 : Value) (l15 : SV) (n16 : Int) (n17 : Int) (ds : Ds) (w : World) : Prop := F76_3 R l1 v2 l15 n16 n17 ds w
def F76_k6 (R : Rt) : EP := (fun ρ ds w => dSl (ρ 1) fun l1 => dSl (ρ 15) fun l15 => dInt .i64 (ρ 16) fun n16 => dInt .i64 (ρ 17) fun n17 => F76_4 R l1 (ρ 2) l15 n16 n17 ds w)
def F76_5 (R : Rt) (l0 : SV) (l1 : SV) (v2 : Value) (ds : Ds) (w : World) : Prop :=
 Br (((l0.len : Nat) : Int) != ((l1.len : Nat) : Int)) (
 runD Try.prog ds w fun w6 =>
 R (.returned (.bool false)) w6) (
 F76_4 R l1 (v2) l0 ((l0.len : Nat) : Int) 0 ds w)
theorem c76_l : flat (bodyOf Try.f76) = [c76_0, c76_1, c76_2, c76_3, c76_4, c76_5, c76_6] := by kernel_rfl
theorem c76_4_l : flat (innerC c76_4) = [c76_4_0] := by kernel_rfl
theorem c76_4_0_l : flat (innerC c76_4_0) = [c76_4_0_0, c76_4_0_1, c76_4_0_2, c76_4_0_3] := by kernel_rfl
theorem F76_1_ok (R : Rt) (ds : Ds) (w : World) (ρ : Env) (h : F76_1 R ds w) :
    TrL Try.prog Try.f76.ntmps [c76_5, c76_6] (F76_q1 R) ρ ds w :=
  TrL_leaf (X := F76_1 R ds w) setAll_nil (by kernel_rfl) (by kernel_rfl) h
theorem F76_2_ok (R : Rt) (J1 : (Int) → World → Prop) (l1 : SV) (v2 : Value) (l15 : SV) (n16 : Int) (n17 : Int) (ds : Ds) (w : World) (ρ : Env) (e1 : ρ 1 = .slice l1.a l1.len l1.cap) (e2 : ρ 2 = v2) (e15 : ρ 15 = .slice l15.a l15.len l15.cap) (e16 : ρ 16 = .int .i64 n16) (e17 : ρ 17 = .int .i64 n17) (h : F76_2 R J1 l1 v2 l15 n16 n17 ds w) :
    TrL Try.prog Try.f76.ntmps [c76_4_0_0, c76_4_0_1, c76_4_0_2, c76_4_0_3] (F76_q5 R J1) ρ ds w :=
  TrL_leaf (X := F76_2 R J1 l1 v2 l15 n16 n17 ds w) (setAll_cons e1 (setAll_cons e2 (setAll_cons e15 (setAll_cons e16 (setAll_cons e17 setAll_nil))))) (by kernel_rfl) (by kernel_rfl) h
theorem F76_3_ok (R : Rt) (l1 : SV) (v2 : Value) (l15 : SV) (n16 : Int) (n17 : Int) (ds : Ds) (w : World) (ρ : Env) (e1 : ρ 1 = .slice l1.a l1.len l1.cap) (e2 : ρ 2 = v2) (e15 : ρ 15 = .slice l15.a l15.len l15.cap) (e16 : ρ 16 = .int .i64 n16) (e17 : ρ 17 = .int .i64 n17) (h : F76_3 R l1 v2 l15 n16 n17 ds w) :
    TrL Try.prog Try.f76.ntmps [c76_4_0] (F76_q4 R) ρ ds w :=
  TrL_one (Tr_loop' (c := innerC c76_4_0) (σ := Int) (enc := (fun (s : Int) (ρ : Env) => ρ 17 = .int .i64 s)) (D := (fun ρ K => dInt .i64 (ρ 17) fun n17 => K n17)) (F := (fun (J1 : (Int) → World → Prop) (s : Int) (w : World) => F76_2 R J1 l1 v2 l15 n16 s ds w)) (s0 := n17) (by kernel_rfl) c76_4_0_l e17 (by kernel_rfl) (fun ρ K hD => by obtain ⟨n17, e17, hD⟩ := dInt_elim hD; exact ⟨n17, e17, hD⟩)
      (fun J1 s ρ' w' he ha hF => by
      have e17' := he
      exact F76_2_ok R J1 l1 v2 l15 n16 s ds w' ρ' ((ha 1 (by kernel_rfl)).trans e1) ((ha 2 (by kernel_rfl)).trans e2) ((ha 15 (by kernel_rfl)).trans e15) ((ha 16 (by kernel_rfl)).trans e16) e17' hF) h)
theorem F76_4_ok (R : Rt) (l1 : SV) (v2 : Value) (l15 : SV) (n16 : Int) (n17 : Int) (ds : Ds) (w : World) (ρ : Env) (e1 : ρ 1 = .slice l1.a l1.len l1.cap) (e2 : ρ 2 = v2) (e15 : ρ 15 = .slice l15.a l15.len l15.cap) (e16 : ρ 16 = .int .i64 n16) (e17 : ρ 17 = .int .i64 n17) (h : F76_4 R l1 v2 l15 n16 n17 ds w) :
    TrL Try.prog Try.f76.ntmps [c76_4, c76_5, c76_6] (F76_q1 R) ρ ds w :=
  TrL_head (K := (F76_k2 R)) (Tr_block' (c := innerC c76_4) (by kernel_rfl) c76_4_l (F76_3_ok R l1 v2 l15 n16 n17 ds w ρ e1 e2 e15 e16 e17 h))
    (fun ρ' ds' w' hD => by
      exact F76_1_ok R ds' w' ρ'  hD)
theorem F76_5_ok (R : Rt) (l0 : SV) (l1 : SV) (v2 : Value) (ds : Ds) (w : World) (ρ : Env) (e0 : ρ 0 = .slice l0.a l0.len l0.cap) (e1 : ρ 1 = .slice l1.a l1.len l1.cap) (e2 : ρ 2 = v2) (h : F76_5 R l0 l1 v2 ds w) :
    TrL Try.prog Try.f76.ntmps [c76_0, c76_1, c76_2, c76_3, c76_4, c76_5, c76_6] (F76_q1 R) ρ ds w :=
  TrL_piece (pre := [c76_0, c76_1, c76_2, c76_3]) (K := (F76_k6 R)) (X := F76_5 R l0 l1 v2 ds w) (setAll_cons e0 (setAll_cons e1 (setAll_cons e2 setAll_nil))) (by kernel_rfl) (by kernel_rfl)
    (fun ρ' ds' w' hD => by
      obtain ⟨l1, e1, hD⟩ := dSl_elim hD; obtain ⟨l15, e15, hD⟩ := dSl_elim hD; obtain ⟨n16, e16, hD⟩ := dInt_elim hD; obtain ⟨n17, e17, hD⟩ := dInt_elim hD; exact F76_4_ok R l1 (ρ' 2) l15 n16 n17 ds' w' ρ' e1 rfl e15 e16 e17 hD) h
theorem F76_calls (l0 : SV) (l1 : SV) (v2 : Value) (w : World) (R : Rt) (h : F76_5 R l0 l1 v2 [] w) : Calls Try.prog 76 #[.slice l0.a l0.len l0.cap, .slice l1.a l1.len l1.cap, v2] w R :=
  calls_of_L (l := [c76_0, c76_1, c76_2, c76_3, c76_4, c76_5, c76_6]) Try.func76 (by kernel_rfl) (by rw [Try.ntmps76]; exact Nat.le_of_ble_eq_true (by kernel_rfl)) c76_l
    (F76_5_ok R l0 l1 v2 [] w _ rfl rfl rfl h)
theorem F76_callsD (l0 : SV) (l1 : SV) (v2 : Value) (w : World) (R : Rt) (u : FrameMode) (h : F76_5 R l0 l1 v2 [] w) : CallsD Try.prog 76 #[.slice l0.a l0.len l0.cap, .slice l1.a l1.len l1.cap, v2] u w fun e u' w' => u' = u ∧ R e w' :=
  callsD_of_L (l := [c76_0, c76_1, c76_2, c76_3, c76_4, c76_5, c76_6]) Try.func76 (by kernel_rfl) (by rw [Try.ntmps76]; exact Nat.le_of_ble_eq_true (by kernel_rfl)) (by kernel_rfl) c76_l
    (F76_5_ok R l0 l1 v2 [] w _ rfl rfl rfl h) u

end Go.Proofs.Ytcnenlmhbpijlaa
