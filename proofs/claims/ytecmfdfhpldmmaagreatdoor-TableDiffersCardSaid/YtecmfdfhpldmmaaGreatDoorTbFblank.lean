import Derived.Test.YtecmfdfhpldmmaaGreatDoorProg
import Derived.Test.YtecmfdfhpldmmaaGreatDoorShEight
/- Shallow texts of functions, printed by program, each checked by the kernel against the loaded code. No condition. -/
set_option maxRecDepth 100000
set_option linter.unusedVariables false
namespace Go.Proofs.YtecmfdfhpldmmaaGreatDoor
open Go.Sh
/-! function 5: cabinetry/cabinetrylaw03.TableBlanks -/
noncomputable def c5_0 : Code := itemAt (flat (bodyOf Tryz.f5)) 0
noncomputable def c5_1 : Code := itemAt (flat (bodyOf Tryz.f5)) 1
noncomputable def c5_2 : Code := itemAt (flat (bodyOf Tryz.f5)) 2
noncomputable def c5_3 : Code := itemAt (flat (bodyOf Tryz.f5)) 3
noncomputable def c5_4 : Code := itemAt (flat (bodyOf Tryz.f5)) 4
noncomputable def c5_5 : Code := itemAt (flat (bodyOf Tryz.f5)) 5
noncomputable def c5_6 : Code := itemAt (flat (bodyOf Tryz.f5)) 6
noncomputable def c5_7 : Code := itemAt (flat (bodyOf Tryz.f5)) 7
noncomputable def c5_8 : Code := itemAt (flat (bodyOf Tryz.f5)) 8
def F5_q1 (R : Rt) : EQ := endQ Tryz.prog Tryz.f5.results.toList R
def F5_1 (R : Rt) (l0 : SV) (s1 : ByteArray) (ds : Ds) (w : World) : Prop :=
 Calls Tryz.prog 24 #[.agg #[.int .i64 0, .slice l0.a l0.len l0.cap, .slice none 0 0]] w fun e w1 =>
 ∃ n17 : Int, e = .returned (.int .i64 n17) ∧
 Br (decide ((IntKind.i64.wrap (((s1.size : Nat) : Int) + n17)) > 2000000)) (
 Calls Tryz.prog 12 #[] w1 fun e w2 =>
 ∃ b20 : Bool, e = .returned (.bool b20) ∧
 runD Tryz.prog ds w2 fun w3 =>
 R (.returned (.bool b20)) w3) (
 Calls Tryz.prog 25 #[.slice l0.a l0.len l0.cap] w1 fun e w4 =>
 ∃ b23_0_0 : Bool, ∃ l23_0_1 : SV, ∃ n23_1 : Int, e = .returned (.tuple #[.agg #[.bool b23_0_0, .slice l23_0_1.a l23_0_1.len l23_0_1.cap], .int .i64 n23_1]) ∧
 alE (.cells #[.bool false, .slice none 0 0] 46) w4 fun r5 w5 =>
 stA Tryz.prog 46 (⟨r5, 0, none⟩ : Addr) #[.bool b23_0_0, .slice l23_0_1.a l23_0_1.len l23_0_1.cap] w5 fun w6 =>
 Calls Tryz.prog 26 #[.slice l0.a l0.len l0.cap] w6 fun e w7 =>
 ∃ b28_0_0 : Bool, ∃ l28_0_1 : SV, ∃ n28_1 : Int, e = .returned (.tuple #[.agg #[.bool b28_0_0, .slice l28_0_1.a l28_0_1.len l28_0_1.cap], .int .i64 n28_1]) ∧
 alE (.cells #[.bool false, .slice none 0 0] 46) w7 fun r7 w8 =>
 stA Tryz.prog 46 (⟨r7, 0, none⟩ : Addr) #[.bool b28_0_0, .slice l28_0_1.a l28_0_1.len l28_0_1.cap] w8 fun w9 =>
 Calls Tryz.prog 27 #[.slice l0.a l0.len l0.cap, .string s1] w9 fun e w10 =>
 ∃ n34_0 : Int, ∃ b34_1 : Bool, e = .returned (.tuple #[.int .i64 n34_0, .bool b34_1]) ∧
 Calls Tryz.prog 28 #[.slice l0.a l0.len l0.cap, .string s1] w10 fun e w11 =>
 ∃ n40_0 : Int, ∃ b40_1 : Bool, e = .returned (.tuple #[.int .i64 n40_0, .bool b40_1]) ∧
 ∃ b43_0 : Bool, w11.cell? ((⟨r5, 0, none⟩ : Addr).add 0) = some (.bool b43_0) ∧
 ∃ l43_1 : SV, w11.cell? ((⟨r5, 0, none⟩ : Addr).add 1) = some (.slice l43_1.a l43_1.len l43_1.cap) ∧
 ∃ b44_0 : Bool, w11.cell? ((⟨r7, 0, none⟩ : Addr).add 0) = some (.bool b44_0) ∧
 ∃ l44_1 : SV, w11.cell? ((⟨r7, 0, none⟩ : Addr).add 1) = some (.slice l44_1.a l44_1.len l44_1.cap) ∧
 Calls Tryz.prog 29 #[.agg #[.bool b43_0, .slice l43_1.a l43_1.len l43_1.cap], .agg #[.bool b44_0, .slice l44_1.a l44_1.len l44_1.cap]] w11 fun e w12 =>
 ∃ b45 : Bool, e = .returned (.bool b45) ∧
 Br b45 (
 Br (n23_1 == n28_1) (
 Br (n34_0 == n40_0) (
 Br (b34_1 == b40_1) (
 Calls Tryz.prog 12 #[] w12 fun e w13 =>
 ∃ b62 : Bool, e = .returned (.bool b62) ∧
 runD Tryz.prog ds w13 fun w14 =>
 R (.returned (.bool b62)) w14) (
 runD Tryz.prog ds w12 fun w15 =>
 R (.returned (.bool false)) w15)) (
 runD Tryz.prog ds w12 fun w16 =>
 R (.returned (.bool false)) w16)) (
 runD Tryz.prog ds w12 fun w17 =>
 R (.returned (.bool false)) w17)) (
 runD Tryz.prog ds w12 fun w18 =>
 R (.returned (.bool false)) w18))
theorem c5_l : flat (bodyOf Tryz.f5) = [c5_0, c5_1, c5_2, c5_3, c5_4, c5_5, c5_6, c5_7, c5_8] := by kernel_rfl
theorem F5_1_ok (R : Rt) (l0 : SV) (s1 : ByteArray) (ds : Ds) (w : World) (ρ : Env) (e0 : ρ 0 = .slice l0.a l0.len l0.cap) (e1 : ρ 1 = .string s1) (h : F5_1 R l0 s1 ds w) :
    TrL Tryz.prog Tryz.f5.ntmps [c5_0, c5_1, c5_2, c5_3, c5_4, c5_5, c5_6, c5_7, c5_8] (F5_q1 R) ρ ds w :=
  TrL_leaf (X := F5_1 R l0 s1 ds w) (setAll_cons e0 (setAll_cons e1 setAll_nil)) (by kernel_rfl) (by kernel_rfl) h
theorem F5_calls (l0 : SV) (s1 : ByteArray) (w : World) (R : Rt) (h : F5_1 R l0 s1 [] w) : Calls Tryz.prog 5 #[.slice l0.a l0.len l0.cap, .string s1] w R :=
  calls_of_L (l := [c5_0, c5_1, c5_2, c5_3, c5_4, c5_5, c5_6, c5_7, c5_8]) Tryz.func5 (by kernel_rfl) (by rw [Tryz.ntmps5]; exact Nat.le_of_ble_eq_true (by kernel_rfl)) c5_l
    (F5_1_ok R l0 s1 [] w _ rfl rfl h)
theorem F5_callsD (l0 : SV) (s1 : ByteArray) (w : World) (R : Rt) (u : FrameMode) (h : F5_1 R l0 s1 [] w) : CallsD Tryz.prog 5 #[.slice l0.a l0.len l0.cap, .string s1] u w fun e u' w' => u' = u ∧ R e w' :=
  callsD_of_L (l := [c5_0, c5_1, c5_2, c5_3, c5_4, c5_5, c5_6, c5_7, c5_8]) Tryz.func5 (by kernel_rfl) (by rw [Tryz.ntmps5]; exact Nat.le_of_ble_eq_true (by kernel_rfl)) (by kernel_rfl) c5_l
    (F5_1_ok R l0 s1 [] w _ rfl rfl h) u

/-! function 25: cabinetry/table.Blank -/
noncomputable def c25_0 : Code := itemAt (flat (bodyOf Tryz.f25)) 0
noncomputable def c25_1 : Code := itemAt (flat (bodyOf Tryz.f25)) 1
noncomputable def c25_2 : Code := itemAt (flat (bodyOf Tryz.f25)) 2
noncomputable def c25_3 : Code := itemAt (flat (bodyOf Tryz.f25)) 3
noncomputable def c25_4 : Code := itemAt (flat (bodyOf Tryz.f25)) 4
noncomputable def c25_5 : Code := itemAt (flat (bodyOf Tryz.f25)) 5
noncomputable def c25_6 : Code := itemAt (flat (bodyOf Tryz.f25)) 6
noncomputable def c25_7 : Code := itemAt (flat (bodyOf Tryz.f25)) 7
noncomputable def c25_8 : Code := itemAt (flat (bodyOf Tryz.f25)) 8
noncomputable def c25_6_0 : Code := itemAt (flat (innerC c25_6)) 0
noncomputable def c25_6_0_0 : Code := itemAt (flat (innerC c25_6_0)) 0
noncomputable def c25_6_0_1 : Code := itemAt (flat (innerC c25_6_0)) 1
noncomputable def c25_6_0_2 : Code := itemAt (flat (innerC c25_6_0)) 2
noncomputable def c25_6_0_3 : Code := itemAt (flat (innerC c25_6_0)) 3
def F25_q1 (R : Rt) : EQ := endQ Tryz.prog Tryz.f25.results.toList R
def F25_1 (R : Rt) (p2 : Option Addr) (p5 : Option Addr) (ds : Ds) (w : World) : Prop :=
 ptrE p5 fun a1 =>
 ∃ b28_0 : Bool, w.cell? (a1.add 0) = some (.bool b28_0) ∧
 ∃ l28_1 : SV, w.cell? (a1.add 1) = some (.slice l28_1.a l28_1.len l28_1.cap) ∧
 ptrE p2 fun a2 =>
 stA Tryz.prog 46 a2 #[.bool b28_0, .slice l28_1.a l28_1.len l28_1.cap] w fun w3 =>
 runD Tryz.prog ds w3 fun w4 =>
 ptrE p2 fun a5 =>
 ∃ bR0_0 : Bool, w4.cell? (a5.add 0) = some (.bool bR0_0) ∧
 ∃ lR0_1 : SV, w4.cell? (a5.add 1) = some (.slice lR0_1.a lR0_1.len lR0_1.cap) ∧
 R (.returned (.tuple #[.agg #[.bool bR0_0, .slice lR0_1.a lR0_1.len lR0_1.cap], .int .i64 0])) w4
def F25_k2 (R : Rt) : EP := (fun ρ ds w => dPtr (ρ 2) fun p2 => dPtr (ρ 5) fun p5 => F25_1 R p2 p5 ds w)
def F25_q3 (R : Rt) : EQ := (thenQ (F25_k2 R) (F25_q1 R))
def F25_q4 (R : Rt) : EQ := (blockQ 0 (F25_q3 R))
def F25_q5 (R : Rt) (J1 : (Int) → World → Prop) : EQ := (thenQ (fun ρ _ w => dInt .i64 (ρ 16) fun n16 => J1 n16 w) (F25_q4 R))
def F25_2 (R : Rt) (J1 : (Int) → World → Prop) (p2 : Option Addr) (p5 : Option Addr) (l14 : SV) (n15 : Int) (n16 : Int) (ds : Ds) (w : World) : Prop :=
 Br (decide (n16 < n15)) (
 ∃ a6 : Addr, l14.a = some a6 ∧ 0 ≤ n16 ∧ n16 < ((l14.len : Nat) : Int) ∧
 ∃ s19_0 : ByteArray, w.cell? ((a6.add (n16.toNat * 4)).add 0) = some (.string s19_0) ∧
 ∃ n19_1 : Int, w.cell? ((a6.add (n16.toNat * 4)).add 1) = some (.int .i64 n19_1) ∧
 ∃ n19_2 : Int, w.cell? ((a6.add (n16.toNat * 4)).add 2) = some (.int .i64 n19_2) ∧
 ∃ b19_3 : Bool, w.cell? ((a6.add (n16.toNat * 4)).add 3) = some (.bool b19_3) ∧
 alE (.cells #[.string (⟨#[]⟩ : ByteArray), .int .i64 0, .int .i64 0, .bool false] 23) w fun r7 w7 =>
 stA Tryz.prog 23 (⟨r7, 0, none⟩ : Addr) #[.string s19_0, .int .i64 n19_1, .int .i64 n19_2, .bool b19_3] w7 fun w8 =>
 dwE w8 fun w9 =>
 ∃ S1 : World → Prop, S1 w9 ∧
 ptrE p5 fun a10 =>
 ∃ l21 : SV, (∀ w', S1 w' → w'.cell? (a10.add 1) = some (.slice l21.a l21.len l21.cap)) ∧
 ∃ s22_0 : ByteArray, (∀ w', S1 w' → w'.cell? ((⟨r7, 0, none⟩ : Addr).add 0) = some (.string s22_0)) ∧
 ∃ n22_1 : Int, (∀ w', S1 w' → w'.cell? ((⟨r7, 0, none⟩ : Addr).add 1) = some (.int .i64 n22_1)) ∧
 ∃ n22_2 : Int, (∀ w', S1 w' → w'.cell? ((⟨r7, 0, none⟩ : Addr).add 2) = some (.int .i64 n22_2)) ∧
 ∃ b22_3 : Bool, (∀ w', S1 w' → w'.cell? ((⟨r7, 0, none⟩ : Addr).add 3) = some (.bool b22_3)) ∧
 Calls Tryz.prog 50 #[.agg #[.string s22_0, .int .i64 n22_1, .int .i64 n22_2, .bool b22_3]] w9 fun e w11 =>
 ∃ n23_0 : Int, ∃ n23_1 : Int, ∃ s23_2 : ByteArray, e = .returned (.agg #[.int .i64 n23_0, .int .i64 n23_1, .string s23_2]) ∧
 S1 w11 ∧
 alE (.cells #[.int .i64 n23_0, .int .i64 n23_1, .string s23_2] 25) w11 fun r24 w12 =>
 S1 w12 ∧
 ∃ l25 : SV, ∃ w13 : World, (Builtin.append_ #[44, 44] 44 #[.slice l21.a l21.len l21.cap, .slice (some ⟨r24, 0, none⟩) 1 1]).run Tryz.prog w12 = .ok (.slice l25.a l25.len l25.cap) w13 ∧
 ptrE p5 fun a14 =>
 st1 (a14.add 1) (.slice l25.a l25.len l25.cap) w13 fun w15 =>
 J1 (IntKind.i64.wrap (n16 + 1)) w15) (
 F25_1 R p2 p5 ds w)
def F25_3 (R : Rt) (p2 : Option Addr) (p5 : Option Addr) (l14 : SV) (n15 : Int) (n16 : Int) (ds : Ds) (w : World) : Prop :=
 loopT (fun (J1 : (Int) → World → Prop) (s : Int) (w : World) => F25_2 R J1 p2 p5 l14 n15 s ds w) n16 w
@[reducible] def F25_4 (R : Rt) (p2 : Option Addr) (p5 : Option Addr) (l14 : SV) (n15 : Int) (n16 : Int) (ds : Ds) (w : World) : Prop := F25_3 R p2 p5 l14 n15 n16 ds w
def F25_k6 (R : Rt) : EP := (fun ρ ds w => dPtr (ρ 2) fun p2 => dPtr (ρ 5) fun p5 => dSl (ρ 14) fun l14 => dInt .i64 (ρ 15) fun n15 => dInt .i64 (ρ 16) fun n16 => F25_4 R p2 p5 l14 n15 n16 ds w)
def F25_5 (R : Rt) (l0 : SV) (ds : Ds) (w : World) : Prop :=
 alE (.cells #[.bool false, .slice none 0 0] 46) w fun r2 w16 =>
 Calls Tryz.prog 36 #[.slice l0.a l0.len l0.cap] w16 fun e w17 =>
 ∃ n9 : Int, e = .returned (.int .i64 n9) ∧
 Br (n9 != 0) (
 stA Tryz.prog 46 (⟨r2, 0, none⟩ : Addr) #[.bool false, .slice none 0 0] w17 fun w18 =>
 runD Tryz.prog ds w18 fun w19 =>
 ∃ bR0_0 : Bool, w19.cell? ((⟨r2, 0, none⟩ : Addr).add 0) = some (.bool bR0_0) ∧
 ∃ lR0_1 : SV, w19.cell? ((⟨r2, 0, none⟩ : Addr).add 1) = some (.slice lR0_1.a lR0_1.len lR0_1.cap) ∧
 R (.returned (.tuple #[.agg #[.bool bR0_0, .slice lR0_1.a lR0_1.len lR0_1.cap], .int .i64 n9])) w19) (
 alE (.cells #[.bool false, .slice none 0 0] 46) w17 fun r5 w20 =>
 F25_4 R (some (⟨r2, 0, none⟩ : Addr)) (some (⟨r5, 0, none⟩ : Addr)) l0 ((l0.len : Nat) : Int) 0 ds w20)
theorem c25_l : flat (bodyOf Tryz.f25) = [c25_0, c25_1, c25_2, c25_3, c25_4, c25_5, c25_6, c25_7, c25_8] := by kernel_rfl
theorem c25_6_l : flat (innerC c25_6) = [c25_6_0] := by kernel_rfl
theorem c25_6_0_l : flat (innerC c25_6_0) = [c25_6_0_0, c25_6_0_1, c25_6_0_2, c25_6_0_3] := by kernel_rfl
theorem F25_1_ok (R : Rt) (p2 : Option Addr) (p5 : Option Addr) (ds : Ds) (w : World) (ρ : Env) (e2 : ρ 2 = .pointer p2) (e5 : ρ 5 = .pointer p5) (h : F25_1 R p2 p5 ds w) :
    TrL Tryz.prog Tryz.f25.ntmps [c25_7, c25_8] (F25_q1 R) ρ ds w :=
  TrL_leaf (X := F25_1 R p2 p5 ds w) (setAll_cons e2 (setAll_cons e5 setAll_nil)) (by kernel_rfl) (by kernel_rfl) h
theorem F25_2_ok (R : Rt) (J1 : (Int) → World → Prop) (p2 : Option Addr) (p5 : Option Addr) (l14 : SV) (n15 : Int) (n16 : Int) (ds : Ds) (w : World) (ρ : Env) (e2 : ρ 2 = .pointer p2) (e5 : ρ 5 = .pointer p5) (e14 : ρ 14 = .slice l14.a l14.len l14.cap) (e15 : ρ 15 = .int .i64 n15) (e16 : ρ 16 = .int .i64 n16) (h : F25_2 R J1 p2 p5 l14 n15 n16 ds w) :
    TrL Tryz.prog Tryz.f25.ntmps [c25_6_0_0, c25_6_0_1, c25_6_0_2, c25_6_0_3] (F25_q5 R J1) ρ ds w :=
  TrL_leaf (X := F25_2 R J1 p2 p5 l14 n15 n16 ds w) (setAll_cons e2 (setAll_cons e5 (setAll_cons e14 (setAll_cons e15 (setAll_cons e16 setAll_nil))))) (by kernel_rfl) (by kernel_rfl) h
theorem F25_3_ok (R : Rt) (p2 : Option Addr) (p5 : Option Addr) (l14 : SV) (n15 : Int) (n16 : Int) (ds : Ds) (w : World) (ρ : Env) (e2 : ρ 2 = .pointer p2) (e5 : ρ 5 = .pointer p5) (e14 : ρ 14 = .slice l14.a l14.len l14.cap) (e15 : ρ 15 = .int .i64 n15) (e16 : ρ 16 = .int .i64 n16) (h : F25_3 R p2 p5 l14 n15 n16 ds w) :
    TrL Tryz.prog Tryz.f25.ntmps [c25_6_0] (F25_q4 R) ρ ds w :=
  TrL_one (Tr_loop' (c := innerC c25_6_0) (σ := Int) (enc := (fun (s : Int) (ρ : Env) => ρ 16 = .int .i64 s)) (D := (fun ρ K => dInt .i64 (ρ 16) fun n16 => K n16)) (F := (fun (J1 : (Int) → World → Prop) (s : Int) (w : World) => F25_2 R J1 p2 p5 l14 n15 s ds w)) (s0 := n16) (by kernel_rfl) c25_6_0_l e16 (by kernel_rfl) (fun ρ K hD => by obtain ⟨n16, e16, hD⟩ := dInt_elim hD; exact ⟨n16, e16, hD⟩)
      (fun J1 s ρ' w' he ha hF => by
      have e16' := he
      exact F25_2_ok R J1 p2 p5 l14 n15 s ds w' ρ' ((ha 2 (by kernel_rfl)).trans e2) ((ha 5 (by kernel_rfl)).trans e5) ((ha 14 (by kernel_rfl)).trans e14) ((ha 15 (by kernel_rfl)).trans e15) e16' hF) h)
theorem F25_4_ok (R : Rt) (p2 : Option Addr) (p5 : Option Addr) (l14 : SV) (n15 : Int) (n16 : Int) (ds : Ds) (w : World) (ρ : Env) (e2 : ρ 2 = .pointer p2) (e5 : ρ 5 = .pointer p5) (e14 : ρ 14 = .slice l14.a l14.len l14.cap) (e15 : ρ 15 = .int .i64 n15) (e16 : ρ 16 = .int .i64 n16) (h : F25_4 R p2 p5 l14 n15 n16 ds w) :
    TrL Tryz.prog Tryz.f25.ntmps [c25_6, c25_7, c25_8] (F25_q1 R) ρ ds w :=
  TrL_head (K := (F25_k2 R)) (Tr_block' (c := innerC c25_6) (by kernel_rfl) c25_6_l (F25_3_ok R p2 p5 l14 n15 n16 ds w ρ e2 e5 e14 e15 e16 h))
    (fun ρ' ds' w' hD => by
      obtain ⟨p2, e2, hD⟩ := dPtr_elim hD; obtain ⟨p5, e5, hD⟩ := dPtr_elim hD; exact F25_1_ok R p2 p5 ds' w' ρ' e2 e5 hD)
theorem F25_5_ok (R : Rt) (l0 : SV) (ds : Ds) (w : World) (ρ : Env) (e0 : ρ 0 = .slice l0.a l0.len l0.cap) (h : F25_5 R l0 ds w) :
    TrL Tryz.prog Tryz.f25.ntmps [c25_0, c25_1, c25_2, c25_3, c25_4, c25_5, c25_6, c25_7, c25_8] (F25_q1 R) ρ ds w :=
  TrL_piece (pre := [c25_0, c25_1, c25_2, c25_3, c25_4, c25_5]) (K := (F25_k6 R)) (X := F25_5 R l0 ds w) (setAll_cons e0 setAll_nil) (by kernel_rfl) (by kernel_rfl)
    (fun ρ' ds' w' hD => by
      obtain ⟨p2, e2, hD⟩ := dPtr_elim hD; obtain ⟨p5, e5, hD⟩ := dPtr_elim hD; obtain ⟨l14, e14, hD⟩ := dSl_elim hD; obtain ⟨n15, e15, hD⟩ := dInt_elim hD; obtain ⟨n16, e16, hD⟩ := dInt_elim hD; exact F25_4_ok R p2 p5 l14 n15 n16 ds' w' ρ' e2 e5 e14 e15 e16 hD) h
theorem F25_calls (l0 : SV) (w : World) (R : Rt) (h : F25_5 R l0 [] w) : Calls Tryz.prog 25 #[.slice l0.a l0.len l0.cap] w R :=
  calls_of_L (l := [c25_0, c25_1, c25_2, c25_3, c25_4, c25_5, c25_6, c25_7, c25_8]) Tryz.func25 (by kernel_rfl) (by rw [Tryz.ntmps25]; exact Nat.le_of_ble_eq_true (by kernel_rfl)) c25_l
    (F25_5_ok R l0 [] w _ rfl h)
theorem F25_callsD (l0 : SV) (w : World) (R : Rt) (u : FrameMode) (h : F25_5 R l0 [] w) : CallsD Tryz.prog 25 #[.slice l0.a l0.len l0.cap] u w fun e u' w' => u' = u ∧ R e w' :=
  callsD_of_L (l := [c25_0, c25_1, c25_2, c25_3, c25_4, c25_5, c25_6, c25_7, c25_8]) Tryz.func25 (by kernel_rfl) (by rw [Tryz.ntmps25]; exact Nat.le_of_ble_eq_true (by kernel_rfl)) (by kernel_rfl) c25_l
    (F25_5_ok R l0 [] w _ rfl h) u

/-! function 26: cabinetry/cabinetryref03.Blank -/
noncomputable def c26_0 : Code := itemAt (flat (bodyOf Tryz.f26)) 0
noncomputable def c26_1 : Code := itemAt (flat (bodyOf Tryz.f26)) 1
noncomputable def c26_2 : Code := itemAt (flat (bodyOf Tryz.f26)) 2
noncomputable def c26_3 : Code := itemAt (flat (bodyOf Tryz.f26)) 3
noncomputable def c26_4 : Code := itemAt (flat (bodyOf Tryz.f26)) 4
noncomputable def c26_5 : Code := itemAt (flat (bodyOf Tryz.f26)) 5
def F26_q1 (R : Rt) : EQ := endQ Tryz.prog Tryz.f26.results.toList R
def F26_1 (R : Rt) (l0 : SV) (ds : Ds) (w : World) : Prop :=
 alE (.cells #[.bool false, .slice none 0 0] 46) w fun r2 w1 =>
 Calls Tryz.prog 37 #[.slice l0.a l0.len l0.cap] w1 fun e w2 =>
 ∃ n6 : Int, e = .returned (.int .i64 n6) ∧
 Br (n6 != 0) (
 stA Tryz.prog 46 (⟨r2, 0, none⟩ : Addr) #[.bool false, .slice none 0 0] w2 fun w3 =>
 runD Tryz.prog ds w3 fun w4 =>
 ∃ bR0_0 : Bool, w4.cell? ((⟨r2, 0, none⟩ : Addr).add 0) = some (.bool bR0_0) ∧
 ∃ lR0_1 : SV, w4.cell? ((⟨r2, 0, none⟩ : Addr).add 1) = some (.slice lR0_1.a lR0_1.len lR0_1.cap) ∧
 R (.returned (.tuple #[.agg #[.bool bR0_0, .slice lR0_1.a lR0_1.len lR0_1.cap], .int .i64 n6])) w4) (
 Calls Tryz.prog 65 #[.slice l0.a l0.len l0.cap] w2 fun e w5 =>
 ∃ b12_0 : Bool, ∃ l12_1 : SV, e = .returned (.agg #[.bool b12_0, .slice l12_1.a l12_1.len l12_1.cap]) ∧
 stA Tryz.prog 46 (⟨r2, 0, none⟩ : Addr) #[.bool b12_0, .slice l12_1.a l12_1.len l12_1.cap] w5 fun w6 =>
 runD Tryz.prog ds w6 fun w7 =>
 ∃ bR0_0 : Bool, w7.cell? ((⟨r2, 0, none⟩ : Addr).add 0) = some (.bool bR0_0) ∧
 ∃ lR0_1 : SV, w7.cell? ((⟨r2, 0, none⟩ : Addr).add 1) = some (.slice lR0_1.a lR0_1.len lR0_1.cap) ∧
 R (.returned (.tuple #[.agg #[.bool bR0_0, .slice lR0_1.a lR0_1.len lR0_1.cap], .int .i64 0])) w7)
theorem c26_l : flat (bodyOf Tryz.f26) = [c26_0, c26_1, c26_2, c26_3, c26_4, c26_5] := by kernel_rfl
theorem F26_1_ok (R : Rt) (l0 : SV) (ds : Ds) (w : World) (ρ : Env) (e0 : ρ 0 = .slice l0.a l0.len l0.cap) (h : F26_1 R l0 ds w) :
    TrL Tryz.prog Tryz.f26.ntmps [c26_0, c26_1, c26_2, c26_3, c26_4, c26_5] (F26_q1 R) ρ ds w :=
  TrL_leaf (X := F26_1 R l0 ds w) (setAll_cons e0 setAll_nil) (by kernel_rfl) (by kernel_rfl) h
theorem F26_calls (l0 : SV) (w : World) (R : Rt) (h : F26_1 R l0 [] w) : Calls Tryz.prog 26 #[.slice l0.a l0.len l0.cap] w R :=
  calls_of_L (l := [c26_0, c26_1, c26_2, c26_3, c26_4, c26_5]) Tryz.func26 (by kernel_rfl) (by rw [Tryz.ntmps26]; exact Nat.le_of_ble_eq_true (by kernel_rfl)) c26_l
    (F26_1_ok R l0 [] w _ rfl h)
theorem F26_callsD (l0 : SV) (w : World) (R : Rt) (u : FrameMode) (h : F26_1 R l0 [] w) : CallsD Tryz.prog 26 #[.slice l0.a l0.len l0.cap] u w fun e u' w' => u' = u ∧ R e w' :=
  callsD_of_L (l := [c26_0, c26_1, c26_2, c26_3, c26_4, c26_5]) Tryz.func26 (by kernel_rfl) (by rw [Tryz.ntmps26]; exact Nat.le_of_ble_eq_true (by kernel_rfl)) (by kernel_rfl) c26_l
    (F26_1_ok R l0 [] w _ rfl h) u

/-! function 65: cabinetry/cabinetryref03.Blanks -/
noncomputable def c65_0 : Code := itemAt (flat (bodyOf Tryz.f65)) 0
noncomputable def c65_1 : Code := itemAt (flat (bodyOf Tryz.f65)) 1
noncomputable def c65_2 : Code := itemAt (flat (bodyOf Tryz.f65)) 2
noncomputable def c65_3 : Code := itemAt (flat (bodyOf Tryz.f65)) 3
noncomputable def c65_4 : Code := itemAt (flat (bodyOf Tryz.f65)) 4
noncomputable def c65_5 : Code := itemAt (flat (bodyOf Tryz.f65)) 5
noncomputable def c65_3_0 : Code := itemAt (flat (innerC c65_3)) 0
noncomputable def c65_3_0_0 : Code := itemAt (flat (innerC c65_3_0)) 0
noncomputable def c65_3_0_1 : Code := itemAt (flat (innerC c65_3_0)) 1
noncomputable def c65_3_0_2 : Code := itemAt (flat (innerC c65_3_0)) 2
noncomputable def c65_3_0_3 : Code := itemAt (flat (innerC c65_3_0)) 3
def F65_q1 (R : Rt) : EQ := endQ Tryz.prog Tryz.f65.results.toList R
def F65_1 (R : Rt) (p2 : Option Addr) (p3 : Option Addr) (ds : Ds) (w : World) : Prop :=
 ptrE p3 fun a1 =>
 ∃ b21_0 : Bool, w.cell? (a1.add 0) = some (.bool b21_0) ∧
 ∃ l21_1 : SV, w.cell? (a1.add 1) = some (.slice l21_1.a l21_1.len l21_1.cap) ∧
 ptrE p2 fun a2 =>
 stA Tryz.prog 46 a2 #[.bool b21_0, .slice l21_1.a l21_1.len l21_1.cap] w fun w3 =>
 runD Tryz.prog ds w3 fun w4 =>
 ptrE p2 fun a5 =>
 ∃ bR0_0 : Bool, w4.cell? (a5.add 0) = some (.bool bR0_0) ∧
 ∃ lR0_1 : SV, w4.cell? (a5.add 1) = some (.slice lR0_1.a lR0_1.len lR0_1.cap) ∧
 R (.returned (.agg #[.bool bR0_0, .slice lR0_1.a lR0_1.len lR0_1.cap])) w4
def F65_k2 (R : Rt) : EP := (fun ρ ds w => dPtr (ρ 2) fun p2 => dPtr (ρ 3) fun p3 => F65_1 R p2 p3 ds w)
def F65_q3 (R : Rt) : EQ := (thenQ (F65_k2 R) (F65_q1 R))
def F65_q4 (R : Rt) : EQ := (blockQ 0 (F65_q3 R))
def F65_q5 (R : Rt) (J1 : (Int) → World → Prop) : EQ := (thenQ (fun ρ _ w => dInt .i64 (ρ 4) fun n4 => J1 n4 w) (F65_q4 R))
def F65_2 (R : Rt) (J1 : (Int) → World → Prop) (l0 : SV) (p2 : Option Addr) (p3 : Option Addr) (n4 : Int) (ds : Ds) (w : World) : Prop :=
 Br (decide (n4 < ((l0.len : Nat) : Int))) (
 dwE w fun w6 =>
 ∃ S1 : World → Prop, S1 w6 ∧
 ptrE p3 fun a7 =>
 ∃ l12 : SV, (∀ w', S1 w' → w'.cell? (a7.add 1) = some (.slice l12.a l12.len l12.cap)) ∧
 ∃ a8 : Addr, l0.a = some a8 ∧ 0 ≤ n4 ∧ n4 < ((l0.len : Nat) : Int) ∧
 ∃ s16_0 : ByteArray, (∀ w', S1 w' → w'.cell? ((a8.add (n4.toNat * 4)).add 0) = some (.string s16_0)) ∧
 ∃ n16_1 : Int, (∀ w', S1 w' → w'.cell? ((a8.add (n4.toNat * 4)).add 1) = some (.int .i64 n16_1)) ∧
 ∃ n16_2 : Int, (∀ w', S1 w' → w'.cell? ((a8.add (n4.toNat * 4)).add 2) = some (.int .i64 n16_2)) ∧
 ∃ b16_3 : Bool, (∀ w', S1 w' → w'.cell? ((a8.add (n4.toNat * 4)).add 3) = some (.bool b16_3)) ∧
 Calls Tryz.prog 87 #[.agg #[.string s16_0, .int .i64 n16_1, .int .i64 n16_2, .bool b16_3]] w6 fun e w9 =>
 ∃ n17_0 : Int, ∃ n17_1 : Int, ∃ s17_2 : ByteArray, e = .returned (.agg #[.int .i64 n17_0, .int .i64 n17_1, .string s17_2]) ∧
 S1 w9 ∧
 alE (.cells #[.int .i64 n17_0, .int .i64 n17_1, .string s17_2] 25) w9 fun r18 w10 =>
 S1 w10 ∧
 ∃ l19 : SV, ∃ w11 : World, (Builtin.append_ #[44, 44] 44 #[.slice l12.a l12.len l12.cap, .slice (some ⟨r18, 0, none⟩) 1 1]).run Tryz.prog w10 = .ok (.slice l19.a l19.len l19.cap) w11 ∧
 ptrE p3 fun a12 =>
 st1 (a12.add 1) (.slice l19.a l19.len l19.cap) w11 fun w13 =>
 J1 (IntKind.i64.wrap (n4 + 1)) w13) (
 F65_1 R p2 p3 ds w)
def F65_3 (R : Rt) (l0 : SV) (p2 : Option Addr) (p3 : Option Addr) (n4 : Int) (ds : Ds) (w : World) : Prop :=
 loopT (fun (J1 : (Int) → World → Prop) (s : Int) (w : World) => F65_2 R J1 l0 p2 p3 s ds w) n4 w
@[reducible] def F65_4 (R : Rt) (l0 : SV) (p2 : Option Addr) (p3 : Option Addr) (n4 : Int) (ds : Ds) (w : World) : Prop := F65_3 R l0 p2 p3 n4 ds w
def F65_k6 (R : Rt) : EP := (fun ρ ds w => dSl (ρ 0) fun l0 => dPtr (ρ 2) fun p2 => dPtr (ρ 3) fun p3 => dInt .i64 (ρ 4) fun n4 => F65_4 R l0 p2 p3 n4 ds w)
def F65_5 (R : Rt) (l0 : SV) (ds : Ds) (w : World) : Prop :=
 alE (.cells #[.bool false, .slice none 0 0] 46) w fun r2 w14 =>
 alE (.cells #[.bool false, .slice none 0 0] 46) w14 fun r3 w15 =>
 F65_4 R l0 (some (⟨r2, 0, none⟩ : Addr)) (some (⟨r3, 0, none⟩ : Addr)) 0 ds w15
theorem c65_l : flat (bodyOf Tryz.f65) = [c65_0, c65_1, c65_2, c65_3, c65_4, c65_5] := by kernel_rfl
theorem c65_3_l : flat (innerC c65_3) = [c65_3_0] := by kernel_rfl
theorem c65_3_0_l : flat (innerC c65_3_0) = [c65_3_0_0, c65_3_0_1, c65_3_0_2, c65_3_0_3] := by kernel_rfl
theorem F65_1_ok (R : Rt) (p2 : Option Addr) (p3 : Option Addr) (ds : Ds) (w : World) (ρ : Env) (e2 : ρ 2 = .pointer p2) (e3 : ρ 3 = .pointer p3) (h : F65_1 R p2 p3 ds w) :
    TrL Tryz.prog Tryz.f65.ntmps [c65_4, c65_5] (F65_q1 R) ρ ds w :=
  TrL_leaf (X := F65_1 R p2 p3 ds w) (setAll_cons e2 (setAll_cons e3 setAll_nil)) (by kernel_rfl) (by kernel_rfl) h
theorem F65_2_ok (R : Rt) (J1 : (Int) → World → Prop) (l0 : SV) (p2 : Option Addr) (p3 : Option Addr) (n4 : Int) (ds : Ds) (w : World) (ρ : Env) (e0 : ρ 0 = .slice l0.a l0.len l0.cap) (e2 : ρ 2 = .pointer p2) (e3 : ρ 3 = .pointer p3) (e4 : ρ 4 = .int .i64 n4) (h : F65_2 R J1 l0 p2 p3 n4 ds w) :
    TrL Tryz.prog Tryz.f65.ntmps [c65_3_0_0, c65_3_0_1, c65_3_0_2, c65_3_0_3] (F65_q5 R J1) ρ ds w :=
  TrL_leaf (X := F65_2 R J1 l0 p2 p3 n4 ds w) (setAll_cons e0 (setAll_cons e2 (setAll_cons e3 (setAll_cons e4 setAll_nil)))) (by kernel_rfl) (by kernel_rfl) h
theorem F65_3_ok (R : Rt) (l0 : SV) (p2 : Option Addr) (p3 : Option Addr) (n4 : Int) (ds : Ds) (w : World) (ρ : Env) (e0 : ρ 0 = .slice l0.a l0.len l0.cap) (e2 : ρ 2 = .pointer p2) (e3 : ρ 3 = .pointer p3) (e4 : ρ 4 = .int .i64 n4) (h : F65_3 R l0 p2 p3 n4 ds w) :
    TrL Tryz.prog Tryz.f65.ntmps [c65_3_0] (F65_q4 R) ρ ds w :=
  TrL_one (Tr_loop' (c := innerC c65_3_0) (σ := Int) (enc := (fun (s : Int) (ρ : Env) => ρ 4 = .int .i64 s)) (D := (fun ρ K => dInt .i64 (ρ 4) fun n4 => K n4)) (F := (fun (J1 : (Int) → World → Prop) (s : Int) (w : World) => F65_2 R J1 l0 p2 p3 s ds w)) (s0 := n4) (by kernel_rfl) c65_3_0_l e4 (by kernel_rfl) (fun ρ K hD => by obtain ⟨n4, e4, hD⟩ := dInt_elim hD; exact ⟨n4, e4, hD⟩)
      (fun J1 s ρ' w' he ha hF => by
      have e4' := he
      exact F65_2_ok R J1 l0 p2 p3 s ds w' ρ' ((ha 0 (by kernel_rfl)).trans e0) ((ha 2 (by kernel_rfl)).trans e2) ((ha 3 (by kernel_rfl)).trans e3) e4' hF) h)
theorem F65_4_ok (R : Rt) (l0 : SV) (p2 : Option Addr) (p3 : Option Addr) (n4 : Int) (ds : Ds) (w : World) (ρ : Env) (e0 : ρ 0 = .slice l0.a l0.len l0.cap) (e2 : ρ 2 = .pointer p2) (e3 : ρ 3 = .pointer p3) (e4 : ρ 4 = .int .i64 n4) (h : F65_4 R l0 p2 p3 n4 ds w) :
    TrL Tryz.prog Tryz.f65.ntmps [c65_3, c65_4, c65_5] (F65_q1 R) ρ ds w :=
  TrL_head (K := (F65_k2 R)) (Tr_block' (c := innerC c65_3) (by kernel_rfl) c65_3_l (F65_3_ok R l0 p2 p3 n4 ds w ρ e0 e2 e3 e4 h))
    (fun ρ' ds' w' hD => by
      obtain ⟨p2, e2, hD⟩ := dPtr_elim hD; obtain ⟨p3, e3, hD⟩ := dPtr_elim hD; exact F65_1_ok R p2 p3 ds' w' ρ' e2 e3 hD)
theorem F65_5_ok (R : Rt) (l0 : SV) (ds : Ds) (w : World) (ρ : Env) (e0 : ρ 0 = .slice l0.a l0.len l0.cap) (h : F65_5 R l0 ds w) :
    TrL Tryz.prog Tryz.f65.ntmps [c65_0, c65_1, c65_2, c65_3, c65_4, c65_5] (F65_q1 R) ρ ds w :=
  TrL_piece (pre := [c65_0, c65_1, c65_2]) (K := (F65_k6 R)) (X := F65_5 R l0 ds w) (setAll_cons e0 setAll_nil) (by kernel_rfl) (by kernel_rfl)
    (fun ρ' ds' w' hD => by
      obtain ⟨l0, e0, hD⟩ := dSl_elim hD; obtain ⟨p2, e2, hD⟩ := dPtr_elim hD; obtain ⟨p3, e3, hD⟩ := dPtr_elim hD; obtain ⟨n4, e4, hD⟩ := dInt_elim hD; exact F65_4_ok R l0 p2 p3 n4 ds' w' ρ' e0 e2 e3 e4 hD) h
theorem F65_calls (l0 : SV) (w : World) (R : Rt) (h : F65_5 R l0 [] w) : Calls Tryz.prog 65 #[.slice l0.a l0.len l0.cap] w R :=
  calls_of_L (l := [c65_0, c65_1, c65_2, c65_3, c65_4, c65_5]) Tryz.func65 (by kernel_rfl) (by rw [Tryz.ntmps65]; exact Nat.le_of_ble_eq_true (by kernel_rfl)) c65_l
    (F65_5_ok R l0 [] w _ rfl h)
theorem F65_callsD (l0 : SV) (w : World) (R : Rt) (u : FrameMode) (h : F65_5 R l0 [] w) : CallsD Tryz.prog 65 #[.slice l0.a l0.len l0.cap] u w fun e u' w' => u' = u ∧ R e w' :=
  callsD_of_L (l := [c65_0, c65_1, c65_2, c65_3, c65_4, c65_5]) Tryz.func65 (by kernel_rfl) (by rw [Tryz.ntmps65]; exact Nat.le_of_ble_eq_true (by kernel_rfl)) (by kernel_rfl) c65_l
    (F65_5_ok R l0 [] w _ rfl h) u

/-! function 29: cabinetry/cabinetryref03.SameRecord -/
noncomputable def c29_0 : Code := itemAt (flat (bodyOf Tryz.f29)) 0
noncomputable def c29_1 : Code := itemAt (flat (bodyOf Tryz.f29)) 1
noncomputable def c29_2 : Code := itemAt (flat (bodyOf Tryz.f29)) 2
def F29_q1 (R : Rt) : EQ := endQ Tryz.prog Tryz.f29.results.toList R
def F29_1 (R : Rt) (b0_0 : Bool) (l0_1 : SV) (b1_0 : Bool) (l1_1 : SV) (ds : Ds) (w : World) : Prop :=
 alE (.cells #[.bool b0_0, .slice l0_1.a l0_1.len l0_1.cap] 46) w fun r2 w1 =>
 alE (.cells #[.bool b1_0, .slice l1_1.a l1_1.len l1_1.cap] 46) w1 fun r3 w2 =>
 ∃ b6 : Bool, w2.cell? (⟨r2, 0, none⟩ : Addr) = some (.bool b6) ∧
 ∃ b8 : Bool, w2.cell? (⟨r3, 0, none⟩ : Addr) = some (.bool b8) ∧
 Br (b6 == b8) (
 ∃ l12 : SV, w2.cell? ((⟨r2, 0, none⟩ : Addr).add 1) = some (.slice l12.a l12.len l12.cap) ∧
 ∃ l14 : SV, w2.cell? ((⟨r3, 0, none⟩ : Addr).add 1) = some (.slice l14.a l14.len l14.cap) ∧
 Calls Tryz.prog 68 #[.slice l12.a l12.len l12.cap, .slice l14.a l14.len l14.cap] w2 fun e w3 =>
 ∃ b15 : Bool, e = .returned (.bool b15) ∧
 runD Tryz.prog ds w3 fun w4 =>
 R (.returned (.bool b15)) w4) (
 runD Tryz.prog ds w2 fun w5 =>
 R (.returned (.bool false)) w5)
theorem c29_l : flat (bodyOf Tryz.f29) = [c29_0, c29_1, c29_2] := by kernel_rfl
theorem F29_1_ok (R : Rt) (b0_0 : Bool) (l0_1 : SV) (b1_0 : Bool) (l1_1 : SV) (ds : Ds) (w : World) (ρ : Env) (e0 : ρ 0 = .agg #[.bool b0_0, .slice l0_1.a l0_1.len l0_1.cap]) (e1 : ρ 1 = .agg #[.bool b1_0, .slice l1_1.a l1_1.len l1_1.cap]) (h : F29_1 R b0_0 l0_1 b1_0 l1_1 ds w) :
    TrL Tryz.prog Tryz.f29.ntmps [c29_0, c29_1, c29_2] (F29_q1 R) ρ ds w :=
  TrL_leaf (X := F29_1 R b0_0 l0_1 b1_0 l1_1 ds w) (setAll_cons e0 (setAll_cons e1 setAll_nil)) (by kernel_rfl) (by kernel_rfl) h
theorem F29_calls (b0_0 : Bool) (l0_1 : SV) (b1_0 : Bool) (l1_1 : SV) (w : World) (R : Rt) (h : F29_1 R b0_0 l0_1 b1_0 l1_1 [] w) : Calls Tryz.prog 29 #[.agg #[.bool b0_0, .slice l0_1.a l0_1.len l0_1.cap], .agg #[.bool b1_0, .slice l1_1.a l1_1.len l1_1.cap]] w R :=
  calls_of_L (l := [c29_0, c29_1, c29_2]) Tryz.func29 (by kernel_rfl) (by rw [Tryz.ntmps29]; exact Nat.le_of_ble_eq_true (by kernel_rfl)) c29_l
    (F29_1_ok R b0_0 l0_1 b1_0 l1_1 [] w _ rfl rfl h)
theorem F29_callsD (b0_0 : Bool) (l0_1 : SV) (b1_0 : Bool) (l1_1 : SV) (w : World) (R : Rt) (u : FrameMode) (h : F29_1 R b0_0 l0_1 b1_0 l1_1 [] w) : CallsD Tryz.prog 29 #[.agg #[.bool b0_0, .slice l0_1.a l0_1.len l0_1.cap], .agg #[.bool b1_0, .slice l1_1.a l1_1.len l1_1.cap]] u w fun e u' w' => u' = u ∧ R e w' :=
  callsD_of_L (l := [c29_0, c29_1, c29_2]) Tryz.func29 (by kernel_rfl) (by rw [Tryz.ntmps29]; exact Nat.le_of_ble_eq_true (by kernel_rfl)) (by kernel_rfl) c29_l
    (F29_1_ok R b0_0 l0_1 b1_0 l1_1 [] w _ rfl rfl h) u

/-! function 68: cabinetry/cabinetryref01.SameValues -/
noncomputable def c68_0 : Code := itemAt (flat (bodyOf Tryz.f68)) 0
noncomputable def c68_1 : Code := itemAt (flat (bodyOf Tryz.f68)) 1
noncomputable def c68_2 : Code := itemAt (flat (bodyOf Tryz.f68)) 2
noncomputable def c68_3 : Code := itemAt (flat (bodyOf Tryz.f68)) 3
noncomputable def c68_4 : Code := itemAt (flat (bodyOf Tryz.f68)) 4
noncomputable def c68_5 : Code := itemAt (flat (bodyOf Tryz.f68)) 5
noncomputable def c68_6 : Code := itemAt (flat (bodyOf Tryz.f68)) 6
noncomputable def c68_4_0 : Code := itemAt (flat (innerC c68_4)) 0
noncomputable def c68_4_0_0 : Code := itemAt (flat (innerC c68_4_0)) 0
noncomputable def c68_4_0_1 : Code := itemAt (flat (innerC c68_4_0)) 1
noncomputable def c68_4_0_2 : Code := itemAt (flat (innerC c68_4_0)) 2
noncomputable def c68_4_0_3 : Code := itemAt (flat (innerC c68_4_0)) 3
def F68_q1 (R : Rt) : EQ := endQ Tryz.prog Tryz.f68.results.toList R
def F68_1 (R : Rt) (ds : Ds) (w : World) : Prop :=
 runD Tryz.prog ds w fun w1 =>
 R (.returned (.bool true)) w1
def F68_k2 (R : Rt) : EP := (fun ρ ds w => F68_1 R ds w)
def F68_q3 (R : Rt) : EQ := (thenQ (F68_k2 R) (F68_q1 R))
def F68_q4 (R : Rt) : EQ := (blockQ 0 (F68_q3 R))
def F68_q5 (R : Rt) (J1 : (Int) → World → Prop) : EQ := (thenQ (fun ρ _ w => dInt .i64 (ρ 5) fun n5 => J1 n5 w) (F68_q4 R))
def F68_2 (R : Rt) (J1 : (Int) → World → Prop) (l0 : SV) (l1 : SV) (n5 : Int) (ds : Ds) (w : World) : Prop :=
 Br (decide (n5 < ((l0.len : Nat) : Int))) (
 dwE w fun w2 =>
 ∃ a3 : Addr, l0.a = some a3 ∧ 0 ≤ n5 ∧ n5 < ((l0.len : Nat) : Int) ∧
 ∃ n20_0 : Int, w2.cell? ((a3.add (n5.toNat * 3)).add 0) = some (.int .i64 n20_0) ∧
 ∃ n20_1 : Int, w2.cell? ((a3.add (n5.toNat * 3)).add 1) = some (.int .i64 n20_1) ∧
 ∃ s20_2 : ByteArray, w2.cell? ((a3.add (n5.toNat * 3)).add 2) = some (.string s20_2) ∧
 ∃ a4 : Addr, l1.a = some a4 ∧ 0 ≤ n5 ∧ n5 < ((l1.len : Nat) : Int) ∧
 ∃ n24_0 : Int, w2.cell? ((a4.add (n5.toNat * 3)).add 0) = some (.int .i64 n24_0) ∧
 ∃ n24_1 : Int, w2.cell? ((a4.add (n5.toNat * 3)).add 1) = some (.int .i64 n24_1) ∧
 ∃ s24_2 : ByteArray, w2.cell? ((a4.add (n5.toNat * 3)).add 2) = some (.string s24_2) ∧
 Calls Tryz.prog 15 #[.agg #[.int .i64 n20_0, .int .i64 n20_1, .string s20_2], .agg #[.int .i64 n24_0, .int .i64 n24_1, .string s24_2]] w2 fun e w5 =>
 ∃ b25 : Bool, e = .returned (.bool b25) ∧
 Br (!b25) (
 runD Tryz.prog ds w5 fun w6 =>
 R (.returned (.bool false)) w6) (
 J1 (IntKind.i64.wrap (n5 + 1)) w5)) (
 F68_1 R ds w)
def F68_3 (R : Rt) (l0 : SV) (l1 : SV) (n5 : Int) (ds : Ds) (w : World) : Prop :=
 loopT (fun (J1 : (Int) → World → Prop) (s : Int) (w : World) => F68_2 R J1 l0 l1 s ds w) n5 w
@[reducible] def F68_4 (R : Rt) (l0 : SV) (l1 : SV) (n5 : Int) (ds : Ds) (w : World) : Prop := F68_3 R l0 l1 n5 ds w
def F68_k6 (R : Rt) : EP := (fun ρ ds w => dSl (ρ 0) fun l0 => dSl (ρ 1) fun l1 => dInt .i64 (ρ 5) fun n5 => F68_4 R l0 l1 n5 ds w)
def F68_5 (R : Rt) (l0 : SV) (l1 : SV) (ds : Ds) (w : World) : Prop :=
 Br (((l0.len : Nat) : Int) != ((l1.len : Nat) : Int)) (
 runD Tryz.prog ds w fun w7 =>
 R (.returned (.bool false)) w7) (
 F68_4 R l0 l1 0 ds w)
theorem c68_l : flat (bodyOf Tryz.f68) = [c68_0, c68_1, c68_2, c68_3, c68_4, c68_5, c68_6] := by kernel_rfl
theorem c68_4_l : flat (innerC c68_4) = [c68_4_0] := by kernel_rfl
theorem c68_4_0_l : flat (innerC c68_4_0) = [c68_4_0_0, c68_4_0_1, c68_4_0_2, c68_4_0_3] := by kernel_rfl
theorem F68_1_ok (R : Rt) (ds : Ds) (w : World) (ρ : Env) (h : F68_1 R ds w) :
    TrL Tryz.prog Tryz.f68.ntmps [c68_5, c68_6] (F68_q1 R) ρ ds w :=
  TrL_leaf (X := F68_1 R ds w) setAll_nil (by kernel_rfl) (by kernel_rfl) h
theorem F68_2_ok (R : Rt) (J1 : (Int) → World → Prop) (l0 : SV) (l1 : SV) (n5 : Int) (ds : Ds) (w : World) (ρ : Env) (e0 : ρ 0 = .slice l0.a l0.len l0.cap) (e1 : ρ 1 = .slice l1.a l1.len l1.cap) (e5 : ρ 5 = .int .i64 n5) (h : F68_2 R J1 l0 l1 n5 ds w) :
    TrL Tryz.prog Tryz.f68.ntmps [c68_4_0_0, c68_4_0_1, c68_4_0_2, c68_4_0_3] (F68_q5 R J1) ρ ds w :=
  TrL_leaf (X := F68_2 R J1 l0 l1 n5 ds w) (setAll_cons e0 (setAll_cons e1 (setAll_cons e5 setAll_nil))) (by kernel_rfl) (by kernel_rfl) h
theorem F68_3_ok (R : Rt) (l0 : SV) (l1 : SV) (n5 : Int) (ds : Ds) (w : World) (ρ : Env) (e0 : ρ 0 = .slice l0.a l0.len l0.cap) (e1 : ρ 1 = .slice l1.a l1.len l1.cap) (e5 : ρ 5 = .int .i64 n5) (h : F68_3 R l0 l1 n5 ds w) :
    TrL Tryz.prog Tryz.f68.ntmps [c68_4_0] (F68_q4 R) ρ ds w :=
  TrL_one (Tr_loop' (c := innerC c68_4_0) (σ := Int) (enc := (fun (s : Int) (ρ : Env) => ρ 5 = .int .i64 s)) (D := (fun ρ K => dInt .i64 (ρ 5) fun n5 => K n5)) (F := (fun (J1 : (Int) → World → Prop) (s : Int) (w : World) => F68_2 R J1 l0 l1 s ds w)) (s0 := n5) (by kernel_rfl) c68_4_0_l e5 (by kernel_rfl) (fun ρ K hD => by obtain ⟨n5, e5, hD⟩ := dInt_elim hD; exact ⟨n5, e5, hD⟩)
      (fun J1 s ρ' w' he ha hF => by
      have e5' := he
      exact F68_2_ok R J1 l0 l1 s ds w' ρ' ((ha 0 (by kernel_rfl)).trans e0) ((ha 1 (by kernel_rfl)).trans e1) e5' hF) h)
theorem F68_4_ok (R : Rt) (l0 : SV) (l1 : SV) (n5 : Int) (ds : Ds) (w : World) (ρ : Env) (e0 : ρ 0 = .slice l0.a l0.len l0.cap) (e1 : ρ 1 = .slice l1.a l1.len l1.cap) (e5 : ρ 5 = .int .i64 n5) (h : F68_4 R l0 l1 n5 ds w) :
    TrL Tryz.prog Tryz.f68.ntmps [c68_4, c68_5, c68_6] (F68_q1 R) ρ ds w :=
  TrL_head (K := (F68_k2 R)) (Tr_block' (c := innerC c68_4) (by kernel_rfl) c68_4_l (F68_3_ok R l0 l1 n5 ds w ρ e0 e1 e5 h))
    (fun ρ' ds' w' hD => by
      exact F68_1_ok R ds' w' ρ'  hD)
theorem F68_5_ok (R : Rt) (l0 : SV) (l1 : SV) (ds : Ds) (w : World) (ρ : Env) (e0 : ρ 0 = .slice l0.a l0.len l0.cap) (e1 : ρ 1 = .slice l1.a l1.len l1.cap) (h : F68_5 R l0 l1 ds w) :
    TrL Tryz.prog Tryz.f68.ntmps [c68_0, c68_1, c68_2, c68_3, c68_4, c68_5, c68_6] (F68_q1 R) ρ ds w :=
  TrL_piece (pre := [c68_0, c68_1, c68_2, c68_3]) (K := (F68_k6 R)) (X := F68_5 R l0 l1 ds w) (setAll_cons e0 (setAll_cons e1 setAll_nil)) (by kernel_rfl) (by kernel_rfl)
    (fun ρ' ds' w' hD => by
      obtain ⟨l0, e0, hD⟩ := dSl_elim hD; obtain ⟨l1, e1, hD⟩ := dSl_elim hD; obtain ⟨n5, e5, hD⟩ := dInt_elim hD; exact F68_4_ok R l0 l1 n5 ds' w' ρ' e0 e1 e5 hD) h
theorem F68_calls (l0 : SV) (l1 : SV) (w : World) (R : Rt) (h : F68_5 R l0 l1 [] w) : Calls Tryz.prog 68 #[.slice l0.a l0.len l0.cap, .slice l1.a l1.len l1.cap] w R :=
  calls_of_L (l := [c68_0, c68_1, c68_2, c68_3, c68_4, c68_5, c68_6]) Tryz.func68 (by kernel_rfl) (by rw [Tryz.ntmps68]; exact Nat.le_of_ble_eq_true (by kernel_rfl)) c68_l
    (F68_5_ok R l0 l1 [] w _ rfl rfl h)
theorem F68_callsD (l0 : SV) (l1 : SV) (w : World) (R : Rt) (u : FrameMode) (h : F68_5 R l0 l1 [] w) : CallsD Tryz.prog 68 #[.slice l0.a l0.len l0.cap, .slice l1.a l1.len l1.cap] u w fun e u' w' => u' = u ∧ R e w' :=
  callsD_of_L (l := [c68_0, c68_1, c68_2, c68_3, c68_4, c68_5, c68_6]) Tryz.func68 (by kernel_rfl) (by rw [Tryz.ntmps68]; exact Nat.le_of_ble_eq_true (by kernel_rfl)) (by kernel_rfl) c68_l
    (F68_5_ok R l0 l1 [] w _ rfl rfl h) u

end Go.Proofs.YtecmfdfhpldmmaaGreatDoor
