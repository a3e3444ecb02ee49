/- Shallow texts of functions, printed by program, each checked by the kernel against the loaded code. No condition. -/
import Derived.Test.YtnigfiljenfgjaaGreatProg
import Derived.Test.YtnigfiljenfgjaaGreatShEight
set_option maxRecDepth 100000
set_option linter.unusedVariables false
namespace Go.Proofs.YtnigfiljenfgjaaGreat
open Go.Sh
/-! function 17: (*cabinetry/disk.System).Files -/
noncomputable def c17_0 : Code := itemAt (flat (bodyOf Tryz.f17)) 0
noncomputable def c17_1 : Code := itemAt (flat (bodyOf Tryz.f17)) 1
noncomputable def c17_2 : Code := itemAt (flat (bodyOf Tryz.f17)) 2
noncomputable def c17_3 : Code := itemAt (flat (bodyOf Tryz.f17)) 3
noncomputable def c17_4 : Code := itemAt (flat (bodyOf Tryz.f17)) 4
noncomputable def c17_5 : Code := itemAt (flat (bodyOf Tryz.f17)) 5
noncomputable def c17_6 : Code := itemAt (flat (bodyOf Tryz.f17)) 6
def F17_q1 (R : Rt) : EQ := endQ Tryz.prog Tryz.f17.results.toList R
def F17_1 (R : Rt) (p0 : Option Addr) (ds : Ds) (w : World) : Prop :=
 ∃ b4 : Bool, ∃ w1 : World, (eqS .eql 25 (.tmp 3) (.const (.pointer none)) (.pointer p0) (.pointer none)).run Tryz.prog w = .ok (.bool b4) w1 ∧
 Br b4 (
 runD Tryz.prog ds w1 fun w2 =>
 R (.returned (.slice none 0 0)) w2) (
 ptrE p0 fun a3 =>
 Calls Tryz.prog 46 #[.pointer (some a3)] w1 fun e w4 =>
 e = .returned (.tuple #[]) ∧
 ptrE p0 fun a5 =>
 ptrE p0 fun a6 =>
 ∃ m15 : Option Nat, w4.cell? (a6.add 2) = some (.map m15) ∧
 Calls Tryz.prog 52 #[.map m15] w4 fun e w7 =>
 ∃ v16 : Value, e = .returned (v16) ∧
 Calls Tryz.prog 51 #[v16] w7 fun e w8 =>
 ∃ l17 : SV, e = .returned (.slice l17.a l17.len l17.cap) ∧
 runD Tryz.prog ({ target := .fn (.func 47) #[], args := #[.pointer (some a5)] } :: ds) w8 fun w9 =>
 R (.returned (.slice l17.a l17.len l17.cap)) w9)
theorem c17_l : flat (bodyOf Tryz.f17) = [c17_0, c17_1, c17_2, c17_3, c17_4, c17_5, c17_6] := by kernel_rfl
theorem F17_1_ok (R : Rt) (p0 : Option Addr) (ds : Ds) (w : World) (ρ : Env) (e0 : ρ 0 = .pointer p0) (h : F17_1 R p0 ds w) :
    TrL Tryz.prog Tryz.f17.ntmps [c17_0, c17_1, c17_2, c17_3, c17_4, c17_5, c17_6] (F17_q1 R) ρ ds w :=
  TrL_leaf (X := F17_1 R p0 ds w) (setAll_cons e0 setAll_nil) (by kernel_rfl) (by kernel_rfl) h
theorem F17_calls (p0 : Option Addr) (w : World) (R : Rt) (h : F17_1 R p0 [] w) : Calls Tryz.prog 17 #[.pointer p0] w R :=
  calls_of_L (l := [c17_0, c17_1, c17_2, c17_3, c17_4, c17_5, c17_6]) Tryz.func17 (by kernel_rfl) (by rw [Tryz.ntmps17]; exact Nat.le_of_ble_eq_true (by kernel_rfl)) c17_l
    (F17_1_ok R p0 [] w _ rfl h)

/-! function 18: (*cabinetry/disk.System).Locks -/
noncomputable def c18_0 : Code := itemAt (flat (bodyOf Tryz.f18)) 0
noncomputable def c18_1 : Code := itemAt (flat (bodyOf Tryz.f18)) 1
noncomputable def c18_2 : Code := itemAt (flat (bodyOf Tryz.f18)) 2
noncomputable def c18_3 : Code := itemAt (flat (bodyOf Tryz.f18)) 3
noncomputable def c18_4 : Code := itemAt (flat (bodyOf Tryz.f18)) 4
noncomputable def c18_5 : Code := itemAt (flat (bodyOf Tryz.f18)) 5
noncomputable def c18_6 : Code := itemAt (flat (bodyOf Tryz.f18)) 6
noncomputable def c18_7 : Code := itemAt (flat (bodyOf Tryz.f18)) 7
noncomputable def c18_8 : Code := itemAt (flat (bodyOf Tryz.f18)) 8
noncomputable def c18_9 : Code := itemAt (flat (bodyOf Tryz.f18)) 9
noncomputable def c18_10 : Code := itemAt (flat (bodyOf Tryz.f18)) 10
noncomputable def c18_11 : Code := itemAt (flat (bodyOf Tryz.f18)) 11
noncomputable def c18_8_0 : Code := itemAt (flat (innerC c18_8)) 0
noncomputable def c18_8_0_0 : Code := itemAt (flat (innerC c18_8_0)) 0
noncomputable def c18_8_0_1 : Code := itemAt (flat (innerC c18_8_0)) 1
noncomputable def c18_8_0_2 : Code := itemAt (flat (innerC c18_8_0)) 2
noncomputable def c18_8_0_3 : Code := itemAt (flat (innerC c18_8_0)) 3
def F18_q1 (R : Rt) : EQ := endQ Tryz.prog Tryz.f18.results.toList R
def F18_1 (R : Rt) (l4 : SV) (ds : Ds) (w : World) : Prop :=
 Calls Tryz.prog 54 #[.slice l4.a l4.len l4.cap, .func (.func 55) #[] #[]] w fun e w1 =>
 e = .returned (.tuple #[]) ∧
 runD Tryz.prog ds w1 fun w2 =>
 R (.returned (.slice l4.a l4.len l4.cap)) w2
def F18_k2 (R : Rt) : EP := (fun ρ ds w => dSl (ρ 4) fun l4 => F18_1 R l4 ds w)
def F18_q3 (R : Rt) : EQ := (thenQ (F18_k2 R) (F18_q1 R))
def F18_q4 (R : Rt) : EQ := (blockQ 0 (F18_q3 R))
def F18_q5 (R : Rt) (J1 : (SV × Int) → World → Prop) : EQ := (thenQ (fun ρ _ w => dSl (ρ 4) fun l4 => dInt .i64 (ρ 23) fun n23 => J1 (l4, n23) w) (F18_q4 R))
def F18_2 (R : Rt) (J1 : (SV × Int) → World → Prop) (l3 : SV) (l4 : SV) (l21 : SV) (n22 : Int) (n23 : Int) (ds : Ds) (w : World) : Prop :=
 Br (decide (n23 < n22)) (
 ∃ a3 : Addr, l21.a = some a3 ∧ 0 ≤ n23 ∧ n23 < ((l21.len : Nat) : Int) ∧
 ∃ n26_0 : Int, w.cell? ((a3.add (n23.toNat * 4)).add 0) = some (.int .i64 n26_0) ∧
 ∃ s26_1 : ByteArray, w.cell? ((a3.add (n23.toNat * 4)).add 1) = some (.string s26_1) ∧
 ∃ n26_2 : Int, w.cell? ((a3.add (n23.toNat * 4)).add 2) = some (.int .i64 n26_2) ∧
 ∃ n26_3 : Int, w.cell? ((a3.add (n23.toNat * 4)).add 3) = some (.int .i64 n26_3) ∧
 alE (.cells #[.int .i64 0, .string (⟨#[]⟩ : ByteArray), .int .i64 0, .int .i64 0] 95) w fun r6 w4 =>
 stA Tryz.prog 95 (⟨r6, 0, none⟩ : Addr) #[.int .i64 n26_0, .string s26_1, .int .i64 n26_2, .int .i64 n26_3] w4 fun w5 =>
 dwE w5 fun w6 =>
 ∃ S1 : World → Prop, S1 w6 ∧
 ∃ n29 : Int, (∀ w', S1 w' → w'.cell? (⟨r6, 0, none⟩ : Addr) = some (.int .i64 n29)) ∧
 ∃ s32 : ByteArray, (∀ w', S1 w' → w'.cell? ((⟨r6, 0, none⟩ : Addr).add 1) = some (.string s32)) ∧
 ∃ n35 : Int, (∀ w', S1 w' → w'.cell? ((⟨r6, 0, none⟩ : Addr).add 2) = some (.int .i64 n35)) ∧
 ∃ n37 : Int, (∀ w', S1 w' → w'.cell? ((⟨r6, 0, none⟩ : Addr).add 3) = some (.int .i64 n37)) ∧
 Calls Tryz.prog 53 #[.slice l3.a l3.len l3.cap, .string s32] w6 fun e w7 =>
 ∃ n33 : Int, e = .returned (.int .i64 n33) ∧
 S1 w7 ∧
 alE (.cells #[.int .i64 n29, .int .i64 n33, .int .i64 n35, .int .i64 n37] 103) w7 fun r39 w8 =>
 ∃ l40 : SV, ∃ w9 : World, (Builtin.append_ #[44, 44] 44 #[.slice l4.a l4.len l4.cap, .slice (some ⟨r39, 0, none⟩) 1 1]).run Tryz.prog w8 = .ok (.slice l40.a l40.len l40.cap) w9 ∧
 J1 (l40, (IntKind.i64.wrap (n23 + 1))) w9) (
 F18_1 R l4 ds w)
def F18_3 (R : Rt) (l3 : SV) (l4 : SV) (l21 : SV) (n22 : Int) (n23 : Int) (ds : Ds) (w : World) : Prop :=
 loopT (fun (J1 : (SV × Int) → World → Prop) (s : SV × Int) (w : World) => F18_2 R J1 l3 s.1 l21 n22 s.2 ds w) (l4, n23) w
@[reducible] def F18_4 (R : Rt) (l3 : SV) (l4 : SV) (l21 : SV) (n22 : Int) (n23 : Int) (ds : Ds) (w : World) : Prop := F18_3 R l3 l4 l21 n22 n23 ds w
def F18_k6 (R : Rt) : EP := (fun ρ ds w => dSl (ρ 3) fun l3 => dSl (ρ 4) fun l4 => dSl (ρ 21) fun l21 => dInt .i64 (ρ 22) fun n22 => dInt .i64 (ρ 23) fun n23 => F18_4 R l3 l4 l21 n22 n23 ds w)
def F18_5 (R : Rt) (p0 : Option Addr) (ds : Ds) (w : World) : Prop :=
 Calls Tryz.prog 17 #[.pointer p0] w fun e w10 =>
 ∃ l8 : SV, e = .returned (.slice l8.a l8.len l8.cap) ∧
 ∃ b10 : Bool, ∃ w11 : World, (eqS .eql 25 (.tmp 9) (.const (.pointer none)) (.pointer p0) (.pointer none)).run Tryz.prog w10 = .ok (.bool b10) w11 ∧
 Br b10 (
 runD Tryz.prog ds w11 fun w12 =>
 R (.returned (.slice none 0 0)) w12) (
 ptrE p0 fun a13 =>
 Calls Tryz.prog 46 #[.pointer (some a13)] w11 fun e w14 =>
 e = .returned (.tuple #[]) ∧
 ptrE p0 fun a15 =>
 ptrE p0 fun a16 =>
 ∃ l21 : SV, w14.cell? (a16.add 7) = some (.slice l21.a l21.len l21.cap) ∧
 F18_4 R l8 ⟨none, 0, 0⟩ l21 ((l21.len : Nat) : Int) 0 ({ target := .fn (.func 47) #[], args := #[.pointer (some a15)] } :: ds) w14)
theorem c18_l : flat (bodyOf Tryz.f18) = [c18_0, c18_1, c18_2, c18_3, c18_4, c18_5, c18_6, c18_7, c18_8, c18_9, c18_10, c18_11] := by kernel_rfl
theorem c18_8_l : flat (innerC c18_8) = [c18_8_0] := by kernel_rfl
theorem c18_8_0_l : flat (innerC c18_8_0) = [c18_8_0_0, c18_8_0_1, c18_8_0_2, c18_8_0_3] := by kernel_rfl
theorem F18_1_ok (R : Rt) (l4 : SV) (ds : Ds) (w : World) (ρ : Env) (e4 : ρ 4 = .slice l4.a l4.len l4.cap) (h : F18_1 R l4 ds w) :
    TrL Tryz.prog Tryz.f18.ntmps [c18_9, c18_10, c18_11] (F18_q1 R) ρ ds w :=
  TrL_leaf (X := F18_1 R l4 ds w) (setAll_cons e4 setAll_nil) (by kernel_rfl) (by kernel_rfl) h
theorem F18_2_ok (R : Rt) (J1 : (SV × Int) → World → Prop) (l3 : SV) (l4 : SV) (l21 : SV) (n22 : Int) (n23 : Int) (ds : Ds) (w : World) (ρ : Env) (e3 : ρ 3 = .slice l3.a l3.len l3.cap) (e4 : ρ 4 = .slice l4.a l4.len l4.cap) (e21 : ρ 21 = .slice l21.a l21.len l21.cap) (e22 : ρ 22 = .int .i64 n22) (e23 : ρ 23 = .int .i64 n23) (h : F18_2 R J1 l3 l4 l21 n22 n23 ds w) :
    TrL Tryz.prog Tryz.f18.ntmps [c18_8_0_0, c18_8_0_1, c18_8_0_2, c18_8_0_3] (F18_q5 R J1) ρ ds w :=
  TrL_leaf (X := F18_2 R J1 l3 l4 l21 n22 n23 ds w) (setAll_cons e3 (setAll_cons e4 (setAll_cons e21 (setAll_cons e22 (setAll_cons e23 setAll_nil))))) (by kernel_rfl) (by kernel_rfl) h
theorem F18_3_ok (R : Rt) (l3 : SV) (l4 : SV) (l21 : SV) (n22 : Int) (n23 : Int) (ds : Ds) (w : World) (ρ : Env) (e3 : ρ 3 = .slice l3.a l3.len l3.cap) (e4 : ρ 4 = .slice l4.a l4.len l4.cap) (e21 : ρ 21 = .slice l21.a l21.len l21.cap) (e22 : ρ 22 = .int .i64 n22) (e23 : ρ 23 = .int .i64 n23) (h : F18_3 R l3 l4 l21 n22 n23 ds w) :
    TrL Tryz.prog Tryz.f18.ntmps [c18_8_0] (F18_q4 R) ρ ds w :=
  TrL_one (Tr_loop' (c := innerC c18_8_0) (σ := SV × Int) (enc := (fun (s : SV × Int) (ρ : Env) => ρ 4 = .slice s.1.a s.1.len s.1.cap ∧ ρ 23 = .int .i64 s.2)) (D := (fun ρ K => dSl (ρ 4) fun l4 => dInt .i64 (ρ 23) fun n23 => K (l4, n23))) (F := (fun (J1 : (SV × Int) → World → Prop) (s : SV × Int) (w : World) => F18_2 R J1 l3 s.1 l21 n22 s.2 ds w)) (s0 := (l4, n23)) (by kernel_rfl) c18_8_0_l ⟨e4, e23⟩ (by kernel_rfl) (fun ρ K hD => by obtain ⟨l4, e4, hD⟩ := dSl_elim hD; obtain ⟨n23, e23, hD⟩ := dInt_elim hD; exact ⟨(l4, n23), ⟨e4, e23⟩, hD⟩)
      (fun J1 s ρ' w' he ha hF => by
      obtain ⟨e4', e23'⟩ := he
      exact F18_2_ok R J1 l3 s.1 l21 n22 s.2 ds w' ρ' ((ha 3 (by kernel_rfl)).trans e3) e4' ((ha 21 (by kernel_rfl)).trans e21) ((ha 22 (by kernel_rfl)).trans e22) e23' hF) h)
theorem F18_4_ok (R : Rt) (l3 : SV) (l4 : SV) (l21 : SV) (n22 : Int) (n23 : Int) (ds : Ds) (w : World) (ρ : Env) (e3 : ρ 3 = .slice l3.a l3.len l3.cap) (e4 : ρ 4 = .slice l4.a l4.len l4.cap) (e21 : ρ 21 = .slice l21.a l21.len l21.cap) (e22 : ρ 22 = .int .i64 n22) (e23 : ρ 23 = .int .i64 n23) (h : F18_4 R l3 l4 l21 n22 n23 ds w) :
    TrL Tryz.prog Tryz.f18.ntmps [c18_8, c18_9, c18_10, c18_11] (F18_q1 R) ρ ds w :=
  TrL_head (K := (F18_k2 R)) (Tr_block' (c := innerC c18_8) (by kernel_rfl) c18_8_l (F18_3_ok R l3 l4 l21 n22 n23 ds w ρ e3 e4 e21 e22 e23 h))
    (fun ρ' ds' w' hD => by
      obtain ⟨l4, e4, hD⟩ := dSl_elim hD; exact F18_1_ok R l4 ds' w' ρ' e4 hD)
theorem F18_5_ok (R : Rt) (p0 : Option Addr) (ds : Ds) (w : World) (ρ : Env) (e0 : ρ 0 = .pointer p0) (h : F18_5 R p0 ds w) :
    TrL Tryz.prog Tryz.f18.ntmps [c18_0, c18_1, c18_2, c18_3, c18_4, c18_5, c18_6, c18_7, c18_8, c18_9, c18_10, c18_11] (F18_q1 R) ρ ds w :=
  TrL_piece (pre := [c18_0, c18_1, c18_2, c18_3, c18_4, c18_5, c18_6, c18_7]) (K := (F18_k6 R)) (X := F18_5 R p0 ds w) (setAll_cons e0 setAll_nil) (by kernel_rfl) (by kernel_rfl)
    (fun ρ' ds' w' hD => by
      obtain ⟨l3, e3, hD⟩ := dSl_elim hD; obtain ⟨l4, e4, hD⟩ := dSl_elim hD; obtain ⟨l21, e21, hD⟩ := dSl_elim hD; obtain ⟨n22, e22, hD⟩ := dInt_elim hD; obtain ⟨n23, e23, hD⟩ := dInt_elim hD; exact F18_4_ok R l3 l4 l21 n22 n23 ds' w' ρ' e3 e4 e21 e22 e23 hD) h
theorem F18_calls (p0 : Option Addr) (w : World) (R : Rt) (h : F18_5 R p0 [] w) : Calls Tryz.prog 18 #[.pointer p0] w R :=
  calls_of_L (l := [c18_0, c18_1, c18_2, c18_3, c18_4, c18_5, c18_6, c18_7, c18_8, c18_9, c18_10, c18_11]) Tryz.func18 (by kernel_rfl) (by rw [Tryz.ntmps18]; exact Nat.le_of_ble_eq_true (by kernel_rfl)) c18_l
    (F18_5_ok R p0 [] w _ rfl h)

/-! function 19: cabinetry/disk.Same -/
noncomputable def c19_0 : Code := itemAt (flat (bodyOf Tryz.f19)) 0
noncomputable def c19_1 : Code := itemAt (flat (bodyOf Tryz.f19)) 1
noncomputable def c19_2 : Code := itemAt (flat (bodyOf Tryz.f19)) 2
noncomputable def c19_3 : Code := itemAt (flat (bodyOf Tryz.f19)) 3
noncomputable def c19_4 : Code := itemAt (flat (bodyOf Tryz.f19)) 4
noncomputable def c19_5 : Code := itemAt (flat (bodyOf Tryz.f19)) 5
noncomputable def c19_6 : Code := itemAt (flat (bodyOf Tryz.f19)) 6
noncomputable def c19_7 : Code := itemAt (flat (bodyOf Tryz.f19)) 7
noncomputable def c19_5_0 : Code := itemAt (flat (innerC c19_5)) 0
noncomputable def c19_5_0_0 : Code := itemAt (flat (innerC c19_5_0)) 0
noncomputable def c19_5_0_1 : Code := itemAt (flat (innerC c19_5_0)) 1
noncomputable def c19_5_0_2 : Code := itemAt (flat (innerC c19_5_0)) 2
noncomputable def c19_5_0_3 : Code := itemAt (flat (innerC c19_5_0)) 3
def F19_q1 (R : Rt) : EQ := endQ Tryz.prog Tryz.f19.results.toList R
def F19_1 (R : Rt) (p0 : Option Addr) (p1 : Option Addr) (p5 : Option Addr) (p6 : Option Addr) (ds : Ds) (w : World) : Prop :=
 dwE w fun w1 =>
 ptrE p5 fun a2 =>
 ∃ m47 : Option Nat, w1.cell? (a2.add 2) = some (.map m47) ∧
 ptrE p6 fun a3 =>
 ∃ m51 : Option Nat, w1.cell? (a3.add 2) = some (.map m51) ∧
 Calls Tryz.prog 58 #[.map m47, .map m51, .func (.func 59) #[] #[]] w1 fun e w4 =>
 ∃ b52 : Bool, e = .returned (.bool b52) ∧
 Br b52 (
 Calls Tryz.prog 18 #[.pointer p0] w4 fun e w5 =>
 ∃ l55 : SV, e = .returned (.slice l55.a l55.len l55.cap) ∧
 Calls Tryz.prog 18 #[.pointer p1] w5 fun e w6 =>
 ∃ l57 : SV, e = .returned (.slice l57.a l57.len l57.cap) ∧
 Calls Tryz.prog 60 #[.slice l55.a l55.len l55.cap, .slice l57.a l57.len l57.cap] w6 fun e w7 =>
 ∃ b58 : Bool, e = .returned (.bool b58) ∧
 runD Tryz.prog ds w7 fun w8 =>
 R (.returned (.bool b58)) w8) (
 runD Tryz.prog ds w4 fun w9 =>
 R (.returned (.bool false)) w9)
def F19_k2 (R : Rt) : EP := (fun ρ ds w => dPtr (ρ 0) fun p0 => dPtr (ρ 1) fun p1 => dPtr (ρ 5) fun p5 => dPtr (ρ 6) fun p6 => F19_1 R p0 p1 p5 p6 ds w)
def F19_q3 (R : Rt) : EQ := (thenQ (F19_k2 R) (F19_q1 R))
def F19_q4 (R : Rt) : EQ := (blockQ 0 (F19_q3 R))
def F19_q5 (R : Rt) (J1 : (Int) → World → Prop) : EQ := (thenQ (fun ρ _ w => dInt .i64 (ρ 26) fun n26 => J1 n26 w) (F19_q4 R))
def F19_2 (R : Rt) (J1 : (Int) → World → Prop) (p0 : Option Addr) (p1 : Option Addr) (p5 : Option Addr) (p6 : Option Addr) (n26 : Int) (ds : Ds) (w : World) : Prop :=
 Br (decide (n26 < 4)) (
 dwE w fun w10 =>
 ptrE p5 fun a11 =>
 0 ≤ n26 ∧ n26 < ((4 : Nat) : Int) ∧
 ∃ m34 : Option Nat, w10.cell? ((a11.add 3).add (n26.toNat * 1)) = some (.map m34) ∧
 ptrE p6 fun a12 =>
 0 ≤ n26 ∧ n26 < ((4 : Nat) : Int) ∧
 ∃ m40 : Option Nat, w10.cell? ((a12.add 3).add (n26.toNat * 1)) = some (.map m40) ∧
 Calls Tryz.prog 57 #[.map m34, .map m40] w10 fun e w13 =>
 ∃ b41 : Bool, e = .returned (.bool b41) ∧
 Br (!b41) (
 runD Tryz.prog ds w13 fun w14 =>
 R (.returned (.bool false)) w14) (
 J1 (IntKind.i64.wrap (n26 + 1)) w13)) (
 F19_1 R p0 p1 p5 p6 ds w)
def F19_3 (R : Rt) (p0 : Option Addr) (p1 : Option Addr) (p5 : Option Addr) (p6 : Option Addr) (n26 : Int) (ds : Ds) (w : World) : Prop :=
 loopT (fun (J1 : (Int) → World → Prop) (s : Int) (w : World) => F19_2 R J1 p0 p1 p5 p6 s ds w) n26 w
@[reducible] def F19_4 (R : Rt) (p0 : Option Addr) (p1 : Option Addr) (p5 : Option Addr) (p6 : Option Addr) (n26 : Int) (ds : Ds) (w : World) : Prop := F19_3 R p0 p1 p5 p6 n26 ds w
def F19_k6 (R : Rt) : EP := (fun ρ ds w => dPtr (ρ 0) fun p0 => dPtr (ρ 1) fun p1 => dPtr (ρ 5) fun p5 => dPtr (ρ 6) fun p6 => dInt .i64 (ρ 26) fun n26 => F19_4 R p0 p1 p5 p6 n26 ds w)
def F19_5 (R : Rt) (p0 : Option Addr) (p1 : Option Addr) (ds : Ds) (w : World) : Prop :=
 ∃ b9 : Bool, ∃ w15 : World, (eqS .eql 25 (.tmp 8) (.const (.pointer none)) (.pointer p0) (.pointer none)).run Tryz.prog w = .ok (.bool b9) w15 ∧
 Br b9 (
 ∃ b21 : Bool, ∃ w16 : World, (eqS .eql 25 (.tmp 19) (.tmp 20) (.pointer p0) (.pointer p1)).run Tryz.prog w15 = .ok (.bool b21) w16 ∧
 runD Tryz.prog ds w16 fun w17 =>
 R (.returned (.bool b21)) w17) (
 ∃ b12 : Bool, ∃ w18 : World, (eqS .eql 25 (.tmp 11) (.const (.pointer none)) (.pointer p1) (.pointer none)).run Tryz.prog w15 = .ok (.bool b12) w18 ∧
 Br b12 (
 ∃ b21 : Bool, ∃ w19 : World, (eqS .eql 25 (.tmp 19) (.tmp 20) (.pointer p0) (.pointer p1)).run Tryz.prog w18 = .ok (.bool b21) w19 ∧
 runD Tryz.prog ds w19 fun w20 =>
 R (.returned (.bool b21)) w20) (
 ∃ b17 : Bool, ∃ w21 : World, (eqS .eql 25 (.tmp 15) (.tmp 16) (.pointer p0) (.pointer p1)).run Tryz.prog w18 = .ok (.bool b17) w21 ∧
 Br b17 (
 ∃ b21 : Bool, ∃ w22 : World, (eqS .eql 25 (.tmp 19) (.tmp 20) (.pointer p0) (.pointer p1)).run Tryz.prog w21 = .ok (.bool b21) w22 ∧
 runD Tryz.prog ds w22 fun w23 =>
 R (.returned (.bool b21)) w23) (
 Calls Tryz.prog 20 #[.pointer p0] w21 fun e w24 =>
 ∃ p23 : Option Addr, e = .returned (.pointer p23) ∧
 Calls Tryz.prog 20 #[.pointer p1] w24 fun e w25 =>
 ∃ p25 : Option Addr, e = .returned (.pointer p25) ∧
 F19_4 R p0 p1 p23 p25 0 ds w25)))
theorem c19_l : flat (bodyOf Tryz.f19) = [c19_0, c19_1, c19_2, c19_3, c19_4, c19_5, c19_6, c19_7] := by kernel_rfl
theorem c19_5_l : flat (innerC c19_5) = [c19_5_0] := by kernel_rfl
theorem c19_5_0_l : flat (innerC c19_5_0) = [c19_5_0_0, c19_5_0_1, c19_5_0_2, c19_5_0_3] := by kernel_rfl
theorem F19_1_ok (R : Rt) (p0 : Option Addr) (p1 : Option Addr) (p5 : Option Addr) (p6 : Option Addr) (ds : Ds) (w : World) (ρ : Env) (e0 : ρ 0 = .pointer p0) (e1 : ρ 1 = .pointer p1) (e5 : ρ 5 = .pointer p5) (e6 : ρ 6 = .pointer p6) (h : F19_1 R p0 p1 p5 p6 ds w) :
    TrL Tryz.prog Tryz.f19.ntmps [c19_6, c19_7] (F19_q1 R) ρ ds w :=
  TrL_leaf (X := F19_1 R p0 p1 p5 p6 ds w) (setAll_cons e0 (setAll_cons e1 (setAll_cons e5 (setAll_cons e6 setAll_nil)))) (by kernel_rfl) (by kernel_rfl) h
theorem F19_2_ok (R : Rt) (J1 : (Int) → World → Prop) (p0 : Option Addr) (p1 : Option Addr) (p5 : Option Addr) (p6 : Option Addr) (n26 : Int) (ds : Ds) (w : World) (ρ : Env) (e0 : ρ 0 = .pointer p0) (e1 : ρ 1 = .pointer p1) (e5 : ρ 5 = .pointer p5) (e6 : ρ 6 = .pointer p6) (e26 : ρ 26 = .int .i64 n26) (h : F19_2 R J1 p0 p1 p5 p6 n26 ds w) :
    TrL Tryz.prog Tryz.f19.ntmps [c19_5_0_0, c19_5_0_1, c19_5_0_2, c19_5_0_3] (F19_q5 R J1) ρ ds w :=
  TrL_leaf (X := F19_2 R J1 p0 p1 p5 p6 n26 ds w) (setAll_cons e0 (setAll_cons e1 (setAll_cons e5 (setAll_cons e6 (setAll_cons e26 setAll_nil))))) (by kernel_rfl) (by kernel_rfl) h
theorem F19_3_ok (R : Rt) (p0 : Option Addr) (p1 : Option Addr) (p5 : Option Addr) (p6 : Option Addr) (n26 : Int) (ds : Ds) (w : World) (ρ : Env) (e0 : ρ 0 = .pointer p0) (e1 : ρ 1 = .pointer p1) (e5 : ρ 5 = .pointer p5) (e6 : ρ 6 = .pointer p6) (e26 : ρ 26 = .int .i64 n26) (h : F19_3 R p0 p1 p5 p6 n26 ds w) :
    TrL Tryz.prog Tryz.f19.ntmps [c19_5_0] (F19_q4 R) ρ ds w :=
  TrL_one (Tr_loop' (c := innerC c19_5_0) (σ := Int) (enc := (fun (s : Int) (ρ : Env) => ρ 26 = .int .i64 s)) (D := (fun ρ K => dInt .i64 (ρ 26) fun n26 => K n26)) (F := (fun (J1 : (Int) → World → Prop) (s : Int) (w : World) => F19_2 R J1 p0 p1 p5 p6 s ds w)) (s0 := n26) (by kernel_rfl) c19_5_0_l e26 (by kernel_rfl) (fun ρ K hD => by obtain ⟨n26, e26, hD⟩ := dInt_elim hD; exact ⟨n26, e26, hD⟩)
      (fun J1 s ρ' w' he ha hF => by
      have e26' := he
      exact F19_2_ok R J1 p0 p1 p5 p6 s ds w' ρ' ((ha 0 (by kernel_rfl)).trans e0) ((ha 1 (by kernel_rfl)).trans e1) ((ha 5 (by kernel_rfl)).trans e5) ((ha 6 (by kernel_rfl)).trans e6) e26' hF) h)
theorem F19_4_ok (R : Rt) (p0 : Option Addr) (p1 : Option Addr) (p5 : Option Addr) (p6 : Option Addr) (n26 : Int) (ds : Ds) (w : World) (ρ : Env) (e0 : ρ 0 = .pointer p0) (e1 : ρ 1 = .pointer p1) (e5 : ρ 5 = .pointer p5) (e6 : ρ 6 = .pointer p6) (e26 : ρ 26 = .int .i64 n26) (h : F19_4 R p0 p1 p5 p6 n26 ds w) :
    TrL Tryz.prog Tryz.f19.ntmps [c19_5, c19_6, c19_7] (F19_q1 R) ρ ds w :=
  TrL_head (K := (F19_k2 R)) (Tr_block' (c := innerC c19_5) (by kernel_rfl) c19_5_l (F19_3_ok R p0 p1 p5 p6 n26 ds w ρ e0 e1 e5 e6 e26 h))
    (fun ρ' ds' w' hD => by
      obtain ⟨p0, e0, hD⟩ := dPtr_elim hD; obtain ⟨p1, e1, hD⟩ := dPtr_elim hD; obtain ⟨p5, e5, hD⟩ := dPtr_elim hD; obtain ⟨p6, e6, hD⟩ := dPtr_elim hD; exact F19_1_ok R p0 p1 p5 p6 ds' w' ρ' e0 e1 e5 e6 hD)
theorem F19_5_ok (R : Rt) (p0 : Option Addr) (p1 : Option Addr) (ds : Ds) (w : World) (ρ : Env) (e0 : ρ 0 = .pointer p0) (e1 : ρ 1 = .pointer p1) (h : F19_5 R p0 p1 ds w) :
    TrL Tryz.prog Tryz.f19.ntmps [c19_0, c19_1, c19_2, c19_3, c19_4, c19_5, c19_6, c19_7] (F19_q1 R) ρ ds w :=
  TrL_piece (pre := [c19_0, c19_1, c19_2, c19_3, c19_4]) (K := (F19_k6 R)) (X := F19_5 R p0 p1 ds w) (setAll_cons e0 (setAll_cons e1 setAll_nil)) (by kernel_rfl) (by kernel_rfl)
    (fun ρ' ds' w' hD => by
      obtain ⟨p0, e0, hD⟩ := dPtr_elim hD; obtain ⟨p1, e1, hD⟩ := dPtr_elim hD; obtain ⟨p5, e5, hD⟩ := dPtr_elim hD; obtain ⟨p6, e6, hD⟩ := dPtr_elim hD; obtain ⟨n26, e26, hD⟩ := dInt_elim hD; exact F19_4_ok R p0 p1 p5 p6 n26 ds' w' ρ' e0 e1 e5 e6 e26 hD) h
theorem F19_calls (p0 : Option Addr) (p1 : Option Addr) (w : World) (R : Rt) (h : F19_5 R p0 p1 [] w) : Calls Tryz.prog 19 #[.pointer p0, .pointer p1] w R :=
  calls_of_L (l := [c19_0, c19_1, c19_2, c19_3, c19_4, c19_5, c19_6, c19_7]) Tryz.func19 (by kernel_rfl) (by rw [Tryz.ntmps19]; exact Nat.le_of_ble_eq_true (by kernel_rfl)) c19_l
    (F19_5_ok R p0 p1 [] w _ rfl rfl h)
theorem F19_callsD (p0 : Option Addr) (p1 : Option Addr) (w : World) (R : Rt) (u : FrameMode) (h : F19_5 R p0 p1 [] w) : CallsD Tryz.prog 19 #[.pointer p0, .pointer p1] u w fun e u' w' => u' = u ∧ R e w' :=
  callsD_of_L (l := [c19_0, c19_1, c19_2, c19_3, c19_4, c19_5, c19_6, c19_7]) Tryz.func19 (by kernel_rfl) (by rw [Tryz.ntmps19]; exact Nat.le_of_ble_eq_true (by kernel_rfl)) (by kernel_rfl) c19_l
    (F19_5_ok R p0 p1 [] w _ rfl rfl h) u

/-! function 20: (*cabinetry/disk.System).Copy -/
noncomputable def c20_0 : Code := itemAt (flat (bodyOf Tryz.f20)) 0
noncomputable def c20_1 : Code := itemAt (flat (bodyOf Tryz.f20)) 1
noncomputable def c20_2 : Code := itemAt (flat (bodyOf Tryz.f20)) 2
noncomputable def c20_3 : Code := itemAt (flat (bodyOf Tryz.f20)) 3
noncomputable def c20_4 : Code := itemAt (flat (bodyOf Tryz.f20)) 4
noncomputable def c20_5 : Code := itemAt (flat (bodyOf Tryz.f20)) 5
noncomputable def c20_6 : Code := itemAt (flat (bodyOf Tryz.f20)) 6
noncomputable def c20_7 : Code := itemAt (flat (bodyOf Tryz.f20)) 7
noncomputable def c20_8 : Code := itemAt (flat (bodyOf Tryz.f20)) 8
noncomputable def c20_9 : Code := itemAt (flat (bodyOf Tryz.f20)) 9
noncomputable def c20_10 : Code := itemAt (flat (bodyOf Tryz.f20)) 10
noncomputable def c20_11 : Code := itemAt (flat (bodyOf Tryz.f20)) 11
noncomputable def c20_12 : Code := itemAt (flat (bodyOf Tryz.f20)) 12
noncomputable def c20_9_0 : Code := itemAt (flat (innerC c20_9)) 0
noncomputable def c20_9_0_0 : Code := itemAt (flat (innerC c20_9_0)) 0
noncomputable def c20_9_0_1 : Code := itemAt (flat (innerC c20_9_0)) 1
noncomputable def c20_9_0_2 : Code := itemAt (flat (innerC c20_9_0)) 2
noncomputable def c20_9_0_3 : Code := itemAt (flat (innerC c20_9_0)) 3
noncomputable def c20_7_0 : Code := itemAt (flat (innerC c20_7)) 0
noncomputable def c20_7_0_0 : Code := itemAt (flat (innerC c20_7_0)) 0
noncomputable def c20_7_0_1 : Code := itemAt (flat (innerC c20_7_0)) 1
noncomputable def c20_7_0_2 : Code := itemAt (flat (innerC c20_7_0)) 2
def F20_q1 (R : Rt) : EQ := endQ Tryz.prog Tryz.f20.results.toList R
def F20_1 (R : Rt) (p0 : Option Addr) (p3 : Option Addr) (ds : Ds) (w : World) : Prop :=
 ptrE p0 fun a1 =>
 ∃ l54 : SV, w.cell? (a1.add 7) = some (.slice l54.a l54.len l54.cap) ∧
 Calls Tryz.prog 62 #[.slice l54.a l54.len l54.cap] w fun e w2 =>
 ∃ l55 : SV, e = .returned (.slice l55.a l55.len l55.cap) ∧
 ptrE p3 fun a3 =>
 st1 (a3.add 7) (.slice l55.a l55.len l55.cap) w2 fun w4 =>
 runD Tryz.prog ds w4 fun w5 =>
 R (.returned (.pointer p3)) w5
def F20_k2 (R : Rt) : EP := (fun ρ ds w => dPtr (ρ 0) fun p0 => dPtr (ρ 3) fun p3 => F20_1 R p0 p3 ds w)
def F20_q3 (R : Rt) : EQ := (thenQ (F20_k2 R) (F20_q1 R))
def F20_q4 (R : Rt) : EQ := (blockQ 2 (F20_q3 R))
def F20_q5 (R : Rt) (J1 : (Int) → World → Prop) : EQ := (thenQ (fun ρ _ w => dInt .i64 (ρ 34) fun n34 => J1 n34 w) (F20_q4 R))
def F20_2 (R : Rt) (J1 : (Int) → World → Prop) (p0 : Option Addr) (p3 : Option Addr) (n34 : Int) (ds : Ds) (w : World) : Prop :=
 Br (decide (n34 < 4)) (
 dwE w fun w6 =>
 ptrE p0 fun a7 =>
 0 ≤ n34 ∧ n34 < ((4 : Nat) : Int) ∧
 ∃ m44 : Option Nat, w6.cell? ((a7.add 3).add (n34.toNat * 1)) = some (.map m44) ∧
 ptrE p3 fun a8 =>
 Calls Tryz.prog 61 #[.map m44] w6 fun e w9 =>
 ∃ m45 : Option Nat, e = .returned (.map m45) ∧
 0 ≤ n34 ∧ n34 < ((4 : Nat) : Int) ∧
 st1 ((a8.add 3).add (n34.toNat * 1)) (.map m45) w9 fun w10 =>
 J1 (IntKind.i64.wrap (n34 + 1)) w10) (
 F20_1 R p0 p3 ds w)
def F20_3 (R : Rt) (p0 : Option Addr) (p3 : Option Addr) (n34 : Int) (ds : Ds) (w : World) : Prop :=
 loopT (fun (J1 : (Int) → World → Prop) (s : Int) (w : World) => F20_2 R J1 p0 p3 s ds w) n34 w
@[reducible] def F20_4 (R : Rt) (p0 : Option Addr) (p3 : Option Addr) (n34 : Int) (ds : Ds) (w : World) : Prop := F20_3 R p0 p3 n34 ds w
def F20_k6 (R : Rt) : EP := (fun ρ ds w => dPtr (ρ 0) fun p0 => dPtr (ρ 3) fun p3 => dInt .i64 (ρ 34) fun n34 => F20_4 R p0 p3 n34 ds w)
def F20_5 (R : Rt) (p0 : Option Addr) (p3 : Option Addr) (ds : Ds) (w : World) : Prop :=
 F20_4 R p0 p3 0 ds w
def F20_k7 (R : Rt) : EP := (fun ρ ds w => dPtr (ρ 0) fun p0 => dPtr (ρ 3) fun p3 => F20_5 R p0 p3 ds w)
def F20_q8 (R : Rt) : EQ := (thenQ (F20_k7 R) (F20_q1 R))
def F20_q9 (R : Rt) : EQ := (blockQ 0 (F20_q8 R))
def F20_q10 (R : Rt) (J1 : (Unit) → World → Prop) : EQ := (thenQ (fun ρ _ w => J1 () w) (F20_q9 R))
def F20_6 (R : Rt) (J1 : (Unit) → World → Prop) (p0 : Option Addr) (p3 : Option Addr) (p21 : Option Addr) (ds : Ds) (w : World) : Prop :=
 (∃ w11 : World, (Instr.next (.pointer p21) false 0).run Tryz.prog w = .ok (.tuple #[.bool false]) w11 ∧
 F20_5 R p0 p3 ds w11) ∨ (∃ k22 v22 : Value, ∃ w12 : World, (Instr.next (.pointer p21) false 0).run Tryz.prog w = .ok (.tuple #[.bool true, k22, v22]) w12 ∧
 ∃ k24 v24 : Value, ∃ w13 : World, (Instr.entry (.pointer p21)).run Tryz.prog w12 = .ok (.tuple #[k24, v24]) w13 ∧
 dStr k24 fun s25 =>
 dSl v24 fun l26 =>
 dwE w13 fun w14 =>
 ∃ S2 : World → Prop, S2 w14 ∧
 ptrE p3 fun a15 =>
 ∃ m30 : Option Nat, (∀ w', S2 w' → w'.cell? (a15.add 2) = some (.map m30)) ∧
 Calls Tryz.prog 50 #[.slice l26.a l26.len l26.cap] w14 fun e w16 =>
 ∃ l33 : SV, e = .returned (.slice l33.a l33.len l33.cap) ∧
 S2 w16 ∧
 doE Tryz.prog (Instr.mapUpdate 55 (.map m30) (.string s25) (.slice l33.a l33.len l33.cap)) w16 fun w17 =>
 J1 () w17)
def F20_7 (R : Rt) (p0 : Option Addr) (p3 : Option Addr) (p21 : Option Addr) (ds : Ds) (w : World) : Prop :=
 loopT (fun (J1 : (Unit) → World → Prop) (_ : Unit) (w : World) => F20_6 R J1 p0 p3 p21 ds w) () w
@[reducible] def F20_8 (R : Rt) (p0 : Option Addr) (p3 : Option Addr) (p21 : Option Addr) (ds : Ds) (w : World) : Prop := F20_7 R p0 p3 p21 ds w
def F20_k11 (R : Rt) : EP := (fun ρ ds w => dPtr (ρ 0) fun p0 => dPtr (ρ 3) fun p3 => dPtr (ρ 21) fun p21 => F20_8 R p0 p3 p21 ds w)
def F20_9 (R : Rt) (p0 : Option Addr) (ds : Ds) (w : World) : Prop :=
 ∃ b8 : Bool, ∃ w18 : World, (eqS .eql 25 (.tmp 7) (.const (.pointer none)) (.pointer p0) (.pointer none)).run Tryz.prog w = .ok (.bool b8) w18 ∧
 Br b8 (
 runD Tryz.prog ds w18 fun w19 =>
 R (.returned (.pointer none)) w19) (
 ptrE p0 fun a20 =>
 Calls Tryz.prog 46 #[.pointer (some a20)] w18 fun e w21 =>
 e = .returned (.tuple #[]) ∧
 ptrE p0 fun a22 =>
 Calls Tryz.prog 9 #[] w21 fun e w23 =>
 ∃ p16 : Option Addr, e = .returned (.pointer p16) ∧
 ptrE p0 fun a24 =>
 ∃ m20 : Option Nat, w23.cell? (a24.add 2) = some (.map m20) ∧
 ∃ p21 : Option Addr, ∃ w25 : World, (Instr.range 55 (.map m20)).run Tryz.prog w23 = .ok (.pointer p21) w25 ∧
 F20_8 R p0 p16 p21 ({ target := .fn (.func 47) #[], args := #[.pointer (some a22)] } :: ds) w25)
theorem c20_l : flat (bodyOf Tryz.f20) = [c20_0, c20_1, c20_2, c20_3, c20_4, c20_5, c20_6, c20_7, c20_8, c20_9, c20_10, c20_11, c20_12] := by kernel_rfl
theorem c20_9_l : flat (innerC c20_9) = [c20_9_0] := by kernel_rfl
theorem c20_9_0_l : flat (innerC c20_9_0) = [c20_9_0_0, c20_9_0_1, c20_9_0_2, c20_9_0_3] := by kernel_rfl
theorem c20_7_l : flat (innerC c20_7) = [c20_7_0] := by kernel_rfl
theorem c20_7_0_l : flat (innerC c20_7_0) = [c20_7_0_0, c20_7_0_1, c20_7_0_2] := by kernel_rfl
theorem F20_1_ok (R : Rt) (p0 : Option Addr) (p3 : Option Addr) (ds : Ds) (w : World) (ρ : Env) (e0 : ρ 0 = .pointer p0) (e3 : ρ 3 = .pointer p3) (h : F20_1 R p0 p3 ds w) :
    TrL Tryz.prog Tryz.f20.ntmps [c20_10, c20_11, c20_12] (F20_q1 R) ρ ds w :=
  TrL_leaf (X := F20_1 R p0 p3 ds w) (setAll_cons e0 (setAll_cons e3 setAll_nil)) (by kernel_rfl) (by kernel_rfl) h
theorem F20_2_ok (R : Rt) (J1 : (Int) → World → Prop) (p0 : Option Addr) (p3 : Option Addr) (n34 : Int) (ds : Ds) (w : World) (ρ : Env) (e0 : ρ 0 = .pointer p0) (e3 : ρ 3 = .pointer p3) (e34 : ρ 34 = .int .i64 n34) (h : F20_2 R J1 p0 p3 n34 ds w) :
    TrL Tryz.prog Tryz.f20.ntmps [c20_9_0_0, c20_9_0_1, c20_9_0_2, c20_9_0_3] (F20_q5 R J1) ρ ds w :=
  TrL_leaf (X := F20_2 R J1 p0 p3 n34 ds w) (setAll_cons e0 (setAll_cons e3 (setAll_cons e34 setAll_nil))) (by kernel_rfl) (by kernel_rfl) h
theorem F20_3_ok (R : Rt) (p0 : Option Addr) (p3 : Option Addr) (n34 : Int) (ds : Ds) (w : World) (ρ : Env) (e0 : ρ 0 = .pointer p0) (e3 : ρ 3 = .pointer p3) (e34 : ρ 34 = .int .i64 n34) (h : F20_3 R p0 p3 n34 ds w) :
    TrL Tryz.prog Tryz.f20.ntmps [c20_9_0] (F20_q4 R) ρ ds w :=
  TrL_one (Tr_loop' (c := innerC c20_9_0) (σ := Int) (enc := (fun (s : Int) (ρ : Env) => ρ 34 = .int .i64 s)) (D := (fun ρ K => dInt .i64 (ρ 34) fun n34 => K n34)) (F := (fun (J1 : (Int) → World → Prop) (s : Int) (w : World) => F20_2 R J1 p0 p3 s ds w)) (s0 := n34) (by kernel_rfl) c20_9_0_l e34 (by kernel_rfl) (fun ρ K hD => by obtain ⟨n34, e34, hD⟩ := dInt_elim hD; exact ⟨n34, e34, hD⟩)
      (fun J1 s ρ' w' he ha hF => by
      have e34' := he
      exact F20_2_ok R J1 p0 p3 s ds w' ρ' ((ha 0 (by kernel_rfl)).trans e0) ((ha 3 (by kernel_rfl)).trans e3) e34' hF) h)
theorem F20_4_ok (R : Rt) (p0 : Option Addr) (p3 : Option Addr) (n34 : Int) (ds : Ds) (w : World) (ρ : Env) (e0 : ρ 0 = .pointer p0) (e3 : ρ 3 = .pointer p3) (e34 : ρ 34 = .int .i64 n34) (h : F20_4 R p0 p3 n34 ds w) :
    TrL Tryz.prog Tryz.f20.ntmps [c20_9, c20_10, c20_11, c20_12] (F20_q1 R) ρ ds w :=
  TrL_head (K := (F20_k2 R)) (Tr_block' (c := innerC c20_9) (by kernel_rfl) c20_9_l (F20_3_ok R p0 p3 n34 ds w ρ e0 e3 e34 h))
    (fun ρ' ds' w' hD => by
      obtain ⟨p0, e0, hD⟩ := dPtr_elim hD; obtain ⟨p3, e3, hD⟩ := dPtr_elim hD; exact F20_1_ok R p0 p3 ds' w' ρ' e0 e3 hD)
theorem F20_5_ok (R : Rt) (p0 : Option Addr) (p3 : Option Addr) (ds : Ds) (w : World) (ρ : Env) (e0 : ρ 0 = .pointer p0) (e3 : ρ 3 = .pointer p3) (h : F20_5 R p0 p3 ds w) :
    TrL Tryz.prog Tryz.f20.ntmps [c20_8, c20_9, c20_10, c20_11, c20_12] (F20_q1 R) ρ ds w :=
  TrL_piece (pre := [c20_8]) (K := (F20_k6 R)) (X := F20_5 R p0 p3 ds w) (setAll_cons e0 (setAll_cons e3 setAll_nil)) (by kernel_rfl) (by kernel_rfl)
    (fun ρ' ds' w' hD => by
      obtain ⟨p0, e0, hD⟩ := dPtr_elim hD; obtain ⟨p3, e3, hD⟩ := dPtr_elim hD; obtain ⟨n34, e34, hD⟩ := dInt_elim hD; exact F20_4_ok R p0 p3 n34 ds' w' ρ' e0 e3 e34 hD) h
theorem F20_6_ok (R : Rt) (J1 : (Unit) → World → Prop) (p0 : Option Addr) (p3 : Option Addr) (p21 : Option Addr) (ds : Ds) (w : World) (ρ : Env) (e0 : ρ 0 = .pointer p0) (e3 : ρ 3 = .pointer p3) (e21 : ρ 21 = .pointer p21) (h : F20_6 R J1 p0 p3 p21 ds w) :
    TrL Tryz.prog Tryz.f20.ntmps [c20_7_0_0, c20_7_0_1, c20_7_0_2] (F20_q10 R J1) ρ ds w :=
  TrL_leaf (X := F20_6 R J1 p0 p3 p21 ds w) (setAll_cons e0 (setAll_cons e3 (setAll_cons e21 setAll_nil))) (by kernel_rfl) (by kernel_rfl) h
theorem F20_7_ok (R : Rt) (p0 : Option Addr) (p3 : Option Addr) (p21 : Option Addr) (ds : Ds) (w : World) (ρ : Env) (e0 : ρ 0 = .pointer p0) (e3 : ρ 3 = .pointer p3) (e21 : ρ 21 = .pointer p21) (h : F20_7 R p0 p3 p21 ds w) :
    TrL Tryz.prog Tryz.f20.ntmps [c20_7_0] (F20_q9 R) ρ ds w :=
  TrL_one (Tr_loop' (c := innerC c20_7_0) (σ := Unit) (enc := (fun (_ : Unit) (_ : Env) => True)) (D := (fun ρ K => K ())) (F := (fun (J1 : (Unit) → World → Prop) (_ : Unit) (w : World) => F20_6 R J1 p0 p3 p21 ds w)) (s0 := ()) (by kernel_rfl) c20_7_0_l trivial (by kernel_rfl) (fun ρ K hD => by exact ⟨(), trivial, hD⟩)
      (fun J1 _ ρ' w' he ha hF => by
      skip
      exact F20_6_ok R J1 p0 p3 p21 ds w' ρ' ((ha 0 (by kernel_rfl)).trans e0) ((ha 3 (by kernel_rfl)).trans e3) ((ha 21 (by kernel_rfl)).trans e21) hF) h)
theorem F20_8_ok (R : Rt) (p0 : Option Addr) (p3 : Option Addr) (p21 : Option Addr) (ds : Ds) (w : World) (ρ : Env) (e0 : ρ 0 = .pointer p0) (e3 : ρ 3 = .pointer p3) (e21 : ρ 21 = .pointer p21) (h : F20_8 R p0 p3 p21 ds w) :
    TrL Tryz.prog Tryz.f20.ntmps [c20_7, c20_8, c20_9, c20_10, c20_11, c20_12] (F20_q1 R) ρ ds w :=
  TrL_head (K := (F20_k7 R)) (Tr_block' (c := innerC c20_7) (by kernel_rfl) c20_7_l (F20_7_ok R p0 p3 p21 ds w ρ e0 e3 e21 h))
    (fun ρ' ds' w' hD => by
      obtain ⟨p0, e0, hD⟩ := dPtr_elim hD; obtain ⟨p3, e3, hD⟩ := dPtr_elim hD; exact F20_5_ok R p0 p3 ds' w' ρ' e0 e3 hD)
theorem F20_9_ok (R : Rt) (p0 : Option Addr) (ds : Ds) (w : World) (ρ : Env) (e0 : ρ 0 = .pointer p0) (h : F20_9 R p0 ds w) :
    TrL Tryz.prog Tryz.f20.ntmps [c20_0, c20_1, c20_2, c20_3, c20_4, c20_5, c20_6, c20_7, c20_8, c20_9, c20_10, c20_11, c20_12] (F20_q1 R) ρ ds w :=
  TrL_piece (pre := [c20_0, c20_1, c20_2, c20_3, c20_4, c20_5, c20_6]) (K := (F20_k11 R)) (X := F20_9 R p0 ds w) (setAll_cons e0 setAll_nil) (by kernel_rfl) (by kernel_rfl)
    (fun ρ' ds' w' hD => by
      obtain ⟨p0, e0, hD⟩ := dPtr_elim hD; obtain ⟨p3, e3, hD⟩ := dPtr_elim hD; obtain ⟨p21, e21, hD⟩ := dPtr_elim hD; exact F20_8_ok R p0 p3 p21 ds' w' ρ' e0 e3 e21 hD) h
theorem F20_calls (p0 : Option Addr) (w : World) (R : Rt) (h : F20_9 R p0 [] w) : Calls Tryz.prog 20 #[.pointer p0] w R :=
  calls_of_L (l := [c20_0, c20_1, c20_2, c20_3, c20_4, c20_5, c20_6, c20_7, c20_8, c20_9, c20_10, c20_11, c20_12]) Tryz.func20 (by kernel_rfl) (by rw [Tryz.ntmps20]; exact Nat.le_of_ble_eq_true (by kernel_rfl)) c20_l
    (F20_9_ok R p0 [] w _ rfl h)

end Go.Proofs.YtnigfiljenfgjaaGreat
