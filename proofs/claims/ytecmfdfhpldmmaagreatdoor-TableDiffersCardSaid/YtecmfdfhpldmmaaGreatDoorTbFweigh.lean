import Derived.Test.YtecmfdfhpldmmaaGreatDoorProg
import Derived.Test.YtecmfdfhpldmmaaGreatDoorShEight
/- Shallow texts of functions, printed by program, each checked by the kernel against the loaded code. No condition. -/
set_option maxRecDepth 100000
set_option linter.unusedVariables false
namespace Go.Proofs.YtecmfdfhpldmmaaGreatDoor
open Go.Sh
/-! function 16: cabinetry/cabinetrylaw03.over -/
noncomputable def c16_0 : Code := itemAt (flat (bodyOf Tryz.f16)) 0
noncomputable def c16_1 : Code := itemAt (flat (bodyOf Tryz.f16)) 1
noncomputable def c16_2 : Code := itemAt (flat (bodyOf Tryz.f16)) 2
def F16_q1 (R : Rt) : EQ := endQ Tryz.prog Tryz.f16.results.toList R
def F16_1 (R : Rt) (n0_0 : Int) (l0_1 : SV) (l0_2 : SV) (ds : Ds) (w : World) : Prop :=
 alE (.cells #[.int .i64 n0_0, .slice l0_1.a l0_1.len l0_1.cap, .slice l0_2.a l0_2.len l0_2.cap] 35) w fun r1 w1 =>
 ∃ n3_0 : Int, w1.cell? ((⟨r1, 0, none⟩ : Addr).add 0) = some (.int .i64 n3_0) ∧
 ∃ l3_1 : SV, w1.cell? ((⟨r1, 0, none⟩ : Addr).add 1) = some (.slice l3_1.a l3_1.len l3_1.cap) ∧
 ∃ l3_2 : SV, w1.cell? ((⟨r1, 0, none⟩ : Addr).add 2) = some (.slice l3_2.a l3_2.len l3_2.cap) ∧
 Calls Tryz.prog 24 #[.agg #[.int .i64 n3_0, .slice l3_1.a l3_1.len l3_1.cap, .slice l3_2.a l3_2.len l3_2.cap]] w1 fun e w2 =>
 ∃ n4 : Int, e = .returned (.int .i64 n4) ∧
 runD Tryz.prog ds w2 fun w3 =>
 R (.returned (.bool (decide (n4 > 2000000)))) w3
theorem c16_l : flat (bodyOf Tryz.f16) = [c16_0, c16_1, c16_2] := by kernel_rfl
theorem F16_1_ok (R : Rt) (n0_0 : Int) (l0_1 : SV) (l0_2 : SV) (ds : Ds) (w : World) (ρ : Env) (e0 : ρ 0 = .agg #[.int .i64 n0_0, .slice l0_1.a l0_1.len l0_1.cap, .slice l0_2.a l0_2.len l0_2.cap]) (h : F16_1 R n0_0 l0_1 l0_2 ds w) :
    TrL Tryz.prog Tryz.f16.ntmps [c16_0, c16_1, c16_2] (F16_q1 R) ρ ds w :=
  TrL_leaf (X := F16_1 R n0_0 l0_1 l0_2 ds w) (setAll_cons e0 setAll_nil) (by kernel_rfl) (by kernel_rfl) h
theorem F16_calls (n0_0 : Int) (l0_1 : SV) (l0_2 : SV) (w : World) (R : Rt) (h : F16_1 R n0_0 l0_1 l0_2 [] w) : Calls Tryz.prog 16 #[.agg #[.int .i64 n0_0, .slice l0_1.a l0_1.len l0_1.cap, .slice l0_2.a l0_2.len l0_2.cap]] w R :=
  calls_of_L (l := [c16_0, c16_1, c16_2]) Tryz.func16 (by kernel_rfl) (by rw [Tryz.ntmps16]; exact Nat.le_of_ble_eq_true (by kernel_rfl)) c16_l
    (F16_1_ok R n0_0 l0_1 l0_2 [] w _ rfl h)
theorem F16_callsD (n0_0 : Int) (l0_1 : SV) (l0_2 : SV) (w : World) (R : Rt) (u : FrameMode) (h : F16_1 R n0_0 l0_1 l0_2 [] w) : CallsD Tryz.prog 16 #[.agg #[.int .i64 n0_0, .slice l0_1.a l0_1.len l0_1.cap, .slice l0_2.a l0_2.len l0_2.cap]] u w fun e u' w' => u' = u ∧ R e w' :=
  callsD_of_L (l := [c16_0, c16_1, c16_2]) Tryz.func16 (by kernel_rfl) (by rw [Tryz.ntmps16]; exact Nat.le_of_ble_eq_true (by kernel_rfl)) (by kernel_rfl) c16_l
    (F16_1_ok R n0_0 l0_1 l0_2 [] w _ rfl h) u

/-! function 24: cabinetry/cabinetryref03.Weight -/
noncomputable def c24_0 : Code := itemAt (flat (bodyOf Tryz.f24)) 0
noncomputable def c24_1 : Code := itemAt (flat (bodyOf Tryz.f24)) 1
noncomputable def c24_2 : Code := itemAt (flat (bodyOf Tryz.f24)) 2
noncomputable def c24_3 : Code := itemAt (flat (bodyOf Tryz.f24)) 3
noncomputable def c24_4 : Code := itemAt (flat (bodyOf Tryz.f24)) 4
noncomputable def c24_5 : Code := itemAt (flat (bodyOf Tryz.f24)) 5
noncomputable def c24_6 : Code := itemAt (flat (bodyOf Tryz.f24)) 6
noncomputable def c24_7 : Code := itemAt (flat (bodyOf Tryz.f24)) 7
noncomputable def c24_5_0 : Code := itemAt (flat (innerC c24_5)) 0
noncomputable def c24_5_0_0 : Code := itemAt (flat (innerC c24_5_0)) 0
noncomputable def c24_5_0_1 : Code := itemAt (flat (innerC c24_5_0)) 1
noncomputable def c24_5_0_2 : Code := itemAt (flat (innerC c24_5_0)) 2
noncomputable def c24_5_0_3 : Code := itemAt (flat (innerC c24_5_0)) 3
noncomputable def c24_3_0 : Code := itemAt (flat (innerC c24_3)) 0
noncomputable def c24_3_0_0 : Code := itemAt (flat (innerC c24_3_0)) 0
noncomputable def c24_3_0_1 : Code := itemAt (flat (innerC c24_3_0)) 1
noncomputable def c24_3_0_2 : Code := itemAt (flat (innerC c24_3_0)) 2
noncomputable def c24_3_0_3 : Code := itemAt (flat (innerC c24_3_0)) 3
def F24_q1 (R : Rt) : EQ := endQ Tryz.prog Tryz.f24.results.toList R
def F24_1 (R : Rt) (n3 : Int) (ds : Ds) (w : World) : Prop :=
 runD Tryz.prog ds w fun w1 =>
 R (.returned (.int .i64 n3)) w1
def F24_k2 (R : Rt) : EP := (fun ρ ds w => dInt .i64 (ρ 3) fun n3 => F24_1 R n3 ds w)
def F24_q3 (R : Rt) : EQ := (thenQ (F24_k2 R) (F24_q1 R))
def F24_q4 (R : Rt) : EQ := (blockQ 2 (F24_q3 R))
def F24_q5 (R : Rt) (J1 : (Int × Int) → World → Prop) : EQ := (thenQ (fun ρ _ w => dInt .i64 (ρ 3) fun n3 => dInt .i64 (ρ 5) fun n5 => J1 (n3, n5) w) (F24_q4 R))
def F24_2 (R : Rt) (J1 : (Int × Int) → World → Prop) (p1 : Option Addr) (n3 : Int) (n5 : Int) (ds : Ds) (w : World) : Prop :=
 ptrE p1 fun a2 =>
 ∃ l28 : SV, w.cell? (a2.add 2) = some (.slice l28.a l28.len l28.cap) ∧
 Br (decide (n5 < ((l28.len : Nat) : Int))) (
 ptrE p1 fun a3 =>
 ∃ l35 : SV, w.cell? (a3.add 2) = some (.slice l35.a l35.len l35.cap) ∧
 ∃ a4 : Addr, l35.a = some a4 ∧ 0 ≤ n5 ∧ n5 < ((l35.len : Nat) : Int) ∧
 ∃ l39 : SV, w.cell? ((a4.add (n5.toNat * 2)).add 1) = some (.slice l39.a l39.len l39.cap) ∧
 Calls Tryz.prog 64 #[.slice l39.a l39.len l39.cap] w fun e w5 =>
 ∃ n40 : Int, e = .returned (.int .i64 n40) ∧
 J1 ((IntKind.i64.wrap (n3 + (IntKind.i64.wrap ((8 : Int) + n40)))), (IntKind.i64.wrap (n5 + 1))) w5) (
 F24_1 R n3 ds w)
def F24_3 (R : Rt) (p1 : Option Addr) (n3 : Int) (n5 : Int) (ds : Ds) (w : World) : Prop :=
 loopT (fun (J1 : (Int × Int) → World → Prop) (s : Int × Int) (w : World) => F24_2 R J1 p1 s.1 s.2 ds w) (n3, n5) w
@[reducible] def F24_4 (R : Rt) (p1 : Option Addr) (n3 : Int) (n5 : Int) (ds : Ds) (w : World) : Prop := F24_3 R p1 n3 n5 ds w
def F24_k6 (R : Rt) : EP := (fun ρ ds w => dPtr (ρ 1) fun p1 => dInt .i64 (ρ 3) fun n3 => dInt .i64 (ρ 5) fun n5 => F24_4 R p1 n3 n5 ds w)
def F24_5 (R : Rt) (p1 : Option Addr) (n3 : Int) (ds : Ds) (w : World) : Prop :=
 F24_4 R p1 n3 0 ds w
def F24_k7 (R : Rt) : EP := (fun ρ ds w => dPtr (ρ 1) fun p1 => dInt .i64 (ρ 3) fun n3 => F24_5 R p1 n3 ds w)
def F24_q8 (R : Rt) : EQ := (thenQ (F24_k7 R) (F24_q1 R))
def F24_q9 (R : Rt) : EQ := (blockQ 0 (F24_q8 R))
def F24_q10 (R : Rt) (J1 : (Int × Int) → World → Prop) : EQ := (thenQ (fun ρ _ w => dInt .i64 (ρ 3) fun n3 => dInt .i64 (ρ 4) fun n4 => J1 (n3, n4) w) (F24_q9 R))
def F24_6 (R : Rt) (J1 : (Int × Int) → World → Prop) (p1 : Option Addr) (n3 : Int) (n4 : Int) (ds : Ds) (w : World) : Prop :=
 ptrE p1 fun a6 =>
 ∃ l12 : SV, w.cell? (a6.add 1) = some (.slice l12.a l12.len l12.cap) ∧
 Br (decide (n4 < ((l12.len : Nat) : Int))) (
 ptrE p1 fun a7 =>
 ∃ l19 : SV, w.cell? (a7.add 1) = some (.slice l19.a l19.len l19.cap) ∧
 ∃ a8 : Addr, l19.a = some a8 ∧ 0 ≤ n4 ∧ n4 < ((l19.len : Nat) : Int) ∧
 ∃ s23 : ByteArray, w.cell? (a8.add (n4.toNat * 4)) = some (.string s23) ∧
 J1 ((IntKind.i64.wrap (n3 + ((s23.size : Nat) : Int))), (IntKind.i64.wrap (n4 + 1))) w) (
 F24_5 R p1 n3 ds w)
def F24_7 (R : Rt) (p1 : Option Addr) (n3 : Int) (n4 : Int) (ds : Ds) (w : World) : Prop :=
 loopT (fun (J1 : (Int × Int) → World → Prop) (s : Int × Int) (w : World) => F24_6 R J1 p1 s.1 s.2 ds w) (n3, n4) w
@[reducible] def F24_8 (R : Rt) (p1 : Option Addr) (n3 : Int) (n4 : Int) (ds : Ds) (w : World) : Prop := F24_7 R p1 n3 n4 ds w
def F24_k11 (R : Rt) : EP := (fun ρ ds w => dPtr (ρ 1) fun p1 => dInt .i64 (ρ 3) fun n3 => dInt .i64 (ρ 4) fun n4 => F24_8 R p1 n3 n4 ds w)
def F24_9 (R : Rt) (n0_0 : Int) (l0_1 : SV) (l0_2 : SV) (ds : Ds) (w : World) : Prop :=
 alE (.cells #[.int .i64 n0_0, .slice l0_1.a l0_1.len l0_1.cap, .slice l0_2.a l0_2.len l0_2.cap] 35) w fun r1 w9 =>
 ∃ l7 : SV, w9.cell? ((⟨r1, 0, none⟩ : Addr).add 1) = some (.slice l7.a l7.len l7.cap) ∧
 F24_8 R (some (⟨r1, 0, none⟩ : Addr)) (IntKind.i64.wrap ((16 : Int) * ((l7.len : Nat) : Int))) 0 ds w9
theorem c24_l : flat (bodyOf Tryz.f24) = [c24_0, c24_1, c24_2, c24_3, c24_4, c24_5, c24_6, c24_7] := by kernel_rfl
theorem c24_5_l : flat (innerC c24_5) = [c24_5_0] := by kernel_rfl
theorem c24_5_0_l : flat (innerC c24_5_0) = [c24_5_0_0, c24_5_0_1, c24_5_0_2, c24_5_0_3] := by kernel_rfl
theorem c24_3_l : flat (innerC c24_3) = [c24_3_0] := by kernel_rfl
theorem c24_3_0_l : flat (innerC c24_3_0) = [c24_3_0_0, c24_3_0_1, c24_3_0_2, c24_3_0_3] := by kernel_rfl
theorem F24_1_ok (R : Rt) (n3 : Int) (ds : Ds) (w : World) (ρ : Env) (e3 : ρ 3 = .int .i64 n3) (h : F24_1 R n3 ds w) :
    TrL Tryz.prog Tryz.f24.ntmps [c24_6, c24_7] (F24_q1 R) ρ ds w :=
  TrL_leaf (X := F24_1 R n3 ds w) (setAll_cons e3 setAll_nil) (by kernel_rfl) (by kernel_rfl) h
theorem F24_2_ok (R : Rt) (J1 : (Int × Int) → World → Prop) (p1 : Option Addr) (n3 : Int) (n5 : Int) (ds : Ds) (w : World) (ρ : Env) (e1 : ρ 1 = .pointer p1) (e3 : ρ 3 = .int .i64 n3) (e5 : ρ 5 = .int .i64 n5) (h : F24_2 R J1 p1 n3 n5 ds w) :
    TrL Tryz.prog Tryz.f24.ntmps [c24_5_0_0, c24_5_0_1, c24_5_0_2, c24_5_0_3] (F24_q5 R J1) ρ ds w :=
  TrL_leaf (X := F24_2 R J1 p1 n3 n5 ds w) (setAll_cons e1 (setAll_cons e3 (setAll_cons e5 setAll_nil))) (by kernel_rfl) (by kernel_rfl) h
theorem F24_3_ok (R : Rt) (p1 : Option Addr) (n3 : Int) (n5 : Int) (ds : Ds) (w : World) (ρ : Env) (e1 : ρ 1 = .pointer p1) (e3 : ρ 3 = .int .i64 n3) (e5 : ρ 5 = .int .i64 n5) (h : F24_3 R p1 n3 n5 ds w) :
    TrL Tryz.prog Tryz.f24.ntmps [c24_5_0] (F24_q4 R) ρ ds w :=
  TrL_one (Tr_loop' (c := innerC c24_5_0) (σ := Int × Int) (enc := (fun (s : Int × Int) (ρ : Env) => ρ 3 = .int .i64 s.1 ∧ ρ 5 = .int .i64 s.2)) (D := (fun ρ K => dInt .i64 (ρ 3) fun n3 => dInt .i64 (ρ 5) fun n5 => K (n3, n5))) (F := (fun (J1 : (Int × Int) → World → Prop) (s : Int × Int) (w : World) => F24_2 R J1 p1 s.1 s.2 ds w)) (s0 := (n3, n5)) (by kernel_rfl) c24_5_0_l ⟨e3, e5⟩ (by kernel_rfl) (fun ρ K hD => by obtain ⟨n3, e3, hD⟩ := dInt_elim hD; obtain ⟨n5, e5, hD⟩ := dInt_elim hD; exact ⟨(n3, n5), ⟨e3, e5⟩, hD⟩)
      (fun J1 s ρ' w' he ha hF => by
      obtain ⟨e3', e5'⟩ := he
      exact F24_2_ok R J1 p1 s.1 s.2 ds w' ρ' ((ha 1 (by kernel_rfl)).trans e1) e3' e5' hF) h)
theorem F24_4_ok (R : Rt) (p1 : Option Addr) (n3 : Int) (n5 : Int) (ds : Ds) (w : World) (ρ : Env) (e1 : ρ 1 = .pointer p1) (e3 : ρ 3 = .int .i64 n3) (e5 : ρ 5 = .int .i64 n5) (h : F24_4 R p1 n3 n5 ds w) :
    TrL Tryz.prog Tryz.f24.ntmps [c24_5, c24_6, c24_7] (F24_q1 R) ρ ds w :=
  TrL_head (K := (F24_k2 R)) (Tr_block' (c := innerC c24_5) (by kernel_rfl) c24_5_l (F24_3_ok R p1 n3 n5 ds w ρ e1 e3 e5 h))
    (fun ρ' ds' w' hD => by
      obtain ⟨n3, e3, hD⟩ := dInt_elim hD; exact F24_1_ok R n3 ds' w' ρ' e3 hD)
theorem F24_5_ok (R : Rt) (p1 : Option Addr) (n3 : Int) (ds : Ds) (w : World) (ρ : Env) (e1 : ρ 1 = .pointer p1) (e3 : ρ 3 = .int .i64 n3) (h : F24_5 R p1 n3 ds w) :
    TrL Tryz.prog Tryz.f24.ntmps [c24_4, c24_5, c24_6, c24_7] (F24_q1 R) ρ ds w :=
  TrL_piece (pre := [c24_4]) (K := (F24_k6 R)) (X := F24_5 R p1 n3 ds w) (setAll_cons e1 (setAll_cons e3 setAll_nil)) (by kernel_rfl) (by kernel_rfl)
    (fun ρ' ds' w' hD => by
      obtain ⟨p1, e1, hD⟩ := dPtr_elim hD; obtain ⟨n3, e3, hD⟩ := dInt_elim hD; obtain ⟨n5, e5, hD⟩ := dInt_elim hD; exact F24_4_ok R p1 n3 n5 ds' w' ρ' e1 e3 e5 hD) h
theorem F24_6_ok (R : Rt) (J1 : (Int × Int) → World → Prop) (p1 : Option Addr) (n3 : Int) (n4 : Int) (ds : Ds) (w : World) (ρ : Env) (e1 : ρ 1 = .pointer p1) (e3 : ρ 3 = .int .i64 n3) (e4 : ρ 4 = .int .i64 n4) (h : F24_6 R J1 p1 n3 n4 ds w) :
    TrL Tryz.prog Tryz.f24.ntmps [c24_3_0_0, c24_3_0_1, c24_3_0_2, c24_3_0_3] (F24_q10 R J1) ρ ds w :=
  TrL_leaf (X := F24_6 R J1 p1 n3 n4 ds w) (setAll_cons e1 (setAll_cons e3 (setAll_cons e4 setAll_nil))) (by kernel_rfl) (by kernel_rfl) h
theorem F24_7_ok (R : Rt) (p1 : Option Addr) (n3 : Int) (n4 : Int) (ds : Ds) (w : World) (ρ : Env) (e1 : ρ 1 = .pointer p1) (e3 : ρ 3 = .int .i64 n3) (e4 : ρ 4 = .int .i64 n4) (h : F24_7 R p1 n3 n4 ds w) :
    TrL Tryz.prog Tryz.f24.ntmps [c24_3_0] (F24_q9 R) ρ ds w :=
  TrL_one (Tr_loop' (c := innerC c24_3_0) (σ := Int × Int) (enc := (fun (s : Int × Int) (ρ : Env) => ρ 3 = .int .i64 s.1 ∧ ρ 4 = .int .i64 s.2)) (D := (fun ρ K => dInt .i64 (ρ 3) fun n3 => dInt .i64 (ρ 4) fun n4 => K (n3, n4))) (F := (fun (J1 : (Int × Int) → World → Prop) (s : Int × Int) (w : World) => F24_6 R J1 p1 s.1 s.2 ds w)) (s0 := (n3, n4)) (by kernel_rfl) c24_3_0_l ⟨e3, e4⟩ (by kernel_rfl) (fun ρ K hD => by obtain ⟨n3, e3, hD⟩ := dInt_elim hD; obtain ⟨n4, e4, hD⟩ := dInt_elim hD; exact ⟨(n3, n4), ⟨e3, e4⟩, hD⟩)
      (fun J1 s ρ' w' he ha hF => by
      obtain ⟨e3', e4'⟩ := he
      exact F24_6_ok R J1 p1 s.1 s.2 ds w' ρ' ((ha 1 (by kernel_rfl)).trans e1) e3' e4' hF) h)
theorem F24_8_ok (R : Rt) (p1 : Option Addr) (n3 : Int) (n4 : Int) (ds : Ds) (w : World) (ρ : Env) (e1 : ρ 1 = .pointer p1) (e3 : ρ 3 = .int .i64 n3) (e4 : ρ 4 = .int .i64 n4) (h : F24_8 R p1 n3 n4 ds w) :
    TrL Tryz.prog Tryz.f24.ntmps [c24_3, c24_4, c24_5, c24_6, c24_7] (F24_q1 R) ρ ds w :=
  TrL_head (K := (F24_k7 R)) (Tr_block' (c := innerC c24_3) (by kernel_rfl) c24_3_l (F24_7_ok R p1 n3 n4 ds w ρ e1 e3 e4 h))
    (fun ρ' ds' w' hD => by
      obtain ⟨p1, e1, hD⟩ := dPtr_elim hD; obtain ⟨n3, e3, hD⟩ := dInt_elim hD; exact F24_5_ok R p1 n3 ds' w' ρ' e1 e3 hD)
theorem F24_9_ok (R : Rt) (n0_0 : Int) (l0_1 : SV) (l0_2 : SV) (ds : Ds) (w : World) (ρ : Env) (e0 : ρ 0 = .agg #[.int .i64 n0_0, .slice l0_1.a l0_1.len l0_1.cap, .slice l0_2.a l0_2.len l0_2.cap]) (h : F24_9 R n0_0 l0_1 l0_2 ds w) :
    TrL Tryz.prog Tryz.f24.ntmps [c24_0, c24_1, c24_2, c24_3, c24_4, c24_5, c24_6, c24_7] (F24_q1 R) ρ ds w :=
  TrL_piece (pre := [c24_0, c24_1, c24_2]) (K := (F24_k11 R)) (X := F24_9 R n0_0 l0_1 l0_2 ds w) (setAll_cons e0 setAll_nil) (by kernel_rfl) (by kernel_rfl)
    (fun ρ' ds' w' hD => by
      obtain ⟨p1, e1, hD⟩ := dPtr_elim hD; obtain ⟨n3, e3, hD⟩ := dInt_elim hD; obtain ⟨n4, e4, hD⟩ := dInt_elim hD; exact F24_8_ok R p1 n3 n4 ds' w' ρ' e1 e3 e4 hD) h
theorem F24_calls (n0_0 : Int) (l0_1 : SV) (l0_2 : SV) (w : World) (R : Rt) (h : F24_9 R n0_0 l0_1 l0_2 [] w) : Calls Tryz.prog 24 #[.agg #[.int .i64 n0_0, .slice l0_1.a l0_1.len l0_1.cap, .slice l0_2.a l0_2.len l0_2.cap]] w R :=
  calls_of_L (l := [c24_0, c24_1, c24_2, c24_3, c24_4, c24_5, c24_6, c24_7]) Tryz.func24 (by kernel_rfl) (by rw [Tryz.ntmps24]; exact Nat.le_of_ble_eq_true (by kernel_rfl)) c24_l
    (F24_9_ok R n0_0 l0_1 l0_2 [] w _ rfl h)
theorem F24_callsD (n0_0 : Int) (l0_1 : SV) (l0_2 : SV) (w : World) (R : Rt) (u : FrameMode) (h : F24_9 R n0_0 l0_1 l0_2 [] w) : CallsD Tryz.prog 24 #[.agg #[.int .i64 n0_0, .slice l0_1.a l0_1.len l0_1.cap, .slice l0_2.a l0_2.len l0_2.cap]] u w fun e u' w' => u' = u ∧ R e w' :=
  callsD_of_L (l := [c24_0, c24_1, c24_2, c24_3, c24_4, c24_5, c24_6, c24_7]) Tryz.func24 (by kernel_rfl) (by rw [Tryz.ntmps24]; exact Nat.le_of_ble_eq_true (by kernel_rfl)) (by kernel_rfl) c24_l
    (F24_9_ok R n0_0 l0_1 l0_2 [] w _ rfl h) u

/-! function 64: cabinetry/cabinetryref03.WeightOf -/
noncomputable def c64_0 : Code := itemAt (flat (bodyOf Tryz.f64)) 0
noncomputable def c64_1 : Code := itemAt (flat (bodyOf Tryz.f64)) 1
noncomputable def c64_2 : Code := itemAt (flat (bodyOf Tryz.f64)) 2
noncomputable def c64_3 : Code := itemAt (flat (bodyOf Tryz.f64)) 3
noncomputable def c64_4 : Code := itemAt (flat (bodyOf Tryz.f64)) 4
noncomputable def c64_5 : Code := itemAt (flat (bodyOf Tryz.f64)) 5
noncomputable def c64_3_0 : Code := itemAt (flat (innerC c64_3)) 0
noncomputable def c64_3_0_0 : Code := itemAt (flat (innerC c64_3_0)) 0
noncomputable def c64_3_0_1 : Code := itemAt (flat (innerC c64_3_0)) 1
noncomputable def c64_3_0_2 : Code := itemAt (flat (innerC c64_3_0)) 2
noncomputable def c64_3_0_3 : Code := itemAt (flat (innerC c64_3_0)) 3
def F64_q1 (R : Rt) : EQ := endQ Tryz.prog Tryz.f64.results.toList R
def F64_1 (R : Rt) (n3 : Int) (ds : Ds) (w : World) : Prop :=
 runD Tryz.prog ds w fun w1 =>
 R (.returned (.int .i64 n3)) w1
def F64_k2 (R : Rt) : EP := (fun ρ ds w => dInt .i64 (ρ 3) fun n3 => F64_1 R n3 ds w)
def F64_q3 (R : Rt) : EQ := (thenQ (F64_k2 R) (F64_q1 R))
def F64_q4 (R : Rt) : EQ := (blockQ 0 (F64_q3 R))
def F64_q5 (R : Rt) (J1 : (Int × Int) → World → Prop) : EQ := (thenQ (fun ρ _ w => dInt .i64 (ρ 3) fun n3 => dInt .i64 (ρ 4) fun n4 => J1 (n3, n4) w) (F64_q4 R))
def F64_2 (R : Rt) (J1 : (Int × Int) → World → Prop) (l0 : SV) (n3 : Int) (n4 : Int) (ds : Ds) (w : World) : Prop :=
 Br (decide (n4 < ((l0.len : Nat) : Int))) (
 ∃ a2 : Addr, l0.a = some a2 ∧ 0 ≤ n4 ∧ n4 < ((l0.len : Nat) : Int) ∧
 ∃ s19 : ByteArray, w.cell? ((a2.add (n4.toNat * 3)).add 2) = some (.string s19) ∧
 J1 ((IntKind.i64.wrap (n3 + ((s19.size : Nat) : Int))), (IntKind.i64.wrap (n4 + 1))) w) (
 F64_1 R n3 ds w)
def F64_3 (R : Rt) (l0 : SV) (n3 : Int) (n4 : Int) (ds : Ds) (w : World) : Prop :=
 loopT (fun (J1 : (Int × Int) → World → Prop) (s : Int × Int) (w : World) => F64_2 R J1 l0 s.1 s.2 ds w) (n3, n4) w
@[reducible] def F64_4 (R : Rt) (l0 : SV) (n3 : Int) (n4 : Int) (ds : Ds) (w : World) : Prop := F64_3 R l0 n3 n4 ds w
def F64_k6 (R : Rt) : EP := (fun ρ ds w => dSl (ρ 0) fun l0 => dInt .i64 (ρ 3) fun n3 => dInt .i64 (ρ 4) fun n4 => F64_4 R l0 n3 n4 ds w)
def F64_5 (R : Rt) (l0 : SV) (ds : Ds) (w : World) : Prop :=
 F64_4 R l0 (IntKind.i64.wrap ((8 : Int) * ((l0.len : Nat) : Int))) 0 ds w
theorem c64_l : flat (bodyOf Tryz.f64) = [c64_0, c64_1, c64_2, c64_3, c64_4, c64_5] := by kernel_rfl
theorem c64_3_l : flat (innerC c64_3) = [c64_3_0] := by kernel_rfl
theorem c64_3_0_l : flat (innerC c64_3_0) = [c64_3_0_0, c64_3_0_1, c64_3_0_2, c64_3_0_3] := by kernel_rfl
theorem F64_1_ok (R : Rt) (n3 : Int) (ds : Ds) (w : World) (ρ : Env) (e3 : ρ 3 = .int .i64 n3) (h : F64_1 R n3 ds w) :
    TrL Tryz.prog Tryz.f64.ntmps [c64_4, c64_5] (F64_q1 R) ρ ds w :=
  TrL_leaf (X := F64_1 R n3 ds w) (setAll_cons e3 setAll_nil) (by kernel_rfl) (by kernel_rfl) h
theorem F64_2_ok (R : Rt) (J1 : (Int × Int) → World → Prop) (l0 : SV) (n3 : Int) (n4 : Int) (ds : Ds) (w : World) (ρ : Env) (e0 : ρ 0 = .slice l0.a l0.len l0.cap) (e3 : ρ 3 = .int .i64 n3) (e4 : ρ 4 = .int .i64 n4) (h : F64_2 R J1 l0 n3 n4 ds w) :
    TrL Tryz.prog Tryz.f64.ntmps [c64_3_0_0, c64_3_0_1, c64_3_0_2, c64_3_0_3] (F64_q5 R J1) ρ ds w :=
  TrL_leaf (X := F64_2 R J1 l0 n3 n4 ds w) (setAll_cons e0 (setAll_cons e3 (setAll_cons e4 setAll_nil))) (by kernel_rfl) (by kernel_rfl) h
theorem F64_3_ok (R : Rt) (l0 : SV) (n3 : Int) (n4 : Int) (ds : Ds) (w : World) (ρ : Env) (e0 : ρ 0 = .slice l0.a l0.len l0.cap) (e3 : ρ 3 = .int .i64 n3) (e4 : ρ 4 = .int .i64 n4) (h : F64_3 R l0 n3 n4 ds w) :
    TrL Tryz.prog Tryz.f64.ntmps [c64_3_0] (F64_q4 R) ρ ds w :=
  TrL_one (Tr_loop' (c := innerC c64_3_0) (σ := Int × Int) (enc := (fun (s : Int × Int) (ρ : Env) => ρ 3 = .int .i64 s.1 ∧ ρ 4 = .int .i64 s.2)) (D := (fun ρ K => dInt .i64 (ρ 3) fun n3 => dInt .i64 (ρ 4) fun n4 => K (n3, n4))) (F := (fun (J1 : (Int × Int) → World → Prop) (s : Int × Int) (w : World) => F64_2 R J1 l0 s.1 s.2 ds w)) (s0 := (n3, n4)) (by kernel_rfl) c64_3_0_l ⟨e3, e4⟩ (by kernel_rfl) (fun ρ K hD => by obtain ⟨n3, e3, hD⟩ := dInt_elim hD; obtain ⟨n4, e4, hD⟩ := dInt_elim hD; exact ⟨(n3, n4), ⟨e3, e4⟩, hD⟩)
      (fun J1 s ρ' w' he ha hF => by
      obtain ⟨e3', e4'⟩ := he
      exact F64_2_ok R J1 l0 s.1 s.2 ds w' ρ' ((ha 0 (by kernel_rfl)).trans e0) e3' e4' hF) h)
theorem F64_4_ok (R : Rt) (l0 : SV) (n3 : Int) (n4 : Int) (ds : Ds) (w : World) (ρ : Env) (e0 : ρ 0 = .slice l0.a l0.len l0.cap) (e3 : ρ 3 = .int .i64 n3) (e4 : ρ 4 = .int .i64 n4) (h : F64_4 R l0 n3 n4 ds w) :
    TrL Tryz.prog Tryz.f64.ntmps [c64_3, c64_4, c64_5] (F64_q1 R) ρ ds w :=
  TrL_head (K := (F64_k2 R)) (Tr_block' (c := innerC c64_3) (by kernel_rfl) c64_3_l (F64_3_ok R l0 n3 n4 ds w ρ e0 e3 e4 h))
    (fun ρ' ds' w' hD => by
      obtain ⟨n3, e3, hD⟩ := dInt_elim hD; exact F64_1_ok R n3 ds' w' ρ' e3 hD)
theorem F64_5_ok (R : Rt) (l0 : SV) (ds : Ds) (w : World) (ρ : Env) (e0 : ρ 0 = .slice l0.a l0.len l0.cap) (h : F64_5 R l0 ds w) :
    TrL Tryz.prog Tryz.f64.ntmps [c64_0, c64_1, c64_2, c64_3, c64_4, c64_5] (F64_q1 R) ρ ds w :=
  TrL_piece (pre := [c64_0, c64_1, c64_2]) (K := (F64_k6 R)) (X := F64_5 R l0 ds w) (setAll_cons e0 setAll_nil) (by kernel_rfl) (by kernel_rfl)
    (fun ρ' ds' w' hD => by
      obtain ⟨l0, e0, hD⟩ := dSl_elim hD; obtain ⟨n3, e3, hD⟩ := dInt_elim hD; obtain ⟨n4, e4, hD⟩ := dInt_elim hD; exact F64_4_ok R l0 n3 n4 ds' w' ρ' e0 e3 e4 hD) h
theorem F64_calls (l0 : SV) (w : World) (R : Rt) (h : F64_5 R l0 [] w) : Calls Tryz.prog 64 #[.slice l0.a l0.len l0.cap] w R :=
  calls_of_L (l := [c64_0, c64_1, c64_2, c64_3, c64_4, c64_5]) Tryz.func64 (by kernel_rfl) (by rw [Tryz.ntmps64]; exact Nat.le_of_ble_eq_true (by kernel_rfl)) c64_l
    (F64_5_ok R l0 [] w _ rfl h)
theorem F64_callsD (l0 : SV) (w : World) (R : Rt) (u : FrameMode) (h : F64_5 R l0 [] w) : CallsD Tryz.prog 64 #[.slice l0.a l0.len l0.cap] u w fun e u' w' => u' = u ∧ R e w' :=
  callsD_of_L (l := [c64_0, c64_1, c64_2, c64_3, c64_4, c64_5]) Tryz.func64 (by kernel_rfl) (by rw [Tryz.ntmps64]; exact Nat.le_of_ble_eq_true (by kernel_rfl)) (by kernel_rfl) c64_l
    (F64_5_ok R l0 [] w _ rfl h) u

end Go.Proofs.YtecmfdfhpldmmaaGreatDoor
