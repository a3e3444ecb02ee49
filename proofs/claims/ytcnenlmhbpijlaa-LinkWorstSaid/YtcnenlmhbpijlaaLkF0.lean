import Derived.Test.YtcnenlmhbpijlaaProg
import Derived.Test.YtcnenlmhbpijlaaShEight
/- Shallow texts of functions, printed by program, each checked by the kernel against the loaded code. No condition. -/
set_option maxRecDepth 100000
set_option linter.unusedVariables false
namespace Go.Proofs.Ytcnenlmhbpijlaa
open Go.Sh
/-! function 14: cabinetry/cabinetrylaw24.over -/
noncomputable def c14_0 : Code := itemAt (flat (bodyOf Try.f14)) 0
noncomputable def c14_1 : Code := itemAt (flat (bodyOf Try.f14)) 1
noncomputable def c14_2 : Code := itemAt (flat (bodyOf Try.f14)) 2
noncomputable def c14_3 : Code := itemAt (flat (bodyOf Try.f14)) 3
noncomputable def c14_4 : Code := itemAt (flat (bodyOf Try.f14)) 4
noncomputable def c14_5 : Code := itemAt (flat (bodyOf Try.f14)) 5
noncomputable def c14_3_0 : Code := itemAt (flat (innerC c14_3)) 0
noncomputable def c14_3_0_0 : Code := itemAt (flat (innerC c14_3_0)) 0
noncomputable def c14_3_0_1 : Code := itemAt (flat (innerC c14_3_0)) 1
noncomputable def c14_3_0_2 : Code := itemAt (flat (innerC c14_3_0)) 2
noncomputable def c14_3_0_3 : Code := itemAt (flat (innerC c14_3_0)) 3
noncomputable def c14_3_0_2_0 : Code := itemAt (flat (innerC c14_3_0_2)) 0
noncomputable def c14_3_0_2_1 : Code := itemAt (flat (innerC c14_3_0_2)) 1
noncomputable def c14_3_0_2_2 : Code := itemAt (flat (innerC c14_3_0_2)) 2
noncomputable def c14_3_0_2_2_0 : Code := itemAt (flat (innerC c14_3_0_2_2)) 0
noncomputable def c14_3_0_2_2_0_0 : Code := itemAt (flat (innerC c14_3_0_2_2_0)) 0
noncomputable def c14_3_0_2_2_0_1 : Code := itemAt (flat (innerC c14_3_0_2_2_0)) 1
noncomputable def c14_3_0_2_2_0_2 : Code := itemAt (flat (innerC c14_3_0_2_2_0)) 2
noncomputable def c14_3_0_2_2_0_3 : Code := itemAt (flat (innerC c14_3_0_2_2_0)) 3
def F14_q1 (R : Rt) : EQ := endQ Try.prog Try.f14.results.toList R
def F14_1 (R : Rt) (n3 : Int) (ds : Ds) (w : World) : Prop :=
 runD Try.prog ds w fun w1 =>
 R (.returned (.bool (decide (n3 ≥ 65536)))) w1
def F14_k2 (R : Rt) : EP := (fun ρ ds w => dInt .i64 (ρ 3) fun n3 => F14_1 R n3 ds w)
def F14_q3 (R : Rt) : EQ := (thenQ (F14_k2 R) (F14_q1 R))
def F14_q4 (R : Rt) : EQ := (blockQ 0 (F14_q3 R))
def F14_q5 (R : Rt) (J1 : (Int × Int) → World → Prop) : EQ := (thenQ (fun ρ _ w => dInt .i64 (ρ 3) fun n3 => dInt .i64 (ρ 4) fun n4 => J1 (n3, n4) w) (F14_q4 R))
def F14_2 (R : Rt) (J1 : (Int × Int) → World → Prop) (l0 : SV) (n3 : Int) (n4 : Int) (ds : Ds) (w : World) : Prop :=
 J1 (n3, (IntKind.i64.wrap (n4 + 1))) w
def F14_k6 (R : Rt) (J1 : (Int × Int) → World → Prop) : EP := (fun ρ ds w => dSl (ρ 0) fun l0 => dInt .i64 (ρ 3) fun n3 => dInt .i64 (ρ 4) fun n4 => F14_2 R J1 l0 n3 n4 ds w)
def F14_q7 (R : Rt) (J1 : (Int × Int) → World → Prop) : EQ := (thenQ (F14_k6 R J1) (F14_q5 R J1))
def F14_q8 (R : Rt) (J1 : (Int × Int) → World → Prop) : EQ := (blockQ 1 (F14_q7 R J1))
def F14_q9 (R : Rt) (J1 : (Int × Int) → World → Prop) : EQ := (blockQ 2 (F14_q8 R J1))
def F14_q10 (R : Rt) (J1 : (Int × Int) → World → Prop) (J2 : (Int × Int) → World → Prop) : EQ := (thenQ (fun ρ _ w => dInt .i64 (ρ 3) fun n3 => dInt .i64 (ρ 5) fun n5 => J2 (n3, n5) w) (F14_q9 R J1))
def F14_3 (R : Rt) (J1 : (Int × Int) → World → Prop) (J2 : (Int × Int) → World → Prop) (l0 : SV) (n3 : Int) (n4 : Int) (n5 : Int) (ds : Ds) (w : World) : Prop :=
 ∃ a2 : Addr, l0.a = some a2 ∧ 0 ≤ n4 ∧ n4 < ((l0.len : Nat) : Int) ∧
 ∃ l52 : SV, w.cell? ((a2.add (n4.toNat * 5)).add 4) = some (.slice l52.a l52.len l52.cap) ∧
 Br (decide (n5 < ((l52.len : Nat) : Int))) (
 ∃ a3 : Addr, l0.a = some a3 ∧ 0 ≤ n4 ∧ n4 < ((l0.len : Nat) : Int) ∧
 ∃ l62 : SV, w.cell? ((a3.add (n4.toNat * 5)).add 4) = some (.slice l62.a l62.len l62.cap) ∧
 ∃ a4 : Addr, l62.a = some a4 ∧ 0 ≤ n5 ∧ n5 < ((l62.len : Nat) : Int) ∧
 ∃ l65 : SV, w.cell? (a4.add (n5.toNat * 1)) = some (.slice l65.a l65.len l65.cap) ∧
 Calls Try.prog 15 #[.slice l65.a l65.len l65.cap] w fun e w5 =>
 ∃ n66 : Int, e = .returned (.int .i64 n66) ∧
 J2 ((IntKind.i64.wrap (n3 + n66)), (IntKind.i64.wrap (n5 + 1))) w5) (
 F14_2 R J1 l0 n3 n4 ds w)
def F14_4 (R : Rt) (J1 : (Int × Int) → World → Prop) (l0 : SV) (n3 : Int) (n4 : Int) (n5 : Int) (ds : Ds) (w : World) : Prop :=
 loopT (fun (J2 : (Int × Int) → World → Prop) (s : Int × Int) (w : World) => F14_3 R J1 J2 l0 s.1 n4 s.2 ds w) (n3, n5) w
@[reducible] def F14_5 (R : Rt) (J1 : (Int × Int) → World → Prop) (l0 : SV) (n3 : Int) (n4 : Int) (n5 : Int) (ds : Ds) (w : World) : Prop := F14_4 R J1 l0 n3 n4 n5 ds w
def F14_k11 (R : Rt) (J1 : (Int × Int) → World → Prop) : EP := (fun ρ ds w => dSl (ρ 0) fun l0 => dInt .i64 (ρ 3) fun n3 => dInt .i64 (ρ 4) fun n4 => dInt .i64 (ρ 5) fun n5 => F14_5 R J1 l0 n3 n4 n5 ds w)
def F14_6 (R : Rt) (J1 : (Int × Int) → World → Prop) (l0 : SV) (n3 : Int) (n4 : Int) (ds : Ds) (w : World) : Prop :=
 dwE w fun w6 =>
 ∃ S1 : World → Prop, S1 w6 ∧
 ∃ a7 : Addr, l0.a = some a7 ∧ 0 ≤ n4 ∧ n4 < ((l0.len : Nat) : Int) ∧
 ∃ s23 : ByteArray, (∀ w', S1 w' → w'.cell? (a7.add (n4.toNat * 5)) = some (.string s23)) ∧
 ∃ a8 : Addr, l0.a = some a8 ∧ 0 ≤ n4 ∧ n4 < ((l0.len : Nat) : Int) ∧
 ∃ l29 : SV, (∀ w', S1 w' → w'.cell? ((a8.add (n4.toNat * 5)).add 2) = some (.slice l29.a l29.len l29.cap)) ∧
 ∃ a9 : Addr, l0.a = some a9 ∧ 0 ≤ n4 ∧ n4 < ((l0.len : Nat) : Int) ∧
 ∃ l36 : SV, (∀ w', S1 w' → w'.cell? ((a9.add (n4.toNat * 5)).add 3) = some (.slice l36.a l36.len l36.cap)) ∧
 ∃ a10 : Addr, l0.a = some a10 ∧ 0 ≤ n4 ∧ n4 < ((l0.len : Nat) : Int) ∧
 ∃ l43 : SV, (∀ w', S1 w' → w'.cell? ((a10.add (n4.toNat * 5)).add 4) = some (.slice l43.a l43.len l43.cap)) ∧
 Calls Try.prog 15 #[.slice l29.a l29.len l29.cap] w6 fun e w11 =>
 ∃ n30 : Int, e = .returned (.int .i64 n30) ∧
 S1 w11 ∧
 F14_5 R J1 l0 (IntKind.i64.wrap (n3 + (IntKind.i64.wrap ((IntKind.i64.wrap ((IntKind.i64.wrap (((s23.size : Nat) : Int) + n30)) + ((l36.len : Nat) : Int))) + ((l43.len : Nat) : Int))))) n4 0 ds w11
@[reducible] def F14_7 (R : Rt) (J1 : (Int × Int) → World → Prop) (l0 : SV) (n3 : Int) (n4 : Int) (ds : Ds) (w : World) : Prop := F14_6 R J1 l0 n3 n4 ds w
def F14_k12 (R : Rt) (J1 : (Int × Int) → World → Prop) : EP := (fun ρ ds w => dSl (ρ 0) fun l0 => dInt .i64 (ρ 3) fun n3 => dInt .i64 (ρ 4) fun n4 => F14_7 R J1 l0 n3 n4 ds w)
def F14_8 (R : Rt) (J1 : (Int × Int) → World → Prop) (l0 : SV) (n3 : Int) (n4 : Int) (ds : Ds) (w : World) : Prop :=
 Br (decide (n4 < ((l0.len : Nat) : Int))) (
 Br (decide (n3 < 65536)) (
 F14_7 R J1 l0 n3 n4 ds w) (
 F14_1 R n3 ds w)) (
 F14_1 R n3 ds w)
def F14_9 (R : Rt) (l0 : SV) (n3 : Int) (n4 : Int) (ds : Ds) (w : World) : Prop :=
 loopT (fun (J1 : (Int × Int) → World → Prop) (s : Int × Int) (w : World) => F14_8 R J1 l0 s.1 s.2 ds w) (n3, n4) w
@[reducible] def F14_10 (R : Rt) (l0 : SV) (n3 : Int) (n4 : Int) (ds : Ds) (w : World) : Prop := F14_9 R l0 n3 n4 ds w
def F14_k13 (R : Rt) : EP := (fun ρ ds w => dSl (ρ 0) fun l0 => dInt .i64 (ρ 3) fun n3 => dInt .i64 (ρ 4) fun n4 => F14_10 R l0 n3 n4 ds w)
def F14_11 (R : Rt) (l0 : SV) (ds : Ds) (w : World) : Prop :=
 F14_10 R l0 ((l0.len : Nat) : Int) 0 ds w
theorem c14_l : flat (bodyOf Try.f14) = [c14_0, c14_1, c14_2, c14_3, c14_4, c14_5] := by kernel_rfl
theorem c14_3_l : flat (innerC c14_3) = [c14_3_0] := by kernel_rfl
theorem c14_3_0_l : flat (innerC c14_3_0) = [c14_3_0_0, c14_3_0_1, c14_3_0_2, c14_3_0_3] := by kernel_rfl
theorem c14_3_0_2_l : flat (innerC c14_3_0_2) = [c14_3_0_2_0, c14_3_0_2_1, c14_3_0_2_2] := by kernel_rfl
theorem c14_3_0_2_2_l : flat (innerC c14_3_0_2_2) = [c14_3_0_2_2_0] := by kernel_rfl
theorem c14_3_0_2_2_0_l : flat (innerC c14_3_0_2_2_0) = [c14_3_0_2_2_0_0, c14_3_0_2_2_0_1, c14_3_0_2_2_0_2, c14_3_0_2_2_0_3] := by kernel_rfl
theorem F14_1_ok (R : Rt) (n3 : Int) (ds : Ds) (w : World) (ρ : Env) (e3 : ρ 3 = .int .i64 n3) (h : F14_1 R n3 ds w) :
    TrL Try.prog Try.f14.ntmps [c14_4, c14_5] (F14_q1 R) ρ ds w :=
  TrL_leaf (X := F14_1 R n3 ds w) (setAll_cons e3 setAll_nil) (by kernel_rfl) (by kernel_rfl) h
theorem F14_2_ok (R : Rt) (J1 : (Int × Int) → World → Prop) (l0 : SV) (n3 : Int) (n4 : Int) (ds : Ds) (w : World) (ρ : Env) (e0 : ρ 0 = .slice l0.a l0.len l0.cap) (e3 : ρ 3 = .int .i64 n3) (e4 : ρ 4 = .int .i64 n4) (h : F14_2 R J1 l0 n3 n4 ds w) :
    TrL Try.prog Try.f14.ntmps [c14_3_0_3] (F14_q5 R J1) ρ ds w :=
  TrL_leaf (X := F14_2 R J1 l0 n3 n4 ds w) (setAll_cons e0 (setAll_cons e3 (setAll_cons e4 setAll_nil))) (by kernel_rfl) (by kernel_rfl) h
theorem F14_3_ok (R : Rt) (J1 : (Int × Int) → World → Prop) (J2 : (Int × Int) → World → Prop) (l0 : SV) (n3 : Int) (n4 : Int) (n5 : Int) (ds : Ds) (w : World) (ρ : Env) (e0 : ρ 0 = .slice l0.a l0.len l0.cap) (e3 : ρ 3 = .int .i64 n3) (e4 : ρ 4 = .int .i64 n4) (e5 : ρ 5 = .int .i64 n5) (h : F14_3 R J1 J2 l0 n3 n4 n5 ds w) :
    TrL Try.prog Try.f14.ntmps [c14_3_0_2_2_0_0, c14_3_0_2_2_0_1, c14_3_0_2_2_0_2, c14_3_0_2_2_0_3] (F14_q10 R J1 J2) ρ ds w :=
  TrL_leaf (X := F14_3 R J1 J2 l0 n3 n4 n5 ds w) (setAll_cons e0 (setAll_cons e3 (setAll_cons e4 (setAll_cons e5 setAll_nil)))) (by kernel_rfl) (by kernel_rfl) h
theorem F14_4_ok (R : Rt) (J1 : (Int × Int) → World → Prop) (l0 : SV) (n3 : Int) (n4 : Int) (n5 : Int) (ds : Ds) (w : World) (ρ : Env) (e0 : ρ 0 = .slice l0.a l0.len l0.cap) (e3 : ρ 3 = .int .i64 n3) (e4 : ρ 4 = .int .i64 n4) (e5 : ρ 5 = .int .i64 n5) (h : F14_4 R J1 l0 n3 n4 n5 ds w) :
    TrL Try.prog Try.f14.ntmps [c14_3_0_2_2_0] (F14_q9 R J1) ρ ds w :=
  TrL_one (Tr_loop' (c := innerC c14_3_0_2_2_0) (σ := Int × Int) (enc := (fun (s : Int × Int) (ρ : Env) => ρ 3 = .int .i64 s.1 ∧ ρ 5 = .int .i64 s.2)) (D := (fun ρ K => dInt .i64 (ρ 3) fun n3 => dInt .i64 (ρ 5) fun n5 => K (n3, n5))) (F := (fun (J2 : (Int × Int) → World → Prop) (s : Int × Int) (w : World) => F14_3 R J1 J2 l0 s.1 n4 s.2 ds w)) (s0 := (n3, n5)) (by kernel_rfl) c14_3_0_2_2_0_l ⟨e3, e5⟩ (by kernel_rfl) (fun ρ K hD => by obtain ⟨n3, e3, hD⟩ := dInt_elim hD; obtain ⟨n5, e5, hD⟩ := dInt_elim hD; exact ⟨(n3, n5), ⟨e3, e5⟩, hD⟩)
      (fun J2 s ρ' w' he ha hF => by
      obtain ⟨e3', e5'⟩ := he
      exact F14_3_ok R J1 J2 l0 s.1 n4 s.2 ds w' ρ' ((ha 0 (by kernel_rfl)).trans e0) e3' ((ha 4 (by kernel_rfl)).trans e4) e5' hF) h)
theorem F14_5_ok (R : Rt) (J1 : (Int × Int) → World → Prop) (l0 : SV) (n3 : Int) (n4 : Int) (n5 : Int) (ds : Ds) (w : World) (ρ : Env) (e0 : ρ 0 = .slice l0.a l0.len l0.cap) (e3 : ρ 3 = .int .i64 n3) (e4 : ρ 4 = .int .i64 n4) (e5 : ρ 5 = .int .i64 n5) (h : F14_5 R J1 l0 n3 n4 n5 ds w) :
    TrL Try.prog Try.f14.ntmps [c14_3_0_2_2] (F14_q8 R J1) ρ ds w :=
  TrL_one (Tr_block' (c := innerC c14_3_0_2_2) (by kernel_rfl) c14_3_0_2_2_l (F14_4_ok R J1 l0 n3 n4 n5 ds w ρ e0 e3 e4 e5 h))
theorem F14_6_ok (R : Rt) (J1 : (Int × Int) → World → Prop) (l0 : SV) (n3 : Int) (n4 : Int) (ds : Ds) (w : World) (ρ : Env) (e0 : ρ 0 = .slice l0.a l0.len l0.cap) (e3 : ρ 3 = .int .i64 n3) (e4 : ρ 4 = .int .i64 n4) (h : F14_6 R J1 l0 n3 n4 ds w) :
    TrL Try.prog Try.f14.ntmps [c14_3_0_2_0, c14_3_0_2_1, c14_3_0_2_2] (F14_q8 R J1) ρ ds w :=
  TrL_piece (pre := [c14_3_0_2_0, c14_3_0_2_1]) (K := (F14_k11 R J1)) (X := F14_6 R J1 l0 n3 n4 ds w) (setAll_cons e0 (setAll_cons e3 (setAll_cons e4 setAll_nil))) (by kernel_rfl) (by kernel_rfl)
    (fun ρ' ds' w' hD => by
      obtain ⟨l0, e0, hD⟩ := dSl_elim hD; obtain ⟨n3, e3, hD⟩ := dInt_elim hD; obtain ⟨n4, e4, hD⟩ := dInt_elim hD; obtain ⟨n5, e5, hD⟩ := dInt_elim hD; exact F14_5_ok R J1 l0 n3 n4 n5 ds' w' ρ' e0 e3 e4 e5 hD) h
theorem F14_7_ok (R : Rt) (J1 : (Int × Int) → World → Prop) (l0 : SV) (n3 : Int) (n4 : Int) (ds : Ds) (w : World) (ρ : Env) (e0 : ρ 0 = .slice l0.a l0.len l0.cap) (e3 : ρ 3 = .int .i64 n3) (e4 : ρ 4 = .int .i64 n4) (h : F14_7 R J1 l0 n3 n4 ds w) :
    TrL Try.prog Try.f14.ntmps [c14_3_0_2, c14_3_0_3] (F14_q5 R J1) ρ ds w :=
  TrL_head (K := (F14_k6 R J1)) (Tr_block' (c := innerC c14_3_0_2) (by kernel_rfl) c14_3_0_2_l (F14_6_ok R J1 l0 n3 n4 ds w ρ e0 e3 e4 h))
    (fun ρ' ds' w' hD => by
      obtain ⟨l0, e0, hD⟩ := dSl_elim hD; obtain ⟨n3, e3, hD⟩ := dInt_elim hD; obtain ⟨n4, e4, hD⟩ := dInt_elim hD; exact F14_2_ok R J1 l0 n3 n4 ds' w' ρ' e0 e3 e4 hD)
theorem F14_8_ok (R : Rt) (J1 : (Int × Int) → World → Prop) (l0 : SV) (n3 : Int) (n4 : Int) (ds : Ds) (w : World) (ρ : Env) (e0 : ρ 0 = .slice l0.a l0.len l0.cap) (e3 : ρ 3 = .int .i64 n3) (e4 : ρ 4 = .int .i64 n4) (h : F14_8 R J1 l0 n3 n4 ds w) :
    TrL Try.prog Try.f14.ntmps [c14_3_0_0, c14_3_0_1, c14_3_0_2, c14_3_0_3] (F14_q5 R J1) ρ ds w :=
  TrL_piece (pre := [c14_3_0_0, c14_3_0_1]) (K := (F14_k12 R J1)) (X := F14_8 R J1 l0 n3 n4 ds w) (setAll_cons e0 (setAll_cons e3 (setAll_cons e4 setAll_nil))) (by kernel_rfl) (by kernel_rfl)
    (fun ρ' ds' w' hD => by
      obtain ⟨l0, e0, hD⟩ := dSl_elim hD; obtain ⟨n3, e3, hD⟩ := dInt_elim hD; obtain ⟨n4, e4, hD⟩ := dInt_elim hD; exact F14_7_ok R J1 l0 n3 n4 ds' w' ρ' e0 e3 e4 hD) h
theorem F14_9_ok (R : Rt) (l0 : SV) (n3 : Int) (n4 : Int) (ds : Ds) (w : World) (ρ : Env) (e0 : ρ 0 = .slice l0.a l0.len l0.cap) (e3 : ρ 3 = .int .i64 n3) (e4 : ρ 4 = .int .i64 n4) (h : F14_9 R l0 n3 n4 ds w) :
    TrL Try.prog Try.f14.ntmps [c14_3_0] (F14_q4 R) ρ ds w :=
  TrL_one (Tr_loop' (c := innerC c14_3_0) (σ := Int × Int) (enc := (fun (s : Int × Int) (ρ : Env) => ρ 3 = .int .i64 s.1 ∧ ρ 4 = .int .i64 s.2)) (D := (fun ρ K => dInt .i64 (ρ 3) fun n3 => dInt .i64 (ρ 4) fun n4 => K (n3, n4))) (F := (fun (J1 : (Int × Int) → World → Prop) (s : Int × Int) (w : World) => F14_8 R J1 l0 s.1 s.2 ds w)) (s0 := (n3, n4)) (by kernel_rfl) c14_3_0_l ⟨e3, e4⟩ (by kernel_rfl) (fun ρ K hD => by obtain ⟨n3, e3, hD⟩ := dInt_elim hD; obtain ⟨n4, e4, hD⟩ := dInt_elim hD; exact ⟨(n3, n4), ⟨e3, e4⟩, hD⟩)
      (fun J1 s ρ' w' he ha hF => by
      obtain ⟨e3', e4'⟩ := he
      exact F14_8_ok R J1 l0 s.1 s.2 ds w' ρ' ((ha 0 (by kernel_rfl)).trans e0) e3' e4' hF) h)
theorem F14_10_ok (R : Rt) (l0 : SV) (n3 : Int) (n4 : Int) (ds : Ds) (w : World) (ρ : Env) (e0 : ρ 0 = .slice l0.a l0.len l0.cap) (e3 : ρ 3 = .int .i64 n3) (e4 : ρ 4 = .int .i64 n4) (h : F14_10 R l0 n3 n4 ds w) :
    TrL Try.prog Try.f14.ntmps [c14_3, c14_4, c14_5] (F14_q1 R) ρ ds w :=
  TrL_head (K := (F14_k2 R)) (Tr_block' (c := innerC c14_3) (by kernel_rfl) c14_3_l (F14_9_ok R l0 n3 n4 ds w ρ e0 e3 e4 h))
    (fun ρ' ds' w' hD => by
      obtain ⟨n3, e3, hD⟩ := dInt_elim hD; exact F14_1_ok R n3 ds' w' ρ' e3 hD)
theorem F14_11_ok (R : Rt) (l0 : SV) (ds : Ds) (w : World) (ρ : Env) (e0 : ρ 0 = .slice l0.a l0.len l0.cap) (h : F14_11 R l0 ds w) :
    TrL Try.prog Try.f14.ntmps [c14_0, c14_1, c14_2, c14_3, c14_4, c14_5] (F14_q1 R) ρ ds w :=
  TrL_piece (pre := [c14_0, c14_1, c14_2]) (K := (F14_k13 R)) (X := F14_11 R l0 ds w) (setAll_cons e0 setAll_nil) (by kernel_rfl) (by kernel_rfl)
    (fun ρ' ds' w' hD => by
      obtain ⟨l0, e0, hD⟩ := dSl_elim hD; obtain ⟨n3, e3, hD⟩ := dInt_elim hD; obtain ⟨n4, e4, hD⟩ := dInt_elim hD; exact F14_10_ok R l0 n3 n4 ds' w' ρ' e0 e3 e4 hD) h
theorem F14_calls (l0 : SV) (w : World) (R : Rt) (h : F14_11 R l0 [] w) : Calls Try.prog 14 #[.slice l0.a l0.len l0.cap] w R :=
  calls_of_L (l := [c14_0, c14_1, c14_2, c14_3, c14_4, c14_5]) Try.func14 (by kernel_rfl) (by rw [Try.ntmps14]; exact Nat.le_of_ble_eq_true (by kernel_rfl)) c14_l
    (F14_11_ok R l0 [] w _ rfl h)
theorem F14_callsD (l0 : SV) (w : World) (R : Rt) (u : FrameMode) (h : F14_11 R l0 [] w) : CallsD Try.prog 14 #[.slice l0.a l0.len l0.cap] u w fun e u' w' => u' = u ∧ R e w' :=
  callsD_of_L (l := [c14_0, c14_1, c14_2, c14_3, c14_4, c14_5]) Try.func14 (by kernel_rfl) (by rw [Try.ntmps14]; exact Nat.le_of_ble_eq_true (by kernel_rfl)) (by kernel_rfl) c14_l
    (F14_11_ok R l0 [] w _ rfl h) u

/-! function 15: cabinetry/cabinetrylaw24.heavyTexts -/
noncomputable def c15_0 : Code := itemAt (flat (bodyOf Try.f15)) 0
noncomputable def c15_1 : Code := itemAt (flat (bodyOf Try.f15)) 1
noncomputable def c15_2 : Code := itemAt (flat (bodyOf Try.f15)) 2
noncomputable def c15_3 : Code := itemAt (flat (bodyOf Try.f15)) 3
noncomputable def c15_4 : Code := itemAt (flat (bodyOf Try.f15)) 4
noncomputable def c15_5 : Code := itemAt (flat (bodyOf Try.f15)) 5
noncomputable def c15_3_0 : Code := itemAt (flat (innerC c15_3)) 0
noncomputable def c15_3_0_0 : Code := itemAt (flat (innerC c15_3_0)) 0
noncomputable def c15_3_0_1 : Code := itemAt (flat (innerC c15_3_0)) 1
noncomputable def c15_3_0_2 : Code := itemAt (flat (innerC c15_3_0)) 2
noncomputable def c15_3_0_3 : Code := itemAt (flat (innerC c15_3_0)) 3
def F15_q1 (R : Rt) : EQ := endQ Try.prog Try.f15.results.toList R
def F15_1 (R : Rt) (n3 : Int) (ds : Ds) (w : World) : Prop :=
 runD Try.prog ds w fun w1 =>
 R (.returned (.int .i64 n3)) w1
def F15_k2 (R : Rt) : EP := (fun ρ ds w => dInt .i64 (ρ 3) fun n3 => F15_1 R n3 ds w)
def F15_q3 (R : Rt) : EQ := (thenQ (F15_k2 R) (F15_q1 R))
def F15_q4 (R : Rt) : EQ := (blockQ 0 (F15_q3 R))
def F15_q5 (R : Rt) (J1 : (Int × Int) → World → Prop) : EQ := (thenQ (fun ρ _ w => dInt .i64 (ρ 3) fun n3 => dInt .i64 (ρ 4) fun n4 => J1 (n3, n4) w) (F15_q4 R))
def F15_2 (R : Rt) (J1 : (Int × Int) → World → Prop) (l0 : SV) (n3 : Int) (n4 : Int) (ds : Ds) (w : World) : Prop :=
 Br (decide (n4 < ((l0.len : Nat) : Int))) (
 ∃ a2 : Addr, l0.a = some a2 ∧ 0 ≤ n4 ∧ n4 < ((l0.len : Nat) : Int) ∧
 ∃ s17 : ByteArray, w.cell? (a2.add (n4.toNat * 1)) = some (.string s17) ∧
 J1 ((IntKind.i64.wrap (n3 + ((s17.size : Nat) : Int))), (IntKind.i64.wrap (n4 + 1))) w) (
 F15_1 R n3 ds w)
def F15_3 (R : Rt) (l0 : SV) (n3 : Int) (n4 : Int) (ds : Ds) (w : World) : Prop :=
 loopT (fun (J1 : (Int × Int) → World → Prop) (s : Int × Int) (w : World) => F15_2 R J1 l0 s.1 s.2 ds w) (n3, n4) w
@[reducible] def F15_4 (R : Rt) (l0 : SV) (n3 : Int) (n4 : Int) (ds : Ds) (w : World) : Prop := F15_3 R l0 n3 n4 ds w
def F15_k6 (R : Rt) : EP := (fun ρ ds w => dSl (ρ 0) fun l0 => dInt .i64 (ρ 3) fun n3 => dInt .i64 (ρ 4) fun n4 => F15_4 R l0 n3 n4 ds w)
def F15_5 (R : Rt) (l0 : SV) (ds : Ds) (w : World) : Prop :=
 F15_4 R l0 ((l0.len : Nat) : Int) 0 ds w
theorem c15_l : flat (bodyOf Try.f15) = [c15_0, c15_1, c15_2, c15_3, c15_4, c15_5] := by kernel_rfl
theorem c15_3_l : flat (innerC c15_3) = [c15_3_0] := by kernel_rfl
theorem c15_3_0_l : flat (innerC c15_3_0) = [c15_3_0_0, c15_3_0_1, c15_3_0_2, c15_3_0_3] := by kernel_rfl
theorem F15_1_ok (R : Rt) (n3 : Int) (ds : Ds) (w : World) (ρ : Env) (e3 : ρ 3 = .int .i64 n3) (h : F15_1 R n3 ds w) :
    TrL Try.prog Try.f15.ntmps [c15_4, c15_5] (F15_q1 R) ρ ds w :=
  TrL_leaf (X := F15_1 R n3 ds w) (setAll_cons e3 setAll_nil) (by kernel_rfl) (by kernel_rfl) h
theorem F15_2_ok (R : Rt) (J1 : (Int × Int) → World → Prop) (l0 : SV) (n3 : Int) (n4 : Int) (ds : Ds) (w : World) (ρ : Env) (e0 : ρ 0 = .slice l0.a l0.len l0.cap) (e3 : ρ 3 = .int .i64 n3) (e4 : ρ 4 = .int .i64 n4) (h : F15_2 R J1 l0 n3 n4 ds w) :
    TrL Try.prog Try.f15.ntmps [c15_3_0_0, c15_3_0_1, c15_3_0_2, c15_3_0_3] (F15_q5 R J1) ρ ds w :=
  TrL_leaf (X := F15_2 R J1 l0 n3 n4 ds w) (setAll_cons e0 (setAll_cons e3 (setAll_cons e4 setAll_nil))) (by kernel_rfl) (by kernel_rfl) h
theorem F15_3_ok (R : Rt) (l0 : SV) (n3 : Int) (n4 : Int) (ds : Ds) (w : World) (ρ : Env) (e0 : ρ 0 = .slice l0.a l0.len l0.cap) (e3 : ρ 3 = .int .i64 n3) (e4 : ρ 4 = .int .i64 n4) (h : F15_3 R l0 n3 n4 ds w) :
    TrL Try.prog Try.f15.ntmps [c15_3_0] (F15_q4 R) ρ ds w :=
  TrL_one (Tr_loop' (c := innerC c15_3_0) (σ := Int × Int) (enc := (fun (s : Int × Int) (ρ : Env) => ρ 3 = .int .i64 s.1 ∧ ρ 4 = .int .i64 s.2)) (D := (fun ρ K => dInt .i64 (ρ 3) fun n3 => dInt .i64 (ρ 4) fun n4 => K (n3, n4))) (F := (fun (J1 : (Int × Int) → World → Prop) (s : Int × Int) (w : World) => F15_2 R J1 l0 s.1 s.2 ds w)) (s0 := (n3, n4)) (by kernel_rfl) c15_3_0_l ⟨e3, e4⟩ (by kernel_rfl) (fun ρ K hD => by obtain ⟨n3, e3, hD⟩ := dInt_elim hD; obtain ⟨n4, e4, hD⟩ := dInt_elim hD; exact ⟨(n3, n4), ⟨e3, e4⟩, hD⟩)
      (fun J1 s ρ' w' he ha hF => by
      obtain ⟨e3', e4'⟩ := he
      exact F15_2_ok R J1 l0 s.1 s.2 ds w' ρ' ((ha 0 (by kernel_rfl)).trans e0) e3' e4' hF) h)
theorem F15_4_ok (R : Rt) (l0 : SV) (n3 : Int) (n4 : Int) (ds : Ds) (w : World) (ρ : Env) (e0 : ρ 0 = .slice l0.a l0.len l0.cap) (e3 : ρ 3 = .int .i64 n3) (e4 : ρ 4 = .int .i64 n4) (h : F15_4 R l0 n3 n4 ds w) :
    TrL Try.prog Try.f15.ntmps [c15_3, c15_4, c15_5] (F15_q1 R) ρ ds w :=
  TrL_head (K := (F15_k2 R)) (Tr_block' (c := innerC c15_3) (by kernel_rfl) c15_3_l (F15_3_ok R l0 n3 n4 ds w ρ e0 e3 e4 h))
    (fun ρ' ds' w' hD => by
      obtain ⟨n3, e3, hD⟩ := dInt_elim hD; exact F15_1_ok R n3 ds' w' ρ' e3 hD)
theorem F15_5_ok (R : Rt) (l0 : SV) (ds : Ds) (w : World) (ρ : Env) (e0 : ρ 0 = .slice l0.a l0.len l0.cap) (h : F15_5 R l0 ds w) :
    TrL Try.prog Try.f15.ntmps [c15_0, c15_1, c15_2, c15_3, c15_4, c15_5] (F15_q1 R) ρ ds w :=
  TrL_piece (pre := [c15_0, c15_1, c15_2]) (K := (F15_k6 R)) (X := F15_5 R l0 ds w) (setAll_cons e0 setAll_nil) (by kernel_rfl) (by kernel_rfl)
    (fun ρ' ds' w' hD => by
      obtain ⟨l0, e0, hD⟩ := dSl_elim hD; obtain ⟨n3, e3, hD⟩ := dInt_elim hD; obtain ⟨n4, e4, hD⟩ := dInt_elim hD; exact F15_4_ok R l0 n3 n4 ds' w' ρ' e0 e3 e4 hD) h
theorem F15_calls (l0 : SV) (w : World) (R : Rt) (h : F15_5 R l0 [] w) : Calls Try.prog 15 #[.slice l0.a l0.len l0.cap] w R :=
  calls_of_L (l := [c15_0, c15_1, c15_2, c15_3, c15_4, c15_5]) Try.func15 (by kernel_rfl) (by rw [Try.ntmps15]; exact Nat.le_of_ble_eq_true (by kernel_rfl)) c15_l
    (F15_5_ok R l0 [] w _ rfl h)
theorem F15_callsD (l0 : SV) (w : World) (R : Rt) (u : FrameMode) (h : F15_5 R l0 [] w) : CallsD Try.prog 15 #[.slice l0.a l0.len l0.cap] u w fun e u' w' => u' = u ∧ R e w' :=
  callsD_of_L (l := [c15_0, c15_1, c15_2, c15_3, c15_4, c15_5]) Try.func15 (by kernel_rfl) (by rw [Try.ntmps15]; exact Nat.le_of_ble_eq_true (by kernel_rfl)) (by kernel_rfl) c15_l
    (F15_5_ok R l0 [] w _ rfl h) u

/-! function 16: cabinetry/cabinetrylaw24.known -/
noncomputable def c16_0 : Code := itemAt (flat (bodyOf Try.f16)) 0
noncomputable def c16_1 : Code := itemAt (flat (bodyOf Try.f16)) 1
noncomputable def c16_2 : Code := itemAt (flat (bodyOf Try.f16)) 2
noncomputable def c16_3 : Code := itemAt (flat (bodyOf Try.f16)) 3
noncomputable def c16_4 : Code := itemAt (flat (bodyOf Try.f16)) 4
def F16_q1 (R : Rt) : EQ := endQ Try.prog Try.f16.results.toList R
def F16_1 (R : Rt) (ds : Ds) (w : World) : Prop :=
 Calls Try.prog 44 #[] w fun e w1 =>
 ∃ l7 : SV, e = .returned (.slice l7.a l7.len l7.cap) ∧
 alE (.cells #[.string (⟨#[66]⟩ : ByteArray), .string (⟨#[]⟩ : ByteArray)] 9) w1 fun r8 w2 =>
 Calls Try.prog 17 #[.slice l7.a l7.len l7.cap, .string (⟨#[65]⟩ : ByteArray), .slice (some ⟨r8, 0, none⟩) 2 2] w2 fun e w3 =>
 ∃ n9_0 : Int, ∃ n9_1 : Int, e = .returned (.tuple #[.int .i64 n9_0, .int .i64 n9_1]) ∧
 Calls Try.prog 44 #[] w3 fun e w4 =>
 ∃ l13 : SV, e = .returned (.slice l13.a l13.len l13.cap) ∧
 Calls Try.prog 22 #[.slice l13.a l13.len l13.cap] w4 fun e w5 =>
 ∃ n14_0 : Int, ∃ n14_1 : Int, ∃ n14_2 : Int, e = .returned (.tuple #[.int .i64 n14_0, .int .i64 n14_1, .int .i64 n14_2]) ∧
 Br (n9_0 == 3) (
 Br (n9_1 == 0) (
 Br (n14_0 == 0) (
 Br (n14_1 == 20) (
 runD Try.prog ds w5 fun w6 =>
 R (.returned (.bool (n14_2 == 0))) w6) (
 runD Try.prog ds w5 fun w7 =>
 R (.returned (.bool false)) w7)) (
 runD Try.prog ds w5 fun w8 =>
 R (.returned (.bool false)) w8)) (
 runD Try.prog ds w5 fun w9 =>
 R (.returned (.bool false)) w9)) (
 runD Try.prog ds w5 fun w10 =>
 R (.returned (.bool false)) w10)
theorem c16_l : flat (bodyOf Try.f16) = [c16_0, c16_1, c16_2, c16_3, c16_4] := by kernel_rfl
theorem F16_1_ok (R : Rt) (ds : Ds) (w : World) (ρ : Env) (h : F16_1 R ds w) :
    TrL Try.prog Try.f16.ntmps [c16_0, c16_1, c16_2, c16_3, c16_4] (F16_q1 R) ρ ds w :=
  TrL_leaf (X := F16_1 R ds w) setAll_nil (by kernel_rfl) (by kernel_rfl) h
theorem F16_calls  (w : World) (R : Rt) (h : F16_1 R [] w) : Calls Try.prog 16 #[] w R :=
  calls_of_L (l := [c16_0, c16_1, c16_2, c16_3, c16_4]) Try.func16 (by kernel_rfl) (by rw [Try.ntmps16]; exact Nat.le_of_ble_eq_true (by kernel_rfl)) c16_l
    (F16_1_ok R [] w _  h)
theorem F16_callsD  (w : World) (R : Rt) (u : FrameMode) (h : F16_1 R [] w) : CallsD Try.prog 16 #[] u w fun e u' w' => u' = u ∧ R e w' :=
  callsD_of_L (l := [c16_0, c16_1, c16_2, c16_3, c16_4]) Try.func16 (by kernel_rfl) (by rw [Try.ntmps16]; exact Nat.le_of_ble_eq_true (by kernel_rfl)) (by kernel_rfl) c16_l
    (F16_1_ok R [] w _  h) u

/-! function 17: cabinetry/link.Loads -/
noncomputable def c17_0 : Code := itemAt (flat (bodyOf Try.f17)) 0
noncomputable def c17_1 : Code := itemAt (flat (bodyOf Try.f17)) 1
noncomputable def c17_2 : Code := itemAt (flat (bodyOf Try.f17)) 2
noncomputable def c17_3 : Code := itemAt (flat (bodyOf Try.f17)) 3
noncomputable def c17_4 : Code := itemAt (flat (bodyOf Try.f17)) 4
noncomputable def c17_5 : Code := itemAt (flat (bodyOf Try.f17)) 5
noncomputable def c17_6 : Code := itemAt (flat (bodyOf Try.f17)) 6
noncomputable def c17_7 : Code := itemAt (flat (bodyOf Try.f17)) 7
noncomputable def c17_8 : Code := itemAt (flat (bodyOf Try.f17)) 8
noncomputable def c17_9 : Code := itemAt (flat (bodyOf Try.f17)) 9
noncomputable def c17_10 : Code := itemAt (flat (bodyOf Try.f17)) 10
noncomputable def c17_11 : Code := itemAt (flat (bodyOf Try.f17)) 11
noncomputable def c17_12 : Code := itemAt (flat (bodyOf Try.f17)) 12
noncomputable def c17_10_0 : Code := itemAt (flat (innerC c17_10)) 0
noncomputable def c17_10_0_0 : Code := itemAt (flat (innerC c17_10_0)) 0
noncomputable def c17_10_0_1 : Code := itemAt (flat (innerC c17_10_0)) 1
noncomputable def c17_10_0_2 : Code := itemAt (flat (innerC c17_10_0)) 2
noncomputable def c17_10_0_3 : Code := itemAt (flat (innerC c17_10_0)) 3
def F17_q1 (R : Rt) : EQ := endQ Try.prog Try.f17.results.toList R
def F17_1 (R : Rt) (p11 : Option Addr) (ds : Ds) (w : World) : Prop :=
 ptrE p11 fun a1 =>
 ∃ n91 : Int, w.cell? (a1.add 1) = some (.int .i64 n91) ∧
 runD Try.prog ds w fun w2 =>
 R (.returned (.tuple #[.int .i64 n91, .int .i64 0])) w2
def F17_k2 (R : Rt) : EP := (fun ρ ds w => dPtr (ρ 11) fun p11 => F17_1 R p11 ds w)
def F17_q3 (R : Rt) : EQ := (thenQ (F17_k2 R) (F17_q1 R))
def F17_q4 (R : Rt) : EQ := (blockQ 0 (F17_q3 R))
def F17_q5 (R : Rt) (J1 : (SV × Bool × Int) → World → Prop) : EQ := (thenQ (fun ρ _ w => dSl (ρ 10) fun l10 => dBl (ρ 12) fun b12 => dInt .i64 (ρ 38) fun n38 => J1 (l10, b12, n38) w) (F17_q4 R))
def F17_2 (R : Rt) (J1 : (SV × Bool × Int) → World → Prop) (m8 : Option Nat) (l10 : SV) (p11 : Option Addr) (b12 : Bool) (l36 : SV) (n37 : Int) (n38 : Int) (ds : Ds) (w : World) : Prop :=
 J1 (l10, b12, (IntKind.i64.wrap (n38 + 1))) w
def F17_k6 (R : Rt) (J1 : (SV × Bool × Int) → World → Prop) : EP := (fun ρ ds w => dMap (ρ 8) fun m8 => dSl (ρ 10) fun l10 => dPtr (ρ 11) fun p11 => dBl (ρ 12) fun b12 => dSl (ρ 36) fun l36 => dInt .i64 (ρ 37) fun n37 => dInt .i64 (ρ 38) fun n38 => F17_2 R J1 m8 l10 p11 b12 l36 n37 n38 ds w)
def F17_3 (R : Rt) (J1 : (SV × Bool × Int) → World → Prop) (m8 : Option Nat) (l10 : SV) (p11 : Option Addr) (b12 : Bool) (l36 : SV) (n37 : Int) (n38 : Int) (ds : Ds) (w : World) : Prop :=
 ∃ a3 : Addr, l36.a = some a3 ∧ 0 ≤ n38 ∧ n38 < ((l36.len : Nat) : Int) ∧
 ∃ s41 : ByteArray, w.cell? (a3.add (n38.toNat * 1)) = some (.string s41) ∧
 ∃ a4 : Addr, l10.a = some a4 ∧ 0 ≤ (IntKind.i64.wrap (((l10.len : Nat) : Int) - 1)) ∧ (IntKind.i64.wrap (((l10.len : Nat) : Int) - 1)) < ((l10.len : Nat) : Int) ∧
 ∃ s47 : ByteArray, w.cell? (a4.add ((IntKind.i64.wrap (((l10.len : Nat) : Int) - 1)).toNat * 1)) = some (.string s47) ∧
 Br (s41.toList == (⟨#[]⟩ : ByteArray).toList) (
 Br (decide (((l10.len : Nat) : Int) > 1)) (
 0 ≤ (IntKind.i64.wrap (((l10.len : Nat) : Int) - 1)) ∧ (IntKind.i64.wrap (((l10.len : Nat) : Int) - 1)).toNat ≤ l10.cap ∧ 0 ≤ (IntKind.i64.wrap (((l10.len : Nat) : Int) - 1)).toNat ∧
 Br (!b12) (
 runD Try.prog ds w fun w5 =>
 R (.returned (.tuple #[.int .i64 0, .int .i64 7])) w5) (
 dwE w fun w6 =>
 ptrE p11 fun a7 =>
 ∃ n78_0 : Int, w6.cell? (a7.add 0) = some (.int .i64 n78_0) ∧
 ∃ n78_1 : Int, w6.cell? (a7.add 1) = some (.int .i64 n78_1) ∧
 ∃ a8 : Addr, (if l10.cap = 0 then l10.a else l10.a.map (fun x => x.add (0 * 1))) = some a8 ∧ 0 ≤ (IntKind.i64.wrap (((((IntKind.i64.wrap (((l10.len : Nat) : Int) - 1)).toNat - 0) : Nat) : Int) - 1)) ∧ (IntKind.i64.wrap (((((IntKind.i64.wrap (((l10.len : Nat) : Int) - 1)).toNat - 0) : Nat) : Int) - 1)) < ((((IntKind.i64.wrap (((l10.len : Nat) : Int) - 1)).toNat - 0) : Nat) : Int) ∧
 ∃ s85 : ByteArray, w6.cell? (a8.add ((IntKind.i64.wrap (((((IntKind.i64.wrap (((l10.len : Nat) : Int) - 1)).toNat - 0) : Nat) : Int) - 1)).toNat * 1)) = some (.string s85) ∧
 ∃ n86_0 : Int, ∃ l86_1 : SV, (Instr.lookup 57 (.map m8) (.string s85) false).run Try.prog w6 = .ok (.agg #[.int .i64 n86_0, .slice l86_1.a l86_1.len l86_1.cap]) w6 ∧
 Calls Try.prog 46 #[.agg #[.int .i64 n78_0, .int .i64 n78_1], .int .i64 n86_0] w6 fun e w9 =>
 ∃ n88_0 : Int, ∃ n88_1 : Int, e = .returned (.agg #[.int .i64 n88_0, .int .i64 n88_1]) ∧
 ptrE p11 fun a10 =>
 stA Try.prog 61 a10 #[.int .i64 n88_0, .int .i64 n88_1] w9 fun w11 =>
 F17_2 R J1 m8 ⟨(if l10.cap = 0 then l10.a else l10.a.map (fun x => x.add (0 * 1))), ((IntKind.i64.wrap (((l10.len : Nat) : Int) - 1)).toNat - 0), (l10.cap - 0)⟩ p11 b12 l36 n37 n38 ds w11)) (
 Br (!(s41.toList == (⟨#[]⟩ : ByteArray).toList)) (
 ∃ n67_0 : Int, ∃ l67_1 : SV, ∃ w12 : World, (Instr.lookup 57 (.map m8) (.string s47) false).run Try.prog w = .ok (.agg #[.int .i64 n67_0, .slice l67_1.a l67_1.len l67_1.cap]) w12 ∧
 Calls Try.prog 47 #[.slice l67_1.a l67_1.len l67_1.cap, .string s41] w12 fun e w13 =>
 ∃ b70 : Bool, e = .returned (.bool b70) ∧
 Br b70 (
 alE (.cells #[.string s41] 9) w13 fun r74 w14 =>
 ∃ l75 : SV, ∃ w15 : World, (Builtin.append_ #[23, 23] 23 #[.slice l10.a l10.len l10.cap, .slice (some ⟨r74, 0, none⟩) 1 1]).run Try.prog w14 = .ok (.slice l75.a l75.len l75.cap) w15 ∧
 Br (!b12) (
 runD Try.prog ds w15 fun w16 =>
 R (.returned (.tuple #[.int .i64 0, .int .i64 7])) w16) (
 dwE w15 fun w17 =>
 ptrE p11 fun a18 =>
 ∃ n78_0 : Int, w17.cell? (a18.add 0) = some (.int .i64 n78_0) ∧
 ∃ n78_1 : Int, w17.cell? (a18.add 1) = some (.int .i64 n78_1) ∧
 ∃ a19 : Addr, l75.a = some a19 ∧ 0 ≤ (IntKind.i64.wrap (((l75.len : Nat) : Int) - 1)) ∧ (IntKind.i64.wrap (((l75.len : Nat) : Int) - 1)) < ((l75.len : Nat) : Int) ∧
 ∃ s85 : ByteArray, w17.cell? (a19.add ((IntKind.i64.wrap (((l75.len : Nat) : Int) - 1)).toNat * 1)) = some (.string s85) ∧
 ∃ n86_0 : Int, ∃ l86_1 : SV, (Instr.lookup 57 (.map m8) (.string s85) false).run Try.prog w17 = .ok (.agg #[.int .i64 n86_0, .slice l86_1.a l86_1.len l86_1.cap]) w17 ∧
 Calls Try.prog 46 #[.agg #[.int .i64 n78_0, .int .i64 n78_1], .int .i64 n86_0] w17 fun e w20 =>
 ∃ n88_0 : Int, ∃ n88_1 : Int, e = .returned (.agg #[.int .i64 n88_0, .int .i64 n88_1]) ∧
 ptrE p11 fun a21 =>
 stA Try.prog 61 a21 #[.int .i64 n88_0, .int .i64 n88_1] w20 fun w22 =>
 F17_2 R J1 m8 l75 p11 b12 l36 n37 n38 ds w22)) (
 runD Try.prog ds w13 fun w23 =>
 R (.returned (.tuple #[.int .i64 0, .int .i64 7])) w23)) (
 runD Try.prog ds w fun w24 =>
 R (.returned (.tuple #[.int .i64 0, .int .i64 7])) w24))) (
 Br (!(s41.toList == (⟨#[]⟩ : ByteArray).toList)) (
 ∃ n67_0 : Int, ∃ l67_1 : SV, ∃ w25 : World, (Instr.lookup 57 (.map m8) (.string s47) false).run Try.prog w = .ok (.agg #[.int .i64 n67_0, .slice l67_1.a l67_1.len l67_1.cap]) w25 ∧
 Calls Try.prog 47 #[.slice l67_1.a l67_1.len l67_1.cap, .string s41] w25 fun e w26 =>
 ∃ b70 : Bool, e = .returned (.bool b70) ∧
 Br b70 (
 alE (.cells #[.string s41] 9) w26 fun r74 w27 =>
 ∃ l75 : SV, ∃ w28 : World, (Builtin.append_ #[23, 23] 23 #[.slice l10.a l10.len l10.cap, .slice (some ⟨r74, 0, none⟩) 1 1]).run Try.prog w27 = .ok (.slice l75.a l75.len l75.cap) w28 ∧
 Br (!b12) (
 runD Try.prog ds w28 fun w29 =>
 R (.returned (.tuple #[.int .i64 0, .int .i64 7])) w29) (
 dwE w28 fun w30 =>
 ptrE p11 fun a31 =>
 ∃ n78_0 : Int, w30.cell? (a31.add 0) = some (.int .i64 n78_0) ∧
 ∃ n78_1 : Int, w30.cell? (a31.add 1) = some (.int .i64 n78_1) ∧
 ∃ a32 : Addr, l75.a = some a32 ∧ 0 ≤ (IntKind.i64.wrap (((l75.len : Nat) : Int) - 1)) ∧ (IntKind.i64.wrap (((l75.len : Nat) : Int) - 1)) < ((l75.len : Nat) : Int) ∧
 ∃ s85 : ByteArray, w30.cell? (a32.add ((IntKind.i64.wrap (((l75.len : Nat) : Int) - 1)).toNat * 1)) = some (.string s85) ∧
 ∃ n86_0 : Int, ∃ l86_1 : SV, (Instr.lookup 57 (.map m8) (.string s85) false).run Try.prog w30 = .ok (.agg #[.int .i64 n86_0, .slice l86_1.a l86_1.len l86_1.cap]) w30 ∧
 Calls Try.prog 46 #[.agg #[.int .i64 n78_0, .int .i64 n78_1], .int .i64 n86_0] w30 fun e w33 =>
 ∃ n88_0 : Int, ∃ n88_1 : Int, e = .returned (.agg #[.int .i64 n88_0, .int .i64 n88_1]) ∧
 ptrE p11 fun a34 =>
 stA Try.prog 61 a34 #[.int .i64 n88_0, .int .i64 n88_1] w33 fun w35 =>
 F17_2 R J1 m8 l75 p11 b12 l36 n37 n38 ds w35)) (
 runD Try.prog ds w26 fun w36 =>
 R (.returned (.tuple #[.int .i64 0, .int .i64 7])) w36)) (
 runD Try.prog ds w fun w37 =>
 R (.returned (.tuple #[.int .i64 0, .int .i64 7])) w37))
def F17_k7 (R : Rt) (J1 : (SV × Bool × Int) → World → Prop) : EP := (fun ρ ds w => dMap (ρ 8) fun m8 => dSl (ρ 10) fun l10 => dPtr (ρ 11) fun p11 => dBl (ρ 12) fun b12 => dSl (ρ 36) fun l36 => dInt .i64 (ρ 37) fun n37 => dInt .i64 (ρ 38) fun n38 => F17_3 R J1 m8 l10 p11 b12 l36 n37 n38 ds w)
def F17_4 (R : Rt) (J1 : (SV × Bool × Int) → World → Prop) (m8 : Option Nat) (l10 : SV) (p11 : Option Addr) (b12 : Bool) (l36 : SV) (n37 : Int) (n38 : Int) (ds : Ds) (w : World) : Prop :=
 Br (decide (n38 < n37)) (
 F17_3 R J1 m8 l10 p11 b12 l36 n37 n38 ds w) (
 F17_1 R p11 ds w)
def F17_5 (R : Rt) (m8 : Option Nat) (l10 : SV) (p11 : Option Addr) (b12 : Bool) (l36 : SV) (n37 : Int) (n38 : Int) (ds : Ds) (w : World) : Prop :=
 loopT (fun (J1 : (SV × Bool × Int) → World → Prop) (s : SV × Bool × Int) (w : World) => F17_4 R J1 m8 s.1 p11 s.2.1 l36 n37 s.2.2 ds w) (l10, b12, n38) w
@[reducible] def F17_6 (R : Rt) (m8 : Option Nat) (l10 : SV) (p11 : Option Addr) (b12 : Bool) (l36 : SV) (n37 : Int) (n38 : Int) (ds : Ds) (w : World) : Prop := F17_5 R m8 l10 p11 b12 l36 n37 n38 ds w
def F17_k8 (R : Rt) : EP := (fun ρ ds w => dMap (ρ 8) fun m8 => dSl (ρ 10) fun l10 => dPtr (ρ 11) fun p11 => dBl (ρ 12) fun b12 => dSl (ρ 36) fun l36 => dInt .i64 (ρ 37) fun n37 => dInt .i64 (ρ 38) fun n38 => F17_6 R m8 l10 p11 b12 l36 n37 n38 ds w)
def F17_7 (R : Rt) (l0 : SV) (s1 : ByteArray) (l2 : SV) (ds : Ds) (w : World) : Prop :=
 Calls Try.prog 45 #[.slice l0.a l0.len l0.cap, .string s1] w fun e w38 =>
 ∃ m19_0 : Option Nat, ∃ n19_1 : Int, e = .returned (.tuple #[.map m19_0, .int .i64 n19_1]) ∧
 Br (n19_1 != 0) (
 runD Try.prog ds w38 fun w39 =>
 R (.returned (.tuple #[.int .i64 0, .int .i64 n19_1])) w39) (
 Br (decide (((l2.len : Nat) : Int) > 1000)) (
 runD Try.prog ds w38 fun w40 =>
 R (.returned (.tuple #[.int .i64 0, .int .i64 3])) w40) (
 alE (.cells #[.string s1] 9) w38 fun r29 w41 =>
 ∃ n33_0 : Int, ∃ l33_1 : SV, ∃ w42 : World, (Instr.lookup 57 (.map m19_0) (.string s1) false).run Try.prog w41 = .ok (.agg #[.int .i64 n33_0, .slice l33_1.a l33_1.len l33_1.cap]) w42 ∧
 Calls Try.prog 46 #[.agg #[.int .i64 0, .int .i64 0], .int .i64 n33_0] w42 fun e w43 =>
 ∃ n35_0 : Int, ∃ n35_1 : Int, e = .returned (.agg #[.int .i64 n35_0, .int .i64 n35_1]) ∧
 alE (.cells #[.int .i64 0, .int .i64 0] 61) w43 fun r11 w44 =>
 stA Try.prog 61 (⟨r11, 0, none⟩ : Addr) #[.int .i64 n35_0, .int .i64 n35_1] w44 fun w45 =>
 F17_6 R m19_0 ⟨(some ⟨r29, 0, none⟩), 1, 1⟩ (some (⟨r11, 0, none⟩ : Addr)) true l2 ((l2.len : Nat) : Int) 0 ds w45))
theorem c17_l : flat (bodyOf Try.f17) = [c17_0, c17_1, c17_2, c17_3, c17_4, c17_5, c17_6, c17_7, c17_8, c17_9, c17_10, c17_11, c17_12] := by kernel_rfl
theorem c17_10_l : flat (innerC c17_10) = [c17_10_0] := by kernel_rfl
theorem c17_10_0_l : flat (innerC c17_10_0) = [c17_10_0_0, c17_10_0_1, c17_10_0_2, c17_10_0_3] := by kernel_rfl
theorem F17_1_ok (R : Rt) (p11 : Option Addr) (ds : Ds) (w : World) (ρ : Env) (e11 : ρ 11 = .pointer p11) (h : F17_1 R p11 ds w) :
    TrL Try.prog Try.f17.ntmps [c17_11, c17_12] (F17_q1 R) ρ ds w :=
  TrL_leaf (X := F17_1 R p11 ds w) (setAll_cons e11 setAll_nil) (by kernel_rfl) (by kernel_rfl) h
theorem F17_2_ok (R : Rt) (J1 : (SV × Bool × Int) → World → Prop) (m8 : Option Nat) (l10 : SV) (p11 : Option Addr) (b12 : Bool) (l36 : SV) (n37 : Int) (n38 : Int) (ds : Ds) (w : World) (ρ : Env) (e8 : ρ 8 = .map m8) (e10 : ρ 10 = .slice l10.a l10.len l10.cap) (e11 : ρ 11 = .pointer p11) (e12 : ρ 12 = .bool b12) (e36 : ρ 36 = .slice l36.a l36.len l36.cap) (e37 : ρ 37 = .int .i64 n37) (e38 : ρ 38 = .int .i64 n38) (h : F17_2 R J1 m8 l10 p11 b12 l36 n37 n38 ds w) :
    TrL Try.prog Try.f17.ntmps [c17_10_0_3] (F17_q5 R J1) ρ ds w :=
  TrL_leaf (X := F17_2 R J1 m8 l10 p11 b12 l36 n37 n38 ds w) (setAll_cons e8 (setAll_cons e10 (setAll_cons e11 (setAll_cons e12 (setAll_cons e36 (setAll_cons e37 (setAll_cons e38 setAll_nil))))))) (by kernel_rfl) (by kernel_rfl) h
theorem F17_3_ok (R : Rt) (J1 : (SV × Bool × Int) → World → Prop) (m8 : Option Nat) (l10 : SV) (p11 : Option Addr) (b12 : Bool) (l36 : SV) (n37 : Int) (n38 : Int) (ds : Ds) (w : World) (ρ : Env) (e8 : ρ 8 = .map m8) (e10 : ρ 10 = .slice l10.a l10.len l10.cap) (e11 : ρ 11 = .pointer p11) (e12 : ρ 12 = .bool b12) (e36 : ρ 36 = .slice l36.a l36.len l36.cap) (e37 : ρ 37 = .int .i64 n37) (e38 : ρ 38 = .int .i64 n38) (h : F17_3 R J1 m8 l10 p11 b12 l36 n37 n38 ds w) :
    TrL Try.prog Try.f17.ntmps [c17_10_0_2, c17_10_0_3] (F17_q5 R J1) ρ ds w :=
  TrL_piece (pre := [c17_10_0_2]) (K := (F17_k6 R J1)) (X := F17_3 R J1 m8 l10 p11 b12 l36 n37 n38 ds w) (setAll_cons e8 (setAll_cons e10 (setAll_cons e11 (setAll_cons e12 (setAll_cons e36 (setAll_cons e37 (setAll_cons e38 setAll_nil))))))) (by kernel_rfl) (by kernel_rfl)
    (fun ρ' ds' w' hD => by
      obtain ⟨m8, e8, hD⟩ := dMap_elim hD; obtain ⟨l10, e10, hD⟩ := dSl_elim hD; obtain ⟨p11, e11, hD⟩ := dPtr_elim hD; obtain ⟨b12, e12, hD⟩ := dBl_elim hD; obtain ⟨l36, e36, hD⟩ := dSl_elim hD; obtain ⟨n37, e37, hD⟩ := dInt_elim hD; obtain ⟨n38, e38, hD⟩ := dInt_elim hD; exact F17_2_ok R J1 m8 l10 p11 b12 l36 n37 n38 ds' w' ρ' e8 e10 e11 e12 e36 e37 e38 hD) h
theorem F17_4_ok (R : Rt) (J1 : (SV × Bool × Int) → World → Prop) (m8 : Option Nat) (l10 : SV) (p11 : Option Addr) (b12 : Bool) (l36 : SV) (n37 : Int) (n38 : Int) (ds : Ds) (w : World) (ρ : Env) (e8 : ρ 8 = .map m8) (e10 : ρ 10 = .slice l10.a l10.len l10.cap) (e11 : ρ 11 = .pointer p11) (e12 : ρ 12 = .bool b12) (e36 : ρ 36 = .slice l36.a l36.len l36.cap) (e37 : ρ 37 = .int .i64 n37) (e38 : ρ 38 = .int .i64 n38) (h : F17_4 R J1 m8 l10 p11 b12 l36 n37 n38 ds w) :
    TrL Try.prog Try.f17.ntmps [c17_10_0_0, c17_10_0_1, c17_10_0_2, c17_10_0_3] (F17_q5 R J1) ρ ds w :=
  TrL_piece (pre := [c17_10_0_0, c17_10_0_1]) (K := (F17_k7 R J1)) (X := F17_4 R J1 m8 l10 p11 b12 l36 n37 n38 ds w) (setAll_cons e8 (setAll_cons e10 (setAll_cons e11 (setAll_cons e12 (setAll_cons e36 (setAll_cons e37 (setAll_cons e38 setAll_nil))))))) (by kernel_rfl) (by kernel_rfl)
    (fun ρ' ds' w' hD => by
      obtain ⟨m8, e8, hD⟩ := dMap_elim hD; obtain ⟨l10, e10, hD⟩ := dSl_elim hD; obtain ⟨p11, e11, hD⟩ := dPtr_elim hD; obtain ⟨b12, e12, hD⟩ := dBl_elim hD; obtain ⟨l36, e36, hD⟩ := dSl_elim hD; obtain ⟨n37, e37, hD⟩ := dInt_elim hD; obtain ⟨n38, e38, hD⟩ := dInt_elim hD; exact F17_3_ok R J1 m8 l10 p11 b12 l36 n37 n38 ds' w' ρ' e8 e10 e11 e12 e36 e37 e38 hD) h
theorem F17_5_ok (R : Rt) (m8 : Option Nat) (l10 : SV) (p11 : Option Addr) (b12 : Bool) (l36 : SV) (n37 : Int) (n38 : Int) (ds : Ds) (w : World) (ρ : Env) (e8 : ρ 8 = .map m8) (e10 : ρ 10 = .slice l10.a l10.len l10.cap) (e11 : ρ 11 = .pointer p11) (e12 : ρ 12 = .bool b12) (e36 : ρ 36 = .slice l36.a l36.len l36.cap) (e37 : ρ 37 = .int .i64 n37) (e38 : ρ 38 = .int .i64 n38) (h : F17_5 R m8 l10 p11 b12 l36 n37 n38 ds w) :
    TrL Try.prog Try.f17.ntmps [c17_10_0] (F17_q4 R) ρ ds w :=
  TrL_one (Tr_loop' (c := innerC c17_10_0) (σ := SV × Bool × Int) (enc := (fun (s : SV × Bool × Int) (ρ : Env) => ρ 10 = .slice s.1.a s.1.len s.1.cap ∧ ρ 12 = .bool s.2.1 ∧ ρ 38 = .int .i64 s.2.2)) (D := (fun ρ K => dSl (ρ 10) fun l10 => dBl (ρ 12) fun b12 => dInt .i64 (ρ 38) fun n38 => K (l10, b12, n38))) (F := (fun (J1 : (SV × Bool × Int) → World → Prop) (s : SV × Bool × Int) (w : World) => F17_4 R J1 m8 s.1 p11 s.2.1 l36 n37 s.2.2 ds w)) (s0 := (l10, b12, n38)) (by kernel_rfl) c17_10_0_l ⟨e10, e12, e38⟩ (by kernel_rfl) (fun ρ K hD => by obtain ⟨l10, e10, hD⟩ := dSl_elim hD; obtain ⟨b12, e12, hD⟩ := dBl_elim hD; obtain ⟨n38, e38, hD⟩ := dInt_elim hD; exact ⟨(l10, b12, n38), ⟨e10, e12, e38⟩, hD⟩)
      (fun J1 s ρ' w' he ha hF => by
      obtain ⟨e10', e12', e38'⟩ := he
      exact F17_4_ok R J1 m8 s.1 p11 s.2.1 l36 n37 s.2.2 ds w' ρ' ((ha 8 (by kernel_rfl)).trans e8) e10' ((ha 11 (by kernel_rfl)).trans e11) e12' ((ha 36 (by kernel_rfl)).trans e36) ((ha 37 (by kernel_rfl)).trans e37) e38' hF) h)
theorem F17_6_ok (R : Rt) (m8 : Option Nat) (l10 : SV) (p11 : Option Addr) (b12 : Bool) (l36 : SV) (n37 : Int) (n38 : Int) (ds : Ds) (w : World) (ρ : Env) (e8 : ρ 8 = .map m8) (e10 : ρ 10 = .slice l10.a l10.len l10.cap) (e11 : ρ 11 = .pointer p11) (e12 : ρ 12 = .bool b12) (e36 : ρ 36 = .slice l36.a l36.len l36.cap) (e37 : ρ 37 = .int .i64 n37) (e38 : ρ 38 = .int .i64 n38) (h : F17_6 R m8 l10 p11 b12 l36 n37 n38 ds w) :
    TrL Try.prog Try.f17.ntmps [c17_10, c17_11, c17_12] (F17_q1 R) ρ ds w :=
  TrL_head (K := (F17_k2 R)) (Tr_block' (c := innerC c17_10) (by kernel_rfl) c17_10_l (F17_5_ok R m8 l10 p11 b12 l36 n37 n38 ds w ρ e8 e10 e11 e12 e36 e37 e38 h))
    (fun ρ' ds' w' hD => by
      obtain ⟨p11, e11, hD⟩ := dPtr_elim hD; exact F17_1_ok R p11 ds' w' ρ' e11 hD)
theorem F17_7_ok (R : Rt) (l0 : SV) (s1 : ByteArray) (l2 : SV) (ds : Ds) (w : World) (ρ : Env) (e0 : ρ 0 = .slice l0.a l0.len l0.cap) (e1 : ρ 1 = .string s1) (e2 : ρ 2 = .slice l2.a l2.len l2.cap) (h : F17_7 R l0 s1 l2 ds w) :
    TrL Try.prog Try.f17.ntmps [c17_0, c17_1, c17_2, c17_3, c17_4, c17_5, c17_6, c17_7, c17_8, c17_9, c17_10, c17_11, c17_12] (F17_q1 R) ρ ds w :=
  TrL_piece (pre := [c17_0, c17_1, c17_2, c17_3, c17_4, c17_5, c17_6, c17_7, c17_8, c17_9]) (K := (F17_k8 R)) (X := F17_7 R l0 s1 l2 ds w) (setAll_cons e0 (setAll_cons e1 (setAll_cons e2 setAll_nil))) (by kernel_rfl) (by kernel_rfl)
    (fun ρ' ds' w' hD => by
      obtain ⟨m8, e8, hD⟩ := dMap_elim hD; obtain ⟨l10, e10, hD⟩ := dSl_elim hD; obtain ⟨p11, e11, hD⟩ := dPtr_elim hD; obtain ⟨b12, e12, hD⟩ := dBl_elim hD; obtain ⟨l36, e36, hD⟩ := dSl_elim hD; obtain ⟨n37, e37, hD⟩ := dInt_elim hD; obtain ⟨n38, e38, hD⟩ := dInt_elim hD; exact F17_6_ok R m8 l10 p11 b12 l36 n37 n38 ds' w' ρ' e8 e10 e11 e12 e36 e37 e38 hD) h
theorem F17_calls (l0 : SV) (s1 : ByteArray) (l2 : SV) (w : World) (R : Rt) (h : F17_7 R l0 s1 l2 [] w) : Calls Try.prog 17 #[.slice l0.a l0.len l0.cap, .string s1, .slice l2.a l2.len l2.cap] w R :=
  calls_of_L (l := [c17_0, c17_1, c17_2, c17_3, c17_4, c17_5, c17_6, c17_7, c17_8, c17_9, c17_10, c17_11, c17_12]) Try.func17 (by kernel_rfl) (by rw [Try.ntmps17]; exact Nat.le_of_ble_eq_true (by kernel_rfl)) c17_l
    (F17_7_ok R l0 s1 l2 [] w _ rfl rfl rfl h)
theorem F17_callsD (l0 : SV) (s1 : ByteArray) (l2 : SV) (w : World) (R : Rt) (u : FrameMode) (h : F17_7 R l0 s1 l2 [] w) : CallsD Try.prog 17 #[.slice l0.a l0.len l0.cap, .string s1, .slice l2.a l2.len l2.cap] u w fun e u' w' => u' = u ∧ R e w' :=
  callsD_of_L (l := [c17_0, c17_1, c17_2, c17_3, c17_4, c17_5, c17_6, c17_7, c17_8, c17_9, c17_10, c17_11, c17_12]) Try.func17 (by kernel_rfl) (by rw [Try.ntmps17]; exact Nat.le_of_ble_eq_true (by kernel_rfl)) (by kernel_rfl) c17_l
    (F17_7_ok R l0 s1 l2 [] w _ rfl rfl rfl h) u

/-! function 18: cabinetry/link.Validate -/
noncomputable def c18_0 : Code := itemAt (flat (bodyOf Try.f18)) 0
noncomputable def c18_1 : Code := itemAt (flat (bodyOf Try.f18)) 1
noncomputable def c18_2 : Code := itemAt (flat (bodyOf Try.f18)) 2
noncomputable def c18_3 : Code := itemAt (flat (bodyOf Try.f18)) 3
noncomputable def c18_4 : Code := itemAt (flat (bodyOf Try.f18)) 4
noncomputable def c18_5 : Code := itemAt (flat (bodyOf Try.f18)) 5
noncomputable def c18_6 : Code := itemAt (flat (bodyOf Try.f18)) 6
noncomputable def c18_7 : Code := itemAt (flat (bodyOf Try.f18)) 7
noncomputable def c18_8 : Code := itemAt (flat (bodyOf Try.f18)) 8
noncomputable def c18_9 : Code := itemAt (flat (bodyOf Try.f18)) 9
noncomputable def c18_6_0 : Code := itemAt (flat (innerC c18_6)) 0
noncomputable def c18_6_0_0 : Code := itemAt (flat (innerC c18_6_0)) 0
noncomputable def c18_6_0_1 : Code := itemAt (flat (innerC c18_6_0)) 1
noncomputable def c18_6_0_2 : Code := itemAt (flat (innerC c18_6_0)) 2
noncomputable def c18_6_0_3 : Code := itemAt (flat (innerC c18_6_0)) 3
def F18_q1 (R : Rt) : EQ := endQ Try.prog Try.f18.results.toList R
def F18_1 (R : Rt) (l3 : SV) (l4 : SV) (b5 : Bool) (ds : Ds) (w : World) : Prop :=
 Br (!b5) (
 runD Try.prog ds w fun w1 =>
 R (.returned (.int .i64 10)) w1) (
 Calls Try.prog 50 #[.slice l3.a l3.len l3.cap] w fun e w2 =>
 ∃ b53 : Bool, e = .returned (.bool b53) ∧
 Br b53 (
 runD Try.prog ds w2 fun w3 =>
 R (.returned (.int .i64 5)) w3) (
 Calls Try.prog 50 #[.slice l4.a l4.len l4.cap] w2 fun e w4 =>
 ∃ b56 : Bool, e = .returned (.bool b56) ∧
 Br b56 (
 runD Try.prog ds w4 fun w5 =>
 R (.returned (.int .i64 5)) w5) (
 runD Try.prog ds w4 fun w6 =>
 R (.returned (.int .i64 0)) w6)))
def F18_k2 (R : Rt) : EP := (fun ρ ds w => dSl (ρ 3) fun l3 => dSl (ρ 4) fun l4 => dBl (ρ 5) fun b5 => F18_1 R l3 l4 b5 ds w)
def F18_q3 (R : Rt) : EQ := (thenQ (F18_k2 R) (F18_q1 R))
def F18_q4 (R : Rt) : EQ := (blockQ 0 (F18_q3 R))
def F18_q5 (R : Rt) (J1 : (SV × SV × Bool × Int) → World → Prop) : EQ := (thenQ (fun ρ _ w => dSl (ρ 3) fun l3 => dSl (ρ 4) fun l4 => dBl (ρ 5) fun b5 => dInt .i64 (ρ 12) fun n12 => J1 (l3, l4, b5, n12) w) (F18_q4 R))
def F18_2 (R : Rt) (J1 : (SV × SV × Bool × Int) → World → Prop) (l3 : SV) (l4 : SV) (b5 : Bool) (l10 : SV) (n11 : Int) (n12 : Int) (ds : Ds) (w : World) : Prop :=
 Br (decide (n12 < n11)) (
 ∃ a7 : Addr, l10.a = some a7 ∧ 0 ≤ n12 ∧ n12 < ((l10.len : Nat) : Int) ∧
 ∃ s15_0 : ByteArray, w.cell? ((a7.add (n12.toNat * 5)).add 0) = some (.string s15_0) ∧
 ∃ n15_1 : Int, w.cell? ((a7.add (n12.toNat * 5)).add 1) = some (.int .i64 n15_1) ∧
 ∃ l15_2 : SV, w.cell? ((a7.add (n12.toNat * 5)).add 2) = some (.slice l15_2.a l15_2.len l15_2.cap) ∧
 ∃ l15_3 : SV, w.cell? ((a7.add (n12.toNat * 5)).add 3) = some (.slice l15_3.a l15_3.len l15_3.cap) ∧
 ∃ l15_4 : SV, w.cell? ((a7.add (n12.toNat * 5)).add 4) = some (.slice l15_4.a l15_4.len l15_4.cap) ∧
 alE (.cells #[.string (⟨#[]⟩ : ByteArray), .int .i64 0, .slice none 0 0, .slice none 0 0, .slice none 0 0] 33) w fun r7 w8 =>
 stA Try.prog 33 (⟨r7, 0, none⟩ : Addr) #[.string s15_0, .int .i64 n15_1, .slice l15_2.a l15_2.len l15_2.cap, .slice l15_3.a l15_3.len l15_3.cap, .slice l15_4.a l15_4.len l15_4.cap] w8 fun w9 =>
 ∃ s16_0 : ByteArray, w9.cell? ((⟨r7, 0, none⟩ : Addr).add 0) = some (.string s16_0) ∧
 ∃ n16_1 : Int, w9.cell? ((⟨r7, 0, none⟩ : Addr).add 1) = some (.int .i64 n16_1) ∧
 ∃ l16_2 : SV, w9.cell? ((⟨r7, 0, none⟩ : Addr).add 2) = some (.slice l16_2.a l16_2.len l16_2.cap) ∧
 ∃ l16_3 : SV, w9.cell? ((⟨r7, 0, none⟩ : Addr).add 3) = some (.slice l16_3.a l16_3.len l16_3.cap) ∧
 ∃ l16_4 : SV, w9.cell? ((⟨r7, 0, none⟩ : Addr).add 4) = some (.slice l16_4.a l16_4.len l16_4.cap) ∧
 Calls Try.prog 49 #[.agg #[.string s16_0, .int .i64 n16_1, .slice l16_2.a l16_2.len l16_2.cap, .slice l16_3.a l16_3.len l16_3.cap, .slice l16_4.a l16_4.len l16_4.cap]] w9 fun e w10 =>
 ∃ b17 : Bool, e = .returned (.bool b17) ∧
 Br (!b17) (
 runD Try.prog ds w10 fun w11 =>
 R (.returned (.int .i64 1)) w11) (
 dwE w10 fun w12 =>
 ∃ S1 : World → Prop, S1 w12 ∧
 ∃ s21 : ByteArray, (∀ w', S1 w' → w'.cell? (⟨r7, 0, none⟩ : Addr) = some (.string s21)) ∧
 ∃ l26 : SV, (∀ w', S1 w' → w'.cell? ((⟨r7, 0, none⟩ : Addr).add 2) = some (.slice l26.a l26.len l26.cap)) ∧
 alE (.cells #[.string s21] 9) w12 fun r22 w13 =>
 S1 w13 ∧
 ∃ l23 : SV, ∃ w14 : World, (Builtin.append_ #[23, 23] 23 #[.slice l3.a l3.len l3.cap, .slice (some ⟨r22, 0, none⟩) 1 1]).run Try.prog w13 = .ok (.slice l23.a l23.len l23.cap) w14 ∧
 S1 w14 ∧
 ∃ l27 : SV, ∃ w15 : World, (Builtin.append_ #[23, 23] 23 #[.slice l4.a l4.len l4.cap, .slice l26.a l26.len l26.cap]).run Try.prog w14 = .ok (.slice l27.a l27.len l27.cap) w15 ∧
 Br b5 (
 ∃ l31 : SV, w15.cell? ((⟨r7, 0, none⟩ : Addr).add 3) = some (.slice l31.a l31.len l31.cap) ∧
 ∃ l34 : SV, w15.cell? ((⟨r7, 0, none⟩ : Addr).add 2) = some (.slice l34.a l34.len l34.cap) ∧
 Br (((l31.len : Nat) : Int) == ((l34.len : Nat) : Int)) (
 ∃ l40 : SV, w15.cell? ((⟨r7, 0, none⟩ : Addr).add 4) = some (.slice l40.a l40.len l40.cap) ∧
 ∃ l43 : SV, w15.cell? ((⟨r7, 0, none⟩ : Addr).add 2) = some (.slice l43.a l43.len l43.cap) ∧
 J1 (l23, l27, (((l40.len : Nat) : Int) == ((l43.len : Nat) : Int)), (IntKind.i64.wrap (n12 + 1))) w15) (
 J1 (l23, l27, false, (IntKind.i64.wrap (n12 + 1))) w15)) (
 J1 (l23, l27, false, (IntKind.i64.wrap (n12 + 1))) w15))) (
 F18_1 R l3 l4 b5 ds w)
def F18_3 (R : Rt) (l3 : SV) (l4 : SV) (b5 : Bool) (l10 : SV) (n11 : Int) (n12 : Int) (ds : Ds) (w : World) : Prop :=
 loopT (fun (J1 : (SV × SV × Bool × Int) → World → Prop) (s : SV × SV × Bool × Int) (w : World) => F18_2 R J1 s.1 s.2.1 s.2.2.1 l10 n11 s.2.2.2 ds w) (l3, l4, b5, n12) w
@[reducible] def F18_4 (R : Rt) (l3 : SV) (l4 : SV) (b5 : Bool) (l10 : SV) (n11 : Int) (n12 : Int) (ds : Ds) (w : World) : Prop := F18_3 R l3 l4 b5 l10 n11 n12 ds w
def F18_k6 (R : Rt) : EP := (fun ρ ds w => dSl (ρ 3) fun l3 => dSl (ρ 4) fun l4 => dBl (ρ 5) fun b5 => dSl (ρ 10) fun l10 => dInt .i64 (ρ 11) fun n11 => dInt .i64 (ρ 12) fun n12 => F18_4 R l3 l4 b5 l10 n11 n12 ds w)
def F18_5 (R : Rt) (l0 : SV) (ds : Ds) (w : World) : Prop :=
 Calls Try.prog 48 #[.slice l0.a l0.len l0.cap] w fun e w16 =>
 ∃ b9 : Bool, e = .returned (.bool b9) ∧
 Br b9 (
 runD Try.prog ds w16 fun w17 =>
 R (.returned (.int .i64 3)) w17) (
 F18_4 R ⟨none, 0, 0⟩ ⟨none, 0, 0⟩ true l0 ((l0.len : Nat) : Int) 0 ds w16)
theorem c18_l : flat (bodyOf Try.f18) = [c18_0, c18_1, c18_2, c18_3, c18_4, c18_5, c18_6, c18_7, c18_8, c18_9] := by kernel_rfl
theorem c18_6_l : flat (innerC c18_6) = [c18_6_0] := by kernel_rfl
theorem c18_6_0_l : flat (innerC c18_6_0) = [c18_6_0_0, c18_6_0_1, c18_6_0_2, c18_6_0_3] := by kernel_rfl
theorem F18_1_ok (R : Rt) (l3 : SV) (l4 : SV) (b5 : Bool) (ds : Ds) (w : World) (ρ : Env) (e3 : ρ 3 = .slice l3.a l3.len l3.cap) (e4 : ρ 4 = .slice l4.a l4.len l4.cap) (e5 : ρ 5 = .bool b5) (h : F18_1 R l3 l4 b5 ds w) :
    TrL Try.prog Try.f18.ntmps [c18_7, c18_8, c18_9] (F18_q1 R) ρ ds w :=
  TrL_leaf (X := F18_1 R l3 l4 b5 ds w) (setAll_cons e3 (setAll_cons e4 (setAll_cons e5 setAll_nil))) (by kernel_rfl) (by kernel_rfl) h
theorem F18_2_ok (R : Rt) (J1 : (SV × SV × Bool × Int) → World → Prop) (l3 : SV) (l4 : SV) (b5 : Bool) (l10 : SV) (n11 : Int) (n12 : Int) (ds : Ds) (w : World) (ρ : Env) (e3 : ρ 3 = .slice l3.a l3.len l3.cap) (e4 : ρ 4 = .slice l4.a l4.len l4.cap) (e5 : ρ 5 = .bool b5) (e10 : ρ 10 = .slice l10.a l10.len l10.cap) (e11 : ρ 11 = .int .i64 n11) (e12 : ρ 12 = .int .i64 n12) (h : F18_2 R J1 l3 l4 b5 l10 n11 n12 ds w) :
    TrL Try.prog Try.f18.ntmps [c18_6_0_0, c18_6_0_1, c18_6_0_2, c18_6_0_3] (F18_q5 R J1) ρ ds w :=
  TrL_leaf (X := F18_2 R J1 l3 l4 b5 l10 n11 n12 ds w) (setAll_cons e3 (setAll_cons e4 (setAll_cons e5 (setAll_cons e10 (setAll_cons e11 (setAll_cons e12 setAll_nil)))))) (by kernel_rfl) (by kernel_rfl) h
theorem F18_3_ok (R : Rt) (l3 : SV) (l4 : SV) (b5 : Bool) (l10 : SV) (n11 : Int) (n12 : Int) (ds : Ds) (w : World) (ρ : Env) (e3 : ρ 3 = .slice l3.a l3.len l3.cap) (e4 : ρ 4 = .slice l4.a l4.len l4.cap) (e5 : ρ 5 = .bool b5) (e10 : ρ 10 = .slice l10.a l10.len l10.cap) (e11 : ρ 11 = .int .i64 n11) (e12 : ρ 12 = .int .i64 n12) (h : F18_3 R l3 l4 b5 l10 n11 n12 ds w) :
    TrL Try.prog Try.f18.ntmps [c18_6_0] (F18_q4 R) ρ ds w :=
  TrL_one (Tr_loop' (c := innerC c18_6_0) (σ := SV × SV × Bool × Int) (enc := (fun (s : SV × SV × Bool × Int) (ρ : Env) => ρ 3 = .slice s.1.a s.1.len s.1.cap ∧ ρ 4 = .slice s.2.1.a s.2.1.len s.2.1.cap ∧ ρ 5 = .bool s.2.2.1 ∧ ρ 12 = .int .i64 s.2.2.2)) (D := (fun ρ K => dSl (ρ 3) fun l3 => dSl (ρ 4) fun l4 => dBl (ρ 5) fun b5 => dInt .i64 (ρ 12) fun n12 => K (l3, l4, b5, n12))) (F := (fun (J1 : (SV × SV × Bool × Int) → World → Prop) (s : SV × SV × Bool × Int) (w : World) => F18_2 R J1 s.1 s.2.1 s.2.2.1 l10 n11 s.2.2.2 ds w)) (s0 := (l3, l4, b5, n12)) (by kernel_rfl) c18_6_0_l ⟨e3, e4, e5, e12⟩ (by kernel_rfl) (fun ρ K hD => by obtain ⟨l3, e3, hD⟩ := dSl_elim hD; obtain ⟨l4, e4, hD⟩ := dSl_elim hD; obtain ⟨b5, e5, hD⟩ := dBl_elim hD; obtain ⟨n12, e12, hD⟩ := dInt_elim hD; exact ⟨(l3, l4, b5, n12), ⟨e3, e4, e5, e12⟩, hD⟩)
      (fun J1 s ρ' w' he ha hF => by
      obtain ⟨e3', e4', e5', e12'⟩ := he
      exact F18_2_ok R J1 s.1 s.2.1 s.2.2.1 l10 n11 s.2.2.2 ds w' ρ' e3' e4' e5' ((ha 10 (by kernel_rfl)).trans e10) ((ha 11 (by kernel_rfl)).trans e11) e12' hF) h)
theorem F18_4_ok (R : Rt) (l3 : SV) (l4 : SV) (b5 : Bool) (l10 : SV) (n11 : Int) (n12 : Int) (ds : Ds) (w : World) (ρ : Env) (e3 : ρ 3 = .slice l3.a l3.len l3.cap) (e4 : ρ 4 = .slice l4.a l4.len l4.cap) (e5 : ρ 5 = .bool b5) (e10 : ρ 10 = .slice l10.a l10.len l10.cap) (e11 : ρ 11 = .int .i64 n11) (e12 : ρ 12 = .int .i64 n12) (h : F18_4 R l3 l4 b5 l10 n11 n12 ds w) :
    TrL Try.prog Try.f18.ntmps [c18_6, c18_7, c18_8, c18_9] (F18_q1 R) ρ ds w :=
  TrL_head (K := (F18_k2 R)) (Tr_block' (c := innerC c18_6) (by kernel_rfl) c18_6_l (F18_3_ok R l3 l4 b5 l10 n11 n12 ds w ρ e3 e4 e5 e10 e11 e12 h))
    (fun ρ' ds' w' hD => by
      obtain ⟨l3, e3, hD⟩ := dSl_elim hD; obtain ⟨l4, e4, hD⟩ := dSl_elim hD; obtain ⟨b5, e5, hD⟩ := dBl_elim hD; exact F18_1_ok R l3 l4 b5 ds' w' ρ' e3 e4 e5 hD)
theorem F18_5_ok (R : Rt) (l0 : SV) (ds : Ds) (w : World) (ρ : Env) (e0 : ρ 0 = .slice l0.a l0.len l0.cap) (h : F18_5 R l0 ds w) :
    TrL Try.prog Try.f18.ntmps [c18_0, c18_1, c18_2, c18_3, c18_4, c18_5, c18_6, c18_7, c18_8, c18_9] (F18_q1 R) ρ ds w :=
  TrL_piece (pre := [c18_0, c18_1, c18_2, c18_3, c18_4, c18_5]) (K := (F18_k6 R)) (X := F18_5 R l0 ds w) (setAll_cons e0 setAll_nil) (by kernel_rfl) (by kernel_rfl)
    (fun ρ' ds' w' hD => by
      obtain ⟨l3, e3, hD⟩ := dSl_elim hD; obtain ⟨l4, e4, hD⟩ := dSl_elim hD; obtain ⟨b5, e5, hD⟩ := dBl_elim hD; obtain ⟨l10, e10, hD⟩ := dSl_elim hD; obtain ⟨n11, e11, hD⟩ := dInt_elim hD; obtain ⟨n12, e12, hD⟩ := dInt_elim hD; exact F18_4_ok R l3 l4 b5 l10 n11 n12 ds' w' ρ' e3 e4 e5 e10 e11 e12 hD) h
theorem F18_calls (l0 : SV) (w : World) (R : Rt) (h : F18_5 R l0 [] w) : Calls Try.prog 18 #[.slice l0.a l0.len l0.cap] w R :=
  calls_of_L (l := [c18_0, c18_1, c18_2, c18_3, c18_4, c18_5, c18_6, c18_7, c18_8, c18_9]) Try.func18 (by kernel_rfl) (by rw [Try.ntmps18]; exact Nat.le_of_ble_eq_true (by kernel_rfl)) c18_l
    (F18_5_ok R l0 [] w _ rfl h)
theorem F18_callsD (l0 : SV) (w : World) (R : Rt) (u : FrameMode) (h : F18_5 R l0 [] w) : CallsD Try.prog 18 #[.slice l0.a l0.len l0.cap] u w fun e u' w' => u' = u ∧ R e w' :=
  callsD_of_L (l := [c18_0, c18_1, c18_2, c18_3, c18_4, c18_5, c18_6, c18_7, c18_8, c18_9]) Try.func18 (by kernel_rfl) (by rw [Try.ntmps18]; exact Nat.le_of_ble_eq_true (by kernel_rfl)) (by kernel_rfl) c18_l
    (F18_5_ok R l0 [] w _ rfl h) u

/-! function 22: cabinetry/link.Sizes -/
noncomputable def c22_0 : Code := itemAt (flat (bodyOf Try.f22)) 0
noncomputable def c22_1 : Code := itemAt (flat (bodyOf Try.f22)) 1
noncomputable def c22_2 : Code := itemAt (flat (bodyOf Try.f22)) 2
noncomputable def c22_3 : Code := itemAt (flat (bodyOf Try.f22)) 3
noncomputable def c22_4 : Code := itemAt (flat (bodyOf Try.f22)) 4
noncomputable def c22_5 : Code := itemAt (flat (bodyOf Try.f22)) 5
noncomputable def c22_6 : Code := itemAt (flat (bodyOf Try.f22)) 6
def F22_q1 (R : Rt) : EQ := endQ Try.prog Try.f22.results.toList R
def F22_1 (R : Rt) (l0 : SV) (ds : Ds) (w : World) : Prop :=
 Calls Try.prog 18 #[.slice l0.a l0.len l0.cap] w fun e w1 =>
 ∃ n8 : Int, e = .returned (.int .i64 n8) ∧
 Br (n8 != 0) (
 runD Try.prog ds w1 fun w2 =>
 R (.returned (.tuple #[.int .i64 0, .int .i64 0, .int .i64 n8])) w2) (
 Calls Try.prog 56 #[.slice l0.a l0.len l0.cap] w1 fun e w3 =>
 ∃ n13_0 : Int, ∃ n13_1 : Int, ∃ n13_2 : Int, ∃ n13_3 : Int, ∃ n13_4 : Int, ∃ n13_5 : Int, ∃ n13_6 : Int, ∃ n13_7 : Int, ∃ n13_8 : Int, ∃ n13_9 : Int, ∃ n13_10 : Int, ∃ n13_11 : Int, ∃ n13_12 : Int, ∃ n13_13 : Int, ∃ n13_14 : Int, ∃ n13_15 : Int, e = .returned (.agg #[.int .i64 n13_0, .int .i64 n13_1, .int .i64 n13_2, .int .i64 n13_3, .int .i64 n13_4, .int .i64 n13_5, .int .i64 n13_6, .int .i64 n13_7, .int .i64 n13_8, .int .i64 n13_9, .int .i64 n13_10, .int .i64 n13_11, .int .i64 n13_12, .int .i64 n13_13, .int .i64 n13_14, .int .i64 n13_15]) ∧
 alE (.cells #[.int .i64 0, .int .i64 0, .int .i64 0, .int .i64 0, .int .i64 0, .int .i64 0, .int .i64 0, .int .i64 0, .int .i64 0, .int .i64 0, .int .i64 0, .int .i64 0, .int .i64 0, .int .i64 0, .int .i64 0, .int .i64 0] 77) w3 fun r6 w4 =>
 stA Try.prog 77 (⟨r6, 0, none⟩ : Addr) #[.int .i64 n13_0, .int .i64 n13_1, .int .i64 n13_2, .int .i64 n13_3, .int .i64 n13_4, .int .i64 n13_5, .int .i64 n13_6, .int .i64 n13_7, .int .i64 n13_8, .int .i64 n13_9, .int .i64 n13_10, .int .i64 n13_11, .int .i64 n13_12, .int .i64 n13_13, .int .i64 n13_14, .int .i64 n13_15] w4 fun w5 =>
 dwE w5 fun w6 =>
 ∃ S1 : World → Prop, S1 w6 ∧
 0 ≤ (0 : Int) ∧ (0 : Int) < ((16 : Nat) : Int) ∧
 ∃ n15 : Int, (∀ w', S1 w' → w'.cell? ((⟨r6, 0, none⟩ : Addr).add ((0 : Int).toNat * 1)) = some (.int .i64 n15)) ∧
 16 ≤ 16 ∧ 0 ≤ (1 : Int) ∧ (1 : Int).toNat ≤ 16 ∧
 Calls Try.prog 57 #[.slice (some (if 16 = (1 : Int).toNat then (⟨r6, 0, none⟩ : Addr) else (⟨r6, 0, none⟩ : Addr).add ((1 : Int).toNat * 1))) (16 - (1 : Int).toNat) (16 - (1 : Int).toNat)] w6 fun e w7 =>
 ∃ n17 : Int, e = .returned (.int .i64 n17) ∧
 S1 w7 ∧
 runD Try.prog ds w7 fun w8 =>
 R (.returned (.tuple #[.int .i64 n15, .int .i64 n17, .int .i64 0])) w8)
theorem c22_l : flat (bodyOf Try.f22) = [c22_0, c22_1, c22_2, c22_3, c22_4, c22_5, c22_6] := by kernel_rfl
theorem F22_1_ok (R : Rt) (l0 : SV) (ds : Ds) (w : World) (ρ : Env) (e0 : ρ 0 = .slice l0.a l0.len l0.cap) (h : F22_1 R l0 ds w) :
    TrL Try.prog Try.f22.ntmps [c22_0, c22_1, c22_2, c22_3, c22_4, c22_5, c22_6] (F22_q1 R) ρ ds w :=
  TrL_leaf (X := F22_1 R l0 ds w) (setAll_cons e0 setAll_nil) (by kernel_rfl) (by kernel_rfl) h
theorem F22_calls (l0 : SV) (w : World) (R : Rt) (h : F22_1 R l0 [] w) : Calls Try.prog 22 #[.slice l0.a l0.len l0.cap] w R :=
  calls_of_L (l := [c22_0, c22_1, c22_2, c22_3, c22_4, c22_5, c22_6]) Try.func22 (by kernel_rfl) (by rw [Try.ntmps22]; exact Nat.le_of_ble_eq_true (by kernel_rfl)) c22_l
    (F22_1_ok R l0 [] w _ rfl h)
theorem F22_callsD (l0 : SV) (w : World) (R : Rt) (u : FrameMode) (h : F22_1 R l0 [] w) : CallsD Try.prog 22 #[.slice l0.a l0.len l0.cap] u w fun e u' w' => u' = u ∧ R e w' :=
  callsD_of_L (l := [c22_0, c22_1, c22_2, c22_3, c22_4, c22_5, c22_6]) Try.func22 (by kernel_rfl) (by rw [Try.ntmps22]; exact Nat.le_of_ble_eq_true (by kernel_rfl)) (by kernel_rfl) c22_l
    (F22_1_ok R l0 [] w _ rfl h) u

/-! function 44: cabinetry/cabinetrylaw24.example -/
noncomputable def c44_0 : Code := itemAt (flat (bodyOf Try.f44)) 0
noncomputable def c44_1 : Code := itemAt (flat (bodyOf Try.f44)) 1
noncomputable def c44_2 : Code := itemAt (flat (bodyOf Try.f44)) 2
def F44_q1 (R : Rt) : EQ := endQ Try.prog Try.f44.results.toList R
def F44_1 (R : Rt) (ds : Ds) (w : World) : Prop :=
 alE (.cells #[.string (⟨#[65]⟩ : ByteArray)] 9) w fun r1 w1 =>
 alE (.cells #[.int .i64 10] 3) w1 fun r2 w2 =>
 alE (.cells #[.string (⟨#[66]⟩ : ByteArray)] 9) w2 fun r3 w3 =>
 alE (.cells #[.slice (some ⟨r3, 0, none⟩) 1 1] 23) w3 fun r4 w4 =>
 alE (.cells #[.string (⟨#[66]⟩ : ByteArray)] 9) w4 fun r6 w5 =>
 alE (.cells #[.int .i64 20] 3) w5 fun r7 w6 =>
 alE (.cells #[.slice none 0 0] 23) w6 fun r8 w7 =>
 alE (.cells #[.string (⟨#[77]⟩ : ByteArray), .int .i64 1, .slice (some ⟨r1, 0, none⟩) 1 1, .slice (some ⟨r2, 0, none⟩) 1 1, .slice (some ⟨r4, 0, none⟩) 1 1, .string (⟨#[78]⟩ : ByteArray), .int .i64 2, .slice (some ⟨r6, 0, none⟩) 1 1, .slice (some ⟨r7, 0, none⟩) 1 1, .slice (some ⟨r8, 0, none⟩) 1 1] 33) w7 fun r10 w8 =>
 runD Try.prog ds w8 fun w9 =>
 R (.returned (.slice (some ⟨r10, 0, none⟩) 2 2)) w9
theorem c44_l : flat (bodyOf Try.f44) = [c44_0, c44_1, c44_2] := by kernel_rfl
theorem F44_1_ok (R : Rt) (ds : Ds) (w : World) (ρ : Env) (h : F44_1 R ds w) :
    TrL Try.prog Try.f44.ntmps [c44_0, c44_1, c44_2] (F44_q1 R) ρ ds w :=
  TrL_leaf (X := F44_1 R ds w) setAll_nil (by kernel_rfl) (by kernel_rfl) h
theorem F44_calls  (w : World) (R : Rt) (h : F44_1 R [] w) : Calls Try.prog 44 #[] w R :=
  calls_of_L (l := [c44_0, c44_1, c44_2]) Try.func44 (by kernel_rfl) (by rw [Try.ntmps44]; exact Nat.le_of_ble_eq_true (by kernel_rfl)) c44_l
    (F44_1_ok R [] w _  h)
theorem F44_callsD  (w : World) (R : Rt) (u : FrameMode) (h : F44_1 R [] w) : CallsD Try.prog 44 #[] u w fun e u' w' => u' = u ∧ R e w' :=
  callsD_of_L (l := [c44_0, c44_1, c44_2]) Try.func44 (by kernel_rfl) (by rw [Try.ntmps44]; exact Nat.le_of_ble_eq_true (by kernel_rfl)) (by kernel_rfl) c44_l
    (F44_1_ok R [] w _  h) u

/-! function 45: cabinetry/link.openFrom -/
noncomputable def c45_0 : Code := itemAt (flat (bodyOf Try.f45)) 0
noncomputable def c45_1 : Code := itemAt (flat (bodyOf Try.f45)) 1
noncomputable def c45_2 : Code := itemAt (flat (bodyOf Try.f45)) 2
noncomputable def c45_3 : Code := itemAt (flat (bodyOf Try.f45)) 3
noncomputable def c45_4 : Code := itemAt (flat (bodyOf Try.f45)) 4
noncomputable def c45_5 : Code := itemAt (flat (bodyOf Try.f45)) 5
noncomputable def c45_6 : Code := itemAt (flat (bodyOf Try.f45)) 6
noncomputable def c45_7 : Code := itemAt (flat (bodyOf Try.f45)) 7
noncomputable def c45_8 : Code := itemAt (flat (bodyOf Try.f45)) 8
def F45_q1 (R : Rt) : EQ := endQ Try.prog Try.f45.results.toList R
def F45_1 (R : Rt) (l0 : SV) (s1 : ByteArray) (ds : Ds) (w : World) : Prop :=
 Calls Try.prog 62 #[.slice l0.a l0.len l0.cap] w fun e w1 =>
 ∃ m12_0 : Option Nat, ∃ n12_1 : Int, e = .returned (.tuple #[.map m12_0, .int .i64 n12_1]) ∧
 Br (n12_1 != 0) (
 runD Try.prog ds w1 fun w2 =>
 R (.returned (.tuple #[.map none, .int .i64 n12_1])) w2) (
 ∃ n21_0_0 : Int, ∃ l21_0_1 : SV, ∃ b21_1 : Bool, ∃ w3 : World, (Instr.lookup 57 (.map m12_0) (.string s1) true).run Try.prog w1 = .ok (.tuple #[.agg #[.int .i64 n21_0_0, .slice l21_0_1.a l21_0_1.len l21_0_1.cap], .bool b21_1]) w3 ∧
 alE (.cells #[.int .i64 0, .slice none 0 0] 64) w3 fun r8 w4 =>
 stA Try.prog 64 (⟨r8, 0, none⟩ : Addr) #[.int .i64 n21_0_0, .slice l21_0_1.a l21_0_1.len l21_0_1.cap] w4 fun w5 =>
 Br (!b21_1) (
 runD Try.prog ds w5 fun w6 =>
 R (.returned (.tuple #[.map none, .int .i64 4])) w6) (
 runD Try.prog ds w5 fun w7 =>
 R (.returned (.tuple #[.map m12_0, .int .i64 0])) w7))
theorem c45_l : flat (bodyOf Try.f45) = [c45_0, c45_1, c45_2, c45_3, c45_4, c45_5, c45_6, c45_7, c45_8] := by kernel_rfl
theorem F45_1_ok (R : Rt) (l0 : SV) (s1 : ByteArray) (ds : Ds) (w : World) (ρ : Env) (e0 : ρ 0 = .slice l0.a l0.len l0.cap) (e1 : ρ 1 = .string s1) (h : F45_1 R l0 s1 ds w) :
    TrL Try.prog Try.f45.ntmps [c45_0, c45_1, c45_2, c45_3, c45_4, c45_5, c45_6, c45_7, c45_8] (F45_q1 R) ρ ds w :=
  TrL_leaf (X := F45_1 R l0 s1 ds w) (setAll_cons e0 (setAll_cons e1 setAll_nil)) (by kernel_rfl) (by kernel_rfl) h
theorem F45_calls (l0 : SV) (s1 : ByteArray) (w : World) (R : Rt) (h : F45_1 R l0 s1 [] w) : Calls Try.prog 45 #[.slice l0.a l0.len l0.cap, .string s1] w R :=
  calls_of_L (l := [c45_0, c45_1, c45_2, c45_3, c45_4, c45_5, c45_6, c45_7, c45_8]) Try.func45 (by kernel_rfl) (by rw [Try.ntmps45]; exact Nat.le_of_ble_eq_true (by kernel_rfl)) c45_l
    (F45_1_ok R l0 s1 [] w _ rfl rfl h)
theorem F45_callsD (l0 : SV) (s1 : ByteArray) (w : World) (R : Rt) (u : FrameMode) (h : F45_1 R l0 s1 [] w) : CallsD Try.prog 45 #[.slice l0.a l0.len l0.cap, .string s1] u w fun e u' w' => u' = u ∧ R e w' :=
  callsD_of_L (l := [c45_0, c45_1, c45_2, c45_3, c45_4, c45_5, c45_6, c45_7, c45_8]) Try.func45 (by kernel_rfl) (by rw [Try.ntmps45]; exact Nat.le_of_ble_eq_true (by kernel_rfl)) (by kernel_rfl) c45_l
    (F45_1_ok R l0 s1 [] w _ rfl rfl h) u

/-! function 46: (cabinetry/link.room).enter -/
noncomputable def c46_0 : Code := itemAt (flat (bodyOf Try.f46)) 0
noncomputable def c46_1 : Code := itemAt (flat (bodyOf Try.f46)) 1
noncomputable def c46_2 : Code := itemAt (flat (bodyOf Try.f46)) 2
noncomputable def c46_3 : Code := itemAt (flat (bodyOf Try.f46)) 3
noncomputable def c46_4 : Code := itemAt (flat (bodyOf Try.f46)) 4
def F46_q1 (R : Rt) : EQ := endQ Try.prog Try.f46.results.toList R
def F46_1 (R : Rt) (n0_0 : Int) (n0_1 : Int) (n1 : Int) (ds : Ds) (w : World) : Prop :=
 alE (.cells #[.int .i64 n0_0, .int .i64 n0_1] 61) w fun r2 w1 =>
 alE (.cells #[.int .i64 0, .int .i64 0] 61) w1 fun r4 w2 =>
 Br (n1 == 0) (
 ∃ n13_0 : Int, w2.cell? ((⟨r2, 0, none⟩ : Addr).add 0) = some (.int .i64 n13_0) ∧
 ∃ n13_1 : Int, w2.cell? ((⟨r2, 0, none⟩ : Addr).add 1) = some (.int .i64 n13_1) ∧
 stA Try.prog 61 (⟨r4, 0, none⟩ : Addr) #[.int .i64 n13_0, .int .i64 n13_1] w2 fun w3 =>
 runD Try.prog ds w3 fun w4 =>
 ∃ nR0_0 : Int, w4.cell? ((⟨r4, 0, none⟩ : Addr).add 0) = some (.int .i64 nR0_0) ∧
 ∃ nR0_1 : Int, w4.cell? ((⟨r4, 0, none⟩ : Addr).add 1) = some (.int .i64 nR0_1) ∧
 R (.returned (.agg #[.int .i64 nR0_0, .int .i64 nR0_1])) w4) (
 ∃ n10 : Int, w2.cell? (⟨r2, 0, none⟩ : Addr) = some (.int .i64 n10) ∧
 Br (n1 == n10) (
 ∃ n13_0 : Int, w2.cell? ((⟨r2, 0, none⟩ : Addr).add 0) = some (.int .i64 n13_0) ∧
 ∃ n13_1 : Int, w2.cell? ((⟨r2, 0, none⟩ : Addr).add 1) = some (.int .i64 n13_1) ∧
 stA Try.prog 61 (⟨r4, 0, none⟩ : Addr) #[.int .i64 n13_0, .int .i64 n13_1] w2 fun w5 =>
 runD Try.prog ds w5 fun w6 =>
 ∃ nR0_0 : Int, w6.cell? ((⟨r4, 0, none⟩ : Addr).add 0) = some (.int .i64 nR0_0) ∧
 ∃ nR0_1 : Int, w6.cell? ((⟨r4, 0, none⟩ : Addr).add 1) = some (.int .i64 nR0_1) ∧
 R (.returned (.agg #[.int .i64 nR0_0, .int .i64 nR0_1])) w6) (
 ∃ n16 : Int, w2.cell? ((⟨r2, 0, none⟩ : Addr).add 1) = some (.int .i64 n16) ∧
 stA Try.prog 61 (⟨r4, 0, none⟩ : Addr) #[.int .i64 n1, .int .i64 (IntKind.i64.wrap (n16 + 1))] w2 fun w7 =>
 runD Try.prog ds w7 fun w8 =>
 ∃ nR0_0 : Int, w8.cell? ((⟨r4, 0, none⟩ : Addr).add 0) = some (.int .i64 nR0_0) ∧
 ∃ nR0_1 : Int, w8.cell? ((⟨r4, 0, none⟩ : Addr).add 1) = some (.int .i64 nR0_1) ∧
 R (.returned (.agg #[.int .i64 nR0_0, .int .i64 nR0_1])) w8))
theorem c46_l : flat (bodyOf Try.f46) = [c46_0, c46_1, c46_2, c46_3, c46_4] := by kernel_rfl
theorem F46_1_ok (R : Rt) (n0_0 : Int) (n0_1 : Int) (n1 : Int) (ds : Ds) (w : World) (ρ : Env) (e0 : ρ 0 = .agg #[.int .i64 n0_0, .int .i64 n0_1]) (e1 : ρ 1 = .int .i64 n1) (h : F46_1 R n0_0 n0_1 n1 ds w) :
    TrL Try.prog Try.f46.ntmps [c46_0, c46_1, c46_2, c46_3, c46_4] (F46_q1 R) ρ ds w :=
  TrL_leaf (X := F46_1 R n0_0 n0_1 n1 ds w) (setAll_cons e0 (setAll_cons e1 setAll_nil)) (by kernel_rfl) (by kernel_rfl) h
theorem F46_calls (n0_0 : Int) (n0_1 : Int) (n1 : Int) (w : World) (R : Rt) (h : F46_1 R n0_0 n0_1 n1 [] w) : Calls Try.prog 46 #[.agg #[.int .i64 n0_0, .int .i64 n0_1], .int .i64 n1] w R :=
  calls_of_L (l := [c46_0, c46_1, c46_2, c46_3, c46_4]) Try.func46 (by kernel_rfl) (by rw [Try.ntmps46]; exact Nat.le_of_ble_eq_true (by kernel_rfl)) c46_l
    (F46_1_ok R n0_0 n0_1 n1 [] w _ rfl rfl h)
theorem F46_callsD (n0_0 : Int) (n0_1 : Int) (n1 : Int) (w : World) (R : Rt) (u : FrameMode) (h : F46_1 R n0_0 n0_1 n1 [] w) : CallsD Try.prog 46 #[.agg #[.int .i64 n0_0, .int .i64 n0_1], .int .i64 n1] u w fun e u' w' => u' = u ∧ R e w' :=
  callsD_of_L (l := [c46_0, c46_1, c46_2, c46_3, c46_4]) Try.func46 (by kernel_rfl) (by rw [Try.ntmps46]; exact Nat.le_of_ble_eq_true (by kernel_rfl)) (by kernel_rfl) c46_l
    (F46_1_ok R n0_0 n0_1 n1 [] w _ rfl rfl h) u

/-! function 47: slices.Contains[[]string,string] -/
noncomputable def c47_0 : Code := itemAt (flat (bodyOf Try.f47)) 0
noncomputable def c47_1 : Code := itemAt (flat (bodyOf Try.f47)) 1
noncomputable def c47_2 : Code := itemAt (flat (bodyOf Try.f47)) 2
def F47_q1 (R : Rt) : EQ := endQ Try.prog Try.f47.results.toList R
def F47_1 (R : Rt) (l0 : SV) (s1 : ByteArray) (ds : Ds) (w : World) : Prop :=
 Calls Try.prog 90 #[.slice l0.a l0.len l0.cap, .string s1] w fun e w1 =>
 ∃ n7 : Int, e = .returned (.int .i64 n7) ∧
 runD Try.prog ds w1 fun w2 =>
 R (.returned (.bool (decide (n7 ≥ 0)))) w2
theorem c47_l : flat (bodyOf Try.f47) = [c47_0, c47_1, c47_2] := by kernel_rfl
theorem F47_1_ok (R : Rt) (l0 : SV) (s1 : ByteArray) (ds : Ds) (w : World) (ρ : Env) (e0 : ρ 0 = .slice l0.a l0.len l0.cap) (e1 : ρ 1 = .string s1) (h : F47_1 R l0 s1 ds w) :
    TrL Try.prog Try.f47.ntmps [c47_0, c47_1, c47_2] (F47_q1 R) ρ ds w :=
  TrL_leaf (X := F47_1 R l0 s1 ds w) (setAll_cons e0 (setAll_cons e1 setAll_nil)) (by kernel_rfl) (by kernel_rfl) h
theorem F47_calls (l0 : SV) (s1 : ByteArray) (w : World) (R : Rt) (h : F47_1 R l0 s1 [] w) : Calls Try.prog 47 #[.slice l0.a l0.len l0.cap, .string s1] w R :=
  calls_of_L (l := [c47_0, c47_1, c47_2]) Try.func47 (by kernel_rfl) (by rw [Try.ntmps47]; exact Nat.le_of_ble_eq_true (by kernel_rfl)) c47_l
    (F47_1_ok R l0 s1 [] w _ rfl rfl h)
theorem F47_callsD (l0 : SV) (s1 : ByteArray) (w : World) (R : Rt) (u : FrameMode) (h : F47_1 R l0 s1 [] w) : CallsD Try.prog 47 #[.slice l0.a l0.len l0.cap, .string s1] u w fun e u' w' => u' = u ∧ R e w' :=
  callsD_of_L (l := [c47_0, c47_1, c47_2]) Try.func47 (by kernel_rfl) (by rw [Try.ntmps47]; exact Nat.le_of_ble_eq_true (by kernel_rfl)) (by kernel_rfl) c47_l
    (F47_1_ok R l0 s1 [] w _ rfl rfl h) u

/-! function 48: cabinetry/link.isLarge -/
noncomputable def c48_0 : Code := itemAt (flat (bodyOf Try.f48)) 0
noncomputable def c48_1 : Code := itemAt (flat (bodyOf Try.f48)) 1
noncomputable def c48_2 : Code := itemAt (flat (bodyOf Try.f48)) 2
noncomputable def c48_3 : Code := itemAt (flat (bodyOf Try.f48)) 3
noncomputable def c48_4 : Code := itemAt (flat (bodyOf Try.f48)) 4
noncomputable def c48_5 : Code := itemAt (flat (bodyOf Try.f48)) 5
noncomputable def c48_3_0 : Code := itemAt (flat (innerC c48_3)) 0
noncomputable def c48_3_0_0 : Code := itemAt (flat (innerC c48_3_0)) 0
noncomputable def c48_3_0_1 : Code := itemAt (flat (innerC c48_3_0)) 1
noncomputable def c48_3_0_2 : Code := itemAt (flat (innerC c48_3_0)) 2
noncomputable def c48_3_0_3 : Code := itemAt (flat (innerC c48_3_0)) 3
def F48_q1 (R : Rt) : EQ := endQ Try.prog Try.f48.results.toList R
def F48_1 (R : Rt) (l0 : SV) (n3 : Int) (ds : Ds) (w : World) : Prop :=
 Br (decide (((l0.len : Nat) : Int) > 32)) (
 runD Try.prog ds w fun w1 =>
 R (.returned (.bool true)) w1) (
 runD Try.prog ds w fun w2 =>
 R (.returned (.bool (decide (n3 > 100)))) w2)
def F48_k2 (R : Rt) : EP := (fun ρ ds w => dSl (ρ 0) fun l0 => dInt .i64 (ρ 3) fun n3 => F48_1 R l0 n3 ds w)
def F48_q3 (R : Rt) : EQ := (thenQ (F48_k2 R) (F48_q1 R))
def F48_q4 (R : Rt) : EQ := (blockQ 0 (F48_q3 R))
def F48_q5 (R : Rt) (J1 : (Int × Int) → World → Prop) : EQ := (thenQ (fun ρ _ w => dInt .i64 (ρ 3) fun n3 => dInt .i64 (ρ 8) fun n8 => J1 (n3, n8) w) (F48_q4 R))
def F48_2 (R : Rt) (J1 : (Int × Int) → World → Prop) (l0 : SV) (n3 : Int) (l6 : SV) (n7 : Int) (n8 : Int) (ds : Ds) (w : World) : Prop :=
 Br (decide (n8 < n7)) (
 ∃ a3 : Addr, l6.a = some a3 ∧ 0 ≤ n8 ∧ n8 < ((l6.len : Nat) : Int) ∧
 ∃ s11_0 : ByteArray, w.cell? ((a3.add (n8.toNat * 5)).add 0) = some (.string s11_0) ∧
 ∃ n11_1 : Int, w.cell? ((a3.add (n8.toNat * 5)).add 1) = some (.int .i64 n11_1) ∧
 ∃ l11_2 : SV, w.cell? ((a3.add (n8.toNat * 5)).add 2) = some (.slice l11_2.a l11_2.len l11_2.cap) ∧
 ∃ l11_3 : SV, w.cell? ((a3.add (n8.toNat * 5)).add 3) = some (.slice l11_3.a l11_3.len l11_3.cap) ∧
 ∃ l11_4 : SV, w.cell? ((a3.add (n8.toNat * 5)).add 4) = some (.slice l11_4.a l11_4.len l11_4.cap) ∧
 alE (.cells #[.string (⟨#[]⟩ : ByteArray), .int .i64 0, .slice none 0 0, .slice none 0 0, .slice none 0 0] 33) w fun r5 w4 =>
 stA Try.prog 33 (⟨r5, 0, none⟩ : Addr) #[.string s11_0, .int .i64 n11_1, .slice l11_2.a l11_2.len l11_2.cap, .slice l11_3.a l11_3.len l11_3.cap, .slice l11_4.a l11_4.len l11_4.cap] w4 fun w5 =>
 ∃ l14 : SV, w5.cell? ((⟨r5, 0, none⟩ : Addr).add 2) = some (.slice l14.a l14.len l14.cap) ∧
 ∃ l18 : SV, w5.cell? ((⟨r5, 0, none⟩ : Addr).add 4) = some (.slice l18.a l18.len l18.cap) ∧
 Calls Try.prog 91 #[.slice l18.a l18.len l18.cap, .func (.func 92) #[] #[]] w5 fun e w6 =>
 ∃ b19 : Bool, e = .returned (.bool b19) ∧
 Br b19 (
 runD Try.prog ds w6 fun w7 =>
 R (.returned (.bool true)) w7) (
 J1 ((IntKind.i64.wrap (n3 + ((l14.len : Nat) : Int))), (IntKind.i64.wrap (n8 + 1))) w6)) (
 F48_1 R l0 n3 ds w)
def F48_3 (R : Rt) (l0 : SV) (n3 : Int) (l6 : SV) (n7 : Int) (n8 : Int) (ds : Ds) (w : World) : Prop :=
 loopT (fun (J1 : (Int × Int) → World → Prop) (s : Int × Int) (w : World) => F48_2 R J1 l0 s.1 l6 n7 s.2 ds w) (n3, n8) w
@[reducible] def F48_4 (R : Rt) (l0 : SV) (n3 : Int) (l6 : SV) (n7 : Int) (n8 : Int) (ds : Ds) (w : World) : Prop := F48_3 R l0 n3 l6 n7 n8 ds w
def F48_k6 (R : Rt) : EP := (fun ρ ds w => dSl (ρ 0) fun l0 => dInt .i64 (ρ 3) fun n3 => dSl (ρ 6) fun l6 => dInt .i64 (ρ 7) fun n7 => dInt .i64 (ρ 8) fun n8 => F48_4 R l0 n3 l6 n7 n8 ds w)
def F48_5 (R : Rt) (l0 : SV) (ds : Ds) (w : World) : Prop :=
 F48_4 R l0 0 l0 ((l0.len : Nat) : Int) 0 ds w
theorem c48_l : flat (bodyOf Try.f48) = [c48_0, c48_1, c48_2, c48_3, c48_4, c48_5] := by kernel_rfl
theorem c48_3_l : flat (innerC c48_3) = [c48_3_0] := by kernel_rfl
theorem c48_3_0_l : flat (innerC c48_3_0) = [c48_3_0_0, c48_3_0_1, c48_3_0_2, c48_3_0_3] := by kernel_rfl
theorem F48_1_ok (R : Rt) (l0 : SV) (n3 : Int) (ds : Ds) (w : World) (ρ : Env) (e0 : ρ 0 = .slice l0.a l0.len l0.cap) (e3 : ρ 3 = .int .i64 n3) (h : F48_1 R l0 n3 ds w) :
    TrL Try.prog Try.f48.ntmps [c48_4, c48_5] (F48_q1 R) ρ ds w :=
  TrL_leaf (X := F48_1 R l0 n3 ds w) (setAll_cons e0 (setAll_cons e3 setAll_nil)) (by kernel_rfl) (by kernel_rfl) h
theorem F48_2_ok (R : Rt) (J1 : (Int × Int) → World → Prop) (l0 : SV) (n3 : Int) (l6 : SV) (n7 : Int) (n8 : Int) (ds : Ds) (w : World) (ρ : Env) (e0 : ρ 0 = .slice l0.a l0.len l0.cap) (e3 : ρ 3 = .int .i64 n3) (e6 : ρ 6 = .slice l6.a l6.len l6.cap) (e7 : ρ 7 = .int .i64 n7) (e8 : ρ 8 = .int .i64 n8) (h : F48_2 R J1 l0 n3 l6 n7 n8 ds w) :
    TrL Try.prog Try.f48.ntmps [c48_3_0_0, c48_3_0_1, c48_3_0_2, c48_3_0_3] (F48_q5 R J1) ρ ds w :=
  TrL_leaf (X := F48_2 R J1 l0 n3 l6 n7 n8 ds w) (setAll_cons e0 (setAll_cons e3 (setAll_cons e6 (setAll_cons e7 (setAll_cons e8 setAll_nil))))) (by kernel_rfl) (by kernel_rfl) h
theorem F48_3_ok (R : Rt) (l0 : SV) (n3 : Int) (l6 : SV) (n7 : Int) (n8 : Int) (ds : Ds) (w : World) (ρ : Env) (e0 : ρ 0 = .slice l0.a l0.len l0.cap) (e3 : ρ 3 = .int .i64 n3) (e6 : ρ 6 = .slice l6.a l6.len l6.cap) (e7 : ρ 7 = .int .i64 n7) (e8 : ρ 8 = .int .i64 n8) (h : F48_3 R l0 n3 l6 n7 n8 ds w) :
    TrL Try.prog Try.f48.ntmps [c48_3_0] (F48_q4 R) ρ ds w :=
  TrL_one (Tr_loop' (c := innerC c48_3_0) (σ := Int × Int) (enc := (fun (s : Int × Int) (ρ : Env) => ρ 3 = .int .i64 s.1 ∧ ρ 8 = .int .i64 s.2)) (D := (fun ρ K => dInt .i64 (ρ 3) fun n3 => dInt .i64 (ρ 8) fun n8 => K (n3, n8))) (F := (fun (J1 : (Int × Int) → World → Prop) (s : Int × Int) (w : World) => F48_2 R J1 l0 s.1 l6 n7 s.2 ds w)) (s0 := (n3, n8)) (by kernel_rfl) c48_3_0_l ⟨e3, e8⟩ (by kernel_rfl) (fun ρ K hD => by obtain ⟨n3, e3, hD⟩ := dInt_elim hD; obtain ⟨n8, e8, hD⟩ := dInt_elim hD; exact ⟨(n3, n8), ⟨e3, e8⟩, hD⟩)
      (fun J1 s ρ' w' he ha hF => by
      obtain ⟨e3', e8'⟩ := he
      exact F48_2_ok R J1 l0 s.1 l6 n7 s.2 ds w' ρ' ((ha 0 (by kernel_rfl)).trans e0) e3' ((ha 6 (by kernel_rfl)).trans e6) ((ha 7 (by kernel_rfl)).trans e7) e8' hF) h)
theorem F48_4_ok (R : Rt) (l0 : SV) (n3 : Int) (l6 : SV) (n7 : Int) (n8 : Int) (ds : Ds) (w : World) (ρ : Env) (e0 : ρ 0 = .slice l0.a l0.len l0.cap) (e3 : ρ 3 = .int .i64 n3) (e6 : ρ 6 = .slice l6.a l6.len l6.cap) (e7 : ρ 7 = .int .i64 n7) (e8 : ρ 8 = .int .i64 n8) (h : F48_4 R l0 n3 l6 n7 n8 ds w) :
    TrL Try.prog Try.f48.ntmps [c48_3, c48_4, c48_5] (F48_q1 R) ρ ds w :=
  TrL_head (K := (F48_k2 R)) (Tr_block' (c := innerC c48_3) (by kernel_rfl) c48_3_l (F48_3_ok R l0 n3 l6 n7 n8 ds w ρ e0 e3 e6 e7 e8 h))
    (fun ρ' ds' w' hD => by
      obtain ⟨l0, e0, hD⟩ := dSl_elim hD; obtain ⟨n3, e3, hD⟩ := dInt_elim hD; exact F48_1_ok R l0 n3 ds' w' ρ' e0 e3 hD)
theorem F48_5_ok (R : Rt) (l0 : SV) (ds : Ds) (w : World) (ρ : Env) (e0 : ρ 0 = .slice l0.a l0.len l0.cap) (h : F48_5 R l0 ds w) :
    TrL Try.prog Try.f48.ntmps [c48_0, c48_1, c48_2, c48_3, c48_4, c48_5] (F48_q1 R) ρ ds w :=
  TrL_piece (pre := [c48_0, c48_1, c48_2]) (K := (F48_k6 R)) (X := F48_5 R l0 ds w) (setAll_cons e0 setAll_nil) (by kernel_rfl) (by kernel_rfl)
    (fun ρ' ds' w' hD => by
      obtain ⟨l0, e0, hD⟩ := dSl_elim hD; obtain ⟨n3, e3, hD⟩ := dInt_elim hD; obtain ⟨l6, e6, hD⟩ := dSl_elim hD; obtain ⟨n7, e7, hD⟩ := dInt_elim hD; obtain ⟨n8, e8, hD⟩ := dInt_elim hD; exact F48_4_ok R l0 n3 l6 n7 n8 ds' w' ρ' e0 e3 e6 e7 e8 hD) h
theorem F48_calls (l0 : SV) (w : World) (R : Rt) (h : F48_5 R l0 [] w) : Calls Try.prog 48 #[.slice l0.a l0.len l0.cap] w R :=
  calls_of_L (l := [c48_0, c48_1, c48_2, c48_3, c48_4, c48_5]) Try.func48 (by kernel_rfl) (by rw [Try.ntmps48]; exact Nat.le_of_ble_eq_true (by kernel_rfl)) c48_l
    (F48_5_ok R l0 [] w _ rfl h)
theorem F48_callsD (l0 : SV) (w : World) (R : Rt) (u : FrameMode) (h : F48_5 R l0 [] w) : CallsD Try.prog 48 #[.slice l0.a l0.len l0.cap] u w fun e u' w' => u' = u ∧ R e w' :=
  callsD_of_L (l := [c48_0, c48_1, c48_2, c48_3, c48_4, c48_5]) Try.func48 (by kernel_rfl) (by rw [Try.ntmps48]; exact Nat.le_of_ble_eq_true (by kernel_rfl)) (by kernel_rfl) c48_l
    (F48_5_ok R l0 [] w _ rfl h) u

/-! function 49: cabinetry/link.isRight -/
noncomputable def c49_0 : Code := itemAt (flat (bodyOf Try.f49)) 0
noncomputable def c49_1 : Code := itemAt (flat (bodyOf Try.f49)) 1
noncomputable def c49_2 : Code := itemAt (flat (bodyOf Try.f49)) 2
noncomputable def c49_3 : Code := itemAt (flat (bodyOf Try.f49)) 3
noncomputable def c49_4 : Code := itemAt (flat (bodyOf Try.f49)) 4
noncomputable def c49_5 : Code := itemAt (flat (bodyOf Try.f49)) 5
noncomputable def c49_3_0 : Code := itemAt (flat (innerC c49_3)) 0
noncomputable def c49_3_0_0 : Code := itemAt (flat (innerC c49_3_0)) 0
noncomputable def c49_3_0_1 : Code := itemAt (flat (innerC c49_3_0)) 1
noncomputable def c49_3_0_2 : Code := itemAt (flat (innerC c49_3_0)) 2
noncomputable def c49_3_0_3 : Code := itemAt (flat (innerC c49_3_0)) 3
def F49_q1 (R : Rt) : EQ := endQ Try.prog Try.f49.results.toList R
def F49_1 (R : Rt) (p1 : Option Addr) (v3 : Value) (ds : Ds) (w : World) : Prop :=
 ptrE p1 fun a1 =>
 ∃ s18 : ByteArray, w.cell? a1 = some (.string s18) ∧
 Calls Try.prog 94 #[.string s18] w fun e w2 =>
 ∃ b19 : Bool, e = .returned (.bool b19) ∧
 Br b19 (
 ptrE p1 fun a3 =>
 ∃ n22 : Int, w2.cell? (a3.add 1) = some (.int .i64 n22) ∧
 Br (decide (n22 ≥ 0)) (
 ptrE p1 fun a4 =>
 ∃ n27 : Int, w2.cell? (a4.add 1) = some (.int .i64 n27) ∧
 Br (decide (n27 ≤ 15)) (
 ptrE p1 fun a5 =>
 ∃ l32 : SV, w2.cell? (a5.add 2) = some (.slice l32.a l32.len l32.cap) ∧
 Calls Try.prog 80 #[.slice l32.a l32.len l32.cap, v3] w2 fun e w6 =>
 ∃ b34 : Bool, e = .returned (.bool b34) ∧
 Br (!b34) (
 ptrE p1 fun a7 =>
 ∃ l39 : SV, w6.cell? (a7.add 3) = some (.slice l39.a l39.len l39.cap) ∧
 Calls Try.prog 95 #[.slice l39.a l39.len l39.cap, .func (.func 96) #[] #[]] w6 fun e w8 =>
 ∃ b40 : Bool, e = .returned (.bool b40) ∧
 runD Try.prog ds w8 fun w9 =>
 R (.returned (.bool (!b40))) w9) (
 runD Try.prog ds w6 fun w10 =>
 R (.returned (.bool false)) w10)) (
 runD Try.prog ds w2 fun w11 =>
 R (.returned (.bool false)) w11)) (
 runD Try.prog ds w2 fun w12 =>
 R (.returned (.bool false)) w12)) (
 runD Try.prog ds w2 fun w13 =>
 R (.returned (.bool false)) w13)
def F49_k2 (R : Rt) : EP := (fun ρ ds w => dPtr (ρ 1) fun p1 => F49_1 R p1 (ρ 3) ds w)
def F49_q3 (R : Rt) : EQ := (thenQ (F49_k2 R) (F49_q1 R))
def F49_q4 (R : Rt) : EQ := (blockQ 0 (F49_q3 R))
def F49_q5 (R : Rt) (J1 : (Int) → World → Prop) : EQ := (thenQ (fun ρ _ w => dInt .i64 (ρ 9) fun n9 => J1 n9 w) (F49_q4 R))
def F49_2 (R : Rt) (J1 : (Int) → World → Prop) (p1 : Option Addr) (v3 : Value) (l7 : SV) (n8 : Int) (n9 : Int) (ds : Ds) (w : World) : Prop :=
 Br (decide (n9 < n8)) (
 ∃ a14 : Addr, l7.a = some a14 ∧ 0 ≤ n9 ∧ n9 < ((l7.len : Nat) : Int) ∧
 ∃ l12 : SV, w.cell? (a14.add (n9.toNat * 1)) = some (.slice l12.a l12.len l12.cap) ∧
 Calls Try.prog 80 #[.slice l12.a l12.len l12.cap, v3] w fun e w15 =>
 ∃ b15 : Bool, e = .returned (.bool b15) ∧
 Br b15 (
 runD Try.prog ds w15 fun w16 =>
 R (.returned (.bool false)) w16) (
 J1 (IntKind.i64.wrap (n9 + 1)) w15)) (
 F49_1 R p1 (v3) ds w)
def F49_3 (R : Rt) (p1 : Option Addr) (v3 : Value) (l7 : SV) (n8 : Int) (n9 : Int) (ds : Ds) (w : World) : Prop :=
 loopT (fun (J1 : (Int) → World → Prop) (s : Int) (w : World) => F49_2 R J1 p1 v3 l7 n8 s ds w) n9 w
@[reducible] def F49_4 (R : Rt) (p1 : Option Addr) (v3 : Value) (l7 : SV) (n8 : Int) (n9 : Int) (ds : Ds) (w : World) : Prop := F49_3 R p1 v3 l7 n8 n9 ds w
def F49_k6 (R : Rt) : EP := (fun ρ ds w => dPtr (ρ 1) fun p1 => dSl (ρ 7) fun l7 => dInt .i64 (ρ 8) fun n8 => dInt .i64 (ρ 9) fun n9 => F49_4 R p1 (ρ 3) l7 n8 n9 ds w)
def F49_5 (R : Rt) (s0_0 : ByteArray) (n0_1 : Int) (l0_2 : SV) (l0_3 : SV) (l0_4 : SV) (ds : Ds) (w : World) : Prop :=
 alE (.cells #[.string s0_0, .int .i64 n0_1, .slice l0_2.a l0_2.len l0_2.cap, .slice l0_3.a l0_3.len l0_3.cap, .slice l0_4.a l0_4.len l0_4.cap] 33) w fun r1 w17 =>
 ∃ l7 : SV, w17.cell? ((⟨r1, 0, none⟩ : Addr).add 4) = some (.slice l7.a l7.len l7.cap) ∧
 F49_4 R (some (⟨r1, 0, none⟩ : Addr)) (.func (.func 93) #[] #[]) l7 ((l7.len : Nat) : Int) 0 ds w17
theorem c49_l : flat (bodyOf Try.f49) = [c49_0, c49_1, c49_2, c49_3, c49_4, c49_5] := by kernel_rfl
theorem c49_3_l : flat (innerC c49_3) = [c49_3_0] := by kernel_rfl
theorem c49_3_0_l : flat (innerC c49_3_0) = [c49_3_0_0, c49_3_0_1, c49_3_0_2, c49_3_0_3] := by kernel_rfl
theorem F49_1_ok (R : Rt) (p1 : Option Addr) (v3 : Value) (ds : Ds) (w : World) (ρ : Env) (e1 : ρ 1 = .pointer p1) (e3 : ρ 3 = v3) (h : F49_1 R p1 v3 ds w) :
    TrL Try.prog Try.f49.ntmps [c49_4, c49_5] (F49_q1 R) ρ ds w :=
  TrL_leaf (X := F49_1 R p1 v3 ds w) (setAll_cons e1 (setAll_cons e3 setAll_nil)) (by kernel_rfl) (by kernel_rfl) h
theorem F49_2_ok (R : Rt) (J1 : (Int) → World → Prop) (p1 : Option Addr) (v3 : Value) (l7 : SV) (n8 : Int) (n9 : Int) (ds : Ds) (w : World) (ρ : Env) (e1 : ρ 1 = .pointer p1) (e3 : ρ 3 = v3) (e7 : ρ 7 = .slice l7.a l7.len l7.cap) (e8 : ρ 8 = .int .i64 n8) (e9 : ρ 9 = .int .i64 n9) (h : F49_2 R J1 p1 v3 l7 n8 n9 ds w) :
    TrL Try.prog Try.f49.ntmps [c49_3_0_0, c49_3_0_1, c49_3_0_2, c49_3_0_3] (F49_q5 R J1) ρ ds w :=
  TrL_leaf (X := F49_2 R J1 p1 v3 l7 n8 n9 ds w) (setAll_cons e1 (setAll_cons e3 (setAll_cons e7 (setAll_cons e8 (setAll_cons e9 setAll_nil))))) (by kernel_rfl) (by kernel_rfl) h
theorem F49_3_ok (R : Rt) (p1 : Option Addr) (v3 : Value) (l7 : SV) (n8 : Int) (n9 : Int) (ds : Ds) (w : World) (ρ : Env) (e1 : ρ 1 = .pointer p1) (e3 : ρ 3 = v3) (e7 : ρ 7 = .slice l7.a l7.len l7.cap) (e8 : ρ 8 = .int .i64 n8) (e9 : ρ 9 = .int .i64 n9) (h : F49_3 R p1 v3 l7 n8 n9 ds w) :
    TrL Try.prog Try.f49.ntmps [c49_3_0] (F49_q4 R) ρ ds w :=
  TrL_one (Tr_loop' (c := innerC c49_3_0) (σ := Int) (enc := (fun (s : Int) (ρ : Env) => ρ 9 = .int .i64 s)) (D := (fun ρ K => dInt .i64 (ρ 9) fun n9 => K n9)) (F := (fun (J1 : (Int) → World → Prop) (s : Int) (w : World) => F49_2 R J1 p1 v3 l7 n8 s ds w)) (s0 := n9) (by kernel_rfl) c49_3_0_l e9 (by kernel_rfl) (fun ρ K hD => by obtain ⟨n9, e9, hD⟩ := dInt_elim hD; exact ⟨n9, e9, hD⟩)
      (fun J1 s ρ' w' he ha hF => by
      have e9' := he
      exact F49_2_ok R J1 p1 v3 l7 n8 s ds w' ρ' ((ha 1 (by kernel_rfl)).trans e1) ((ha 3 (by kernel_rfl)).trans e3) ((ha 7 (by kernel_rfl)).trans e7) ((ha 8 (by kernel_rfl)).trans e8) e9' hF) h)
theorem F49_4_ok (R : Rt) (p1 : Option Addr) (v3 : Value) (l7 : SV) (n8 : Int) (n9 : Int) (ds : Ds) (w : World) (ρ : Env) (e1 : ρ 1 = .pointer p1) (e3 : ρ 3 = v3) (e7 : ρ 7 = .slice l7.a l7.len l7.cap) (e8 : ρ 8 = .int .i64 n8) (e9 : ρ 9 = .int .i64 n9) (h : F49_4 R p1 v3 l7 n8 n9 ds w) :
    TrL Try.prog Try.f49.ntmps [c49_3, c49_4, c49_5] (F49_q1 R) ρ ds w :=
  TrL_head (K := (F49_k2 R)) (Tr_block' (c := innerC c49_3) (by kernel_rfl) c49_3_l (F49_3_ok R p1 v3 l7 n8 n9 ds w ρ e1 e3 e7 e8 e9 h))
    (fun ρ' ds' w' hD => by
      obtain ⟨p1, e1, hD⟩ := dPtr_elim hD; exact F49_1_ok R p1 (ρ' 3) ds' w' ρ' e1 rfl hD)
theorem F49_5_ok (R : Rt) (s0_0 : ByteArray) (n0_1 : Int) (l0_2 : SV) (l0_3 : SV) (l0_4 : SV) (ds : Ds) (w : World) (ρ : Env) (e0 : ρ 0 = .agg #[.string s0_0, .int .i64 n0_1, .slice l0_2.a l0_2.len l0_2.cap, .slice l0_3.a l0_3.len l0_3.cap, .slice l0_4.a l0_4.len l0_4.cap]) (h : F49_5 R s0_0 n0_1 l0_2 l0_3 l0_4 ds w) :
    TrL Try.prog Try.f49.ntmps [c49_0, c49_1, c49_2, c49_3, c49_4, c49_5] (F49_q1 R) ρ ds w :=
  TrL_piece (pre := [c49_0, c49_1, c49_2]) (K := (F49_k6 R)) (X := F49_5 R s0_0 n0_1 l0_2 l0_3 l0_4 ds w) (setAll_cons e0 setAll_nil) (by kernel_rfl) (by kernel_rfl)
    (fun ρ' ds' w' hD => by
      obtain ⟨p1, e1, hD⟩ := dPtr_elim hD; obtain ⟨l7, e7, hD⟩ := dSl_elim hD; obtain ⟨n8, e8, hD⟩ := dInt_elim hD; obtain ⟨n9, e9, hD⟩ := dInt_elim hD; exact F49_4_ok R p1 (ρ' 3) l7 n8 n9 ds' w' ρ' e1 rfl e7 e8 e9 hD) h
theorem F49_calls (s0_0 : ByteArray) (n0_1 : Int) (l0_2 : SV) (l0_3 : SV) (l0_4 : SV) (w : World) (R : Rt) (h : F49_5 R s0_0 n0_1 l0_2 l0_3 l0_4 [] w) : Calls Try.prog 49 #[.agg #[.string s0_0, .int .i64 n0_1, .slice l0_2.a l0_2.len l0_2.cap, .slice l0_3.a l0_3.len l0_3.cap, .slice l0_4.a l0_4.len l0_4.cap]] w R :=
  calls_of_L (l := [c49_0, c49_1, c49_2, c49_3, c49_4, c49_5]) Try.func49 (by kernel_rfl) (by rw [Try.ntmps49]; exact Nat.le_of_ble_eq_true (by kernel_rfl)) c49_l
    (F49_5_ok R s0_0 n0_1 l0_2 l0_3 l0_4 [] w _ rfl h)
theorem F49_callsD (s0_0 : ByteArray) (n0_1 : Int) (l0_2 : SV) (l0_3 : SV) (l0_4 : SV) (w : World) (R : Rt) (u : FrameMode) (h : F49_5 R s0_0 n0_1 l0_2 l0_3 l0_4 [] w) : CallsD Try.prog 49 #[.agg #[.string s0_0, .int .i64 n0_1, .slice l0_2.a l0_2.len l0_2.cap, .slice l0_3.a l0_3.len l0_3.cap, .slice l0_4.a l0_4.len l0_4.cap]] u w fun e u' w' => u' = u ∧ R e w' :=
  callsD_of_L (l := [c49_0, c49_1, c49_2, c49_3, c49_4, c49_5]) Try.func49 (by kernel_rfl) (by rw [Try.ntmps49]; exact Nat.le_of_ble_eq_true (by kernel_rfl)) (by kernel_rfl) c49_l
    (F49_5_ok R s0_0 n0_1 l0_2 l0_3 l0_4 [] w _ rfl h) u

/-! function 50: cabinetry/link.isTwice -/
noncomputable def c50_0 : Code := itemAt (flat (bodyOf Try.f50)) 0
noncomputable def c50_1 : Code := itemAt (flat (bodyOf Try.f50)) 1
noncomputable def c50_2 : Code := itemAt (flat (bodyOf Try.f50)) 2
def F50_q1 (R : Rt) : EQ := endQ Try.prog Try.f50.results.toList R
def F50_1 (R : Rt) (l0 : SV) (ds : Ds) (w : World) : Prop :=
 Calls Try.prog 86 #[.slice l0.a l0.len l0.cap] w fun e w1 =>
 ∃ v4 : Value, e = .returned (v4) ∧
 Calls Try.prog 64 #[v4] w1 fun e w2 =>
 ∃ l5 : SV, e = .returned (.slice l5.a l5.len l5.cap) ∧
 Calls Try.prog 85 #[.slice l5.a l5.len l5.cap] w2 fun e w3 =>
 ∃ l6 : SV, e = .returned (.slice l6.a l6.len l6.cap) ∧
 runD Try.prog ds w3 fun w4 =>
 R (.returned (.bool (decide (((l6.len : Nat) : Int) < ((l0.len : Nat) : Int))))) w4
theorem c50_l : flat (bodyOf Try.f50) = [c50_0, c50_1, c50_2] := by kernel_rfl
theorem F50_1_ok (R : Rt) (l0 : SV) (ds : Ds) (w : World) (ρ : Env) (e0 : ρ 0 = .slice l0.a l0.len l0.cap) (h : F50_1 R l0 ds w) :
    TrL Try.prog Try.f50.ntmps [c50_0, c50_1, c50_2] (F50_q1 R) ρ ds w :=
  TrL_leaf (X := F50_1 R l0 ds w) (setAll_cons e0 setAll_nil) (by kernel_rfl) (by kernel_rfl) h
theorem F50_calls (l0 : SV) (w : World) (R : Rt) (h : F50_1 R l0 [] w) : Calls Try.prog 50 #[.slice l0.a l0.len l0.cap] w R :=
  calls_of_L (l := [c50_0, c50_1, c50_2]) Try.func50 (by kernel_rfl) (by rw [Try.ntmps50]; exact Nat.le_of_ble_eq_true (by kernel_rfl)) c50_l
    (F50_1_ok R l0 [] w _ rfl h)
theorem F50_callsD (l0 : SV) (w : World) (R : Rt) (u : FrameMode) (h : F50_1 R l0 [] w) : CallsD Try.prog 50 #[.slice l0.a l0.len l0.cap] u w fun e u' w' => u' = u ∧ R e w' :=
  callsD_of_L (l := [c50_0, c50_1, c50_2]) Try.func50 (by kernel_rfl) (by rw [Try.ntmps50]; exact Nat.le_of_ble_eq_true (by kernel_rfl)) (by kernel_rfl) c50_l
    (F50_1_ok R l0 [] w _ rfl h) u

/-! function 53: cabinetry/link.missing -/
noncomputable def c53_0 : Code := itemAt (flat (bodyOf Try.f53)) 0
noncomputable def c53_1 : Code := itemAt (flat (bodyOf Try.f53)) 1
noncomputable def c53_2 : Code := itemAt (flat (bodyOf Try.f53)) 2
noncomputable def c53_3 : Code := itemAt (flat (bodyOf Try.f53)) 3
noncomputable def c53_4 : Code := itemAt (flat (bodyOf Try.f53)) 4
noncomputable def c53_5 : Code := itemAt (flat (bodyOf Try.f53)) 5
noncomputable def c53_6 : Code := itemAt (flat (bodyOf Try.f53)) 6
noncomputable def c53_3_0 : Code := itemAt (flat (innerC c53_3)) 0
noncomputable def c53_3_0_0 : Code := itemAt (flat (innerC c53_3_0)) 0
noncomputable def c53_3_0_1 : Code := itemAt (flat (innerC c53_3_0)) 1
noncomputable def c53_3_0_2 : Code := itemAt (flat (innerC c53_3_0)) 2
noncomputable def c53_3_0_2_0 : Code := itemAt (flat (innerC c53_3_0_2)) 0
noncomputable def c53_3_0_2_1 : Code := itemAt (flat (innerC c53_3_0_2)) 1
noncomputable def c53_3_0_2_2 : Code := itemAt (flat (innerC c53_3_0_2)) 2
noncomputable def c53_3_0_2_2_0 : Code := itemAt (flat (innerC c53_3_0_2_2)) 0
noncomputable def c53_3_0_2_2_0_0 : Code := itemAt (flat (innerC c53_3_0_2_2_0)) 0
noncomputable def c53_3_0_2_2_0_1 : Code := itemAt (flat (innerC c53_3_0_2_2_0)) 1
noncomputable def c53_3_0_2_2_0_2 : Code := itemAt (flat (innerC c53_3_0_2_2_0)) 2
noncomputable def c53_3_0_2_2_0_3 : Code := itemAt (flat (innerC c53_3_0_2_2_0)) 3
def F53_q1 (R : Rt) : EQ := endQ Try.prog Try.f53.results.toList R
def F53_1 (R : Rt) (l3 : SV) (ds : Ds) (w : World) : Prop :=
 Calls Try.prog 97 #[.slice l3.a l3.len l3.cap] w fun e w1 =>
 e = .returned (.tuple #[]) ∧
 Calls Try.prog 85 #[.slice l3.a l3.len l3.cap] w1 fun e w2 =>
 ∃ l39 : SV, e = .returned (.slice l39.a l39.len l39.cap) ∧
 runD Try.prog ds w2 fun w3 =>
 R (.returned (.slice l39.a l39.len l39.cap)) w3
def F53_k2 (R : Rt) : EP := (fun ρ ds w => dSl (ρ 3) fun l3 => F53_1 R l3 ds w)
def F53_q3 (R : Rt) : EQ := (thenQ (F53_k2 R) (F53_q1 R))
def F53_q4 (R : Rt) : EQ := (blockQ 0 (F53_q3 R))
def F53_q5 (R : Rt) (J1 : (SV) → World → Prop) : EQ := (thenQ (fun ρ _ w => dSl (ρ 3) fun l3 => J1 l3 w) (F53_q4 R))
def F53_q6 (R : Rt) (J1 : (SV) → World → Prop) : EQ := (blockQ 1 (F53_q5 R J1))
def F53_q7 (R : Rt) (J1 : (SV) → World → Prop) : EQ := (blockQ 2 (F53_q6 R J1))
def F53_q8 (R : Rt) (J1 : (SV) → World → Prop) (J2 : (SV × Int) → World → Prop) : EQ := (thenQ (fun ρ _ w => dSl (ρ 3) fun l3 => dInt .i64 (ρ 19) fun n19 => J2 (l3, n19) w) (F53_q7 R J1))
def F53_2 (R : Rt) (J1 : (SV) → World → Prop) (J2 : (SV × Int) → World → Prop) (m0 : Option Nat) (l3 : SV) (p11 : Option Addr) (l17 : SV) (n18 : Int) (n19 : Int) (ds : Ds) (w : World) : Prop :=
 Br (decide (n19 < n18)) (
 ∃ a4 : Addr, l17.a = some a4 ∧ 0 ≤ n19 ∧ n19 < ((l17.len : Nat) : Int) ∧
 ∃ s22 : ByteArray, w.cell? (a4.add (n19.toNat * 1)) = some (.string s22) ∧
 ∃ n26_0_0 : Int, ∃ l26_0_1 : SV, ∃ b26_1 : Bool, ∃ w5 : World, (Instr.lookup 57 (.map m0) (.string s22) true).run Try.prog w = .ok (.tuple #[.agg #[.int .i64 n26_0_0, .slice l26_0_1.a l26_0_1.len l26_0_1.cap], .bool b26_1]) w5 ∧
 alE (.cells #[.int .i64 0, .slice none 0 0] 64) w5 fun r8 w6 =>
 stA Try.prog 64 (⟨r8, 0, none⟩ : Addr) #[.int .i64 n26_0_0, .slice l26_0_1.a l26_0_1.len l26_0_1.cap] w6 fun w7 =>
 Br (!b26_1) (
 alE (.cells #[.string s22] 9) w7 fun r33 w8 =>
 ∃ l34 : SV, ∃ w9 : World, (Builtin.append_ #[23, 23] 23 #[.slice l3.a l3.len l3.cap, .slice (some ⟨r33, 0, none⟩) 1 1]).run Try.prog w8 = .ok (.slice l34.a l34.len l34.cap) w9 ∧
 J2 (l34, (IntKind.i64.wrap (n19 + 1))) w9) (
 J2 (l3, (IntKind.i64.wrap (n19 + 1))) w7)) (
 J1 l3 w)
def F53_3 (R : Rt) (J1 : (SV) → World → Prop) (m0 : Option Nat) (l3 : SV) (p11 : Option Addr) (l17 : SV) (n18 : Int) (n19 : Int) (ds : Ds) (w : World) : Prop :=
 loopT (fun (J2 : (SV × Int) → World → Prop) (s : SV × Int) (w : World) => F53_2 R J1 J2 m0 s.1 p11 l17 n18 s.2 ds w) (l3, n19) w
@[reducible] def F53_4 (R : Rt) (J1 : (SV) → World → Prop) (m0 : Option Nat) (l3 : SV) (p11 : Option Addr) (l17 : SV) (n18 : Int) (n19 : Int) (ds : Ds) (w : World) : Prop := F53_3 R J1 m0 l3 p11 l17 n18 n19 ds w
def F53_k9 (R : Rt) (J1 : (SV) → World → Prop) : EP := (fun ρ ds w => dMap (ρ 0) fun m0 => dSl (ρ 3) fun l3 => dPtr (ρ 11) fun p11 => dSl (ρ 17) fun l17 => dInt .i64 (ρ 18) fun n18 => dInt .i64 (ρ 19) fun n19 => F53_4 R J1 m0 l3 p11 l17 n18 n19 ds w)
def F53_5 (R : Rt) (J1 : (SV) → World → Prop) (m0 : Option Nat) (l3 : SV) (p11 : Option Addr) (ds : Ds) (w : World) : Prop :=
 ∃ k14 v14 : Value, ∃ w10 : World, (Instr.entry (.pointer p11)).run Try.prog w = .ok (.tuple #[k14, v14]) w10 ∧
 dAgg v14 fun q15 =>
 dHd q15 fun x15_0 q15_0 =>
 dInt .i64 x15_0 fun n15_0 =>
 dHd q15_0 fun x15_1 q15_1 =>
 dSl x15_1 fun l15_1 =>
 dNil q15_1 (
 alE (.cells #[.int .i64 0, .slice none 0 0] 64) w10 fun r5 w11 =>
 stA Try.prog 64 (⟨r5, 0, none⟩ : Addr) #[.int .i64 n15_0, .slice l15_1.a l15_1.len l15_1.cap] w11 fun w12 =>
 ∃ l17 : SV, w12.cell? ((⟨r5, 0, none⟩ : Addr).add 1) = some (.slice l17.a l17.len l17.cap) ∧
 F53_4 R J1 m0 l3 p11 l17 ((l17.len : Nat) : Int) 0 ds w12)
@[reducible] def F53_6 (R : Rt) (J1 : (SV) → World → Prop) (m0 : Option Nat) (l3 : SV) (p11 : Option Addr) (ds : Ds) (w : World) : Prop := F53_5 R J1 m0 l3 p11 ds w
def F53_k10 (R : Rt) (J1 : (SV) → World → Prop) : EP := (fun ρ ds w => dMap (ρ 0) fun m0 => dSl (ρ 3) fun l3 => dPtr (ρ 11) fun p11 => F53_6 R J1 m0 l3 p11 ds w)
def F53_7 (R : Rt) (J1 : (SV) → World → Prop) (m0 : Option Nat) (l3 : SV) (p11 : Option Addr) (ds : Ds) (w : World) : Prop :=
 (∃ w13 : World, (Instr.next (.pointer p11) false 0).run Try.prog w = .ok (.tuple #[.bool false]) w13 ∧
 F53_1 R l3 ds w13) ∨ (∃ k12 v12 : Value, ∃ w14 : World, (Instr.next (.pointer p11) false 0).run Try.prog w = .ok (.tuple #[.bool true, k12, v12]) w14 ∧
 F53_6 R J1 m0 l3 p11 ds w14)
def F53_8 (R : Rt) (m0 : Option Nat) (l3 : SV) (p11 : Option Addr) (ds : Ds) (w : World) : Prop :=
 loopT (fun (J1 : (SV) → World → Prop) (s : SV) (w : World) => F53_7 R J1 m0 s p11 ds w) l3 w
@[reducible] def F53_9 (R : Rt) (m0 : Option Nat) (l3 : SV) (p11 : Option Addr) (ds : Ds) (w : World) : Prop := F53_8 R m0 l3 p11 ds w
def F53_k11 (R : Rt) : EP := (fun ρ ds w => dMap (ρ 0) fun m0 => dSl (ρ 3) fun l3 => dPtr (ρ 11) fun p11 => F53_9 R m0 l3 p11 ds w)
def F53_10 (R : Rt) (m0 : Option Nat) (ds : Ds) (w : World) : Prop :=
 ∃ p11 : Option Addr, ∃ w15 : World, (Instr.range 57 (.map m0)).run Try.prog w = .ok (.pointer p11) w15 ∧
 F53_9 R m0 ⟨none, 0, 0⟩ p11 ds w15
theorem c53_l : flat (bodyOf Try.f53) = [c53_0, c53_1, c53_2, c53_3, c53_4, c53_5, c53_6] := by kernel_rfl
theorem c53_3_l : flat (innerC c53_3) = [c53_3_0] := by kernel_rfl
theorem c53_3_0_l : flat (innerC c53_3_0) = [c53_3_0_0, c53_3_0_1, c53_3_0_2] := by kernel_rfl
theorem c53_3_0_2_l : flat (innerC c53_3_0_2) = [c53_3_0_2_0, c53_3_0_2_1, c53_3_0_2_2] := by kernel_rfl
theorem c53_3_0_2_2_l : flat (innerC c53_3_0_2_2) = [c53_3_0_2_2_0] := by kernel_rfl
theorem c53_3_0_2_2_0_l : flat (innerC c53_3_0_2_2_0) = [c53_3_0_2_2_0_0, c53_3_0_2_2_0_1, c53_3_0_2_2_0_2, c53_3_0_2_2_0_3] := by kernel_rfl
theorem F53_1_ok (R : Rt) (l3 : SV) (ds : Ds) (w : World) (ρ : Env) (e3 : ρ 3 = .slice l3.a l3.len l3.cap) (h : F53_1 R l3 ds w) :
    TrL Try.prog Try.f53.ntmps [c53_4, c53_5, c53_6] (F53_q1 R) ρ ds w :=
  TrL_leaf (X := F53_1 R l3 ds w) (setAll_cons e3 setAll_nil) (by kernel_rfl) (by kernel_rfl) h
theorem F53_2_ok (R : Rt) (J1 : (SV) → World → Prop) (J2 : (SV × Int) → World → Prop) (m0 : Option Nat) (l3 : SV) (p11 : Option Addr) (l17 : SV) (n18 : Int) (n19 : Int) (ds : Ds) (w : World) (ρ : Env) (e0 : ρ 0 = .map m0) (e3 : ρ 3 = .slice l3.a l3.len l3.cap) (e11 : ρ 11 = .pointer p11) (e17 : ρ 17 = .slice l17.a l17.len l17.cap) (e18 : ρ 18 = .int .i64 n18) (e19 : ρ 19 = .int .i64 n19) (h : F53_2 R J1 J2 m0 l3 p11 l17 n18 n19 ds w) :
    TrL Try.prog Try.f53.ntmps [c53_3_0_2_2_0_0, c53_3_0_2_2_0_1, c53_3_0_2_2_0_2, c53_3_0_2_2_0_3] (F53_q8 R J1 J2) ρ ds w :=
  TrL_leaf (X := F53_2 R J1 J2 m0 l3 p11 l17 n18 n19 ds w) (setAll_cons e0 (setAll_cons e3 (setAll_cons e11 (setAll_cons e17 (setAll_cons e18 (setAll_cons e19 setAll_nil)))))) (by kernel_rfl) (by kernel_rfl) h
theorem F53_3_ok (R : Rt) (J1 : (SV) → World → Prop) (m0 : Option Nat) (l3 : SV) (p11 : Option Addr) (l17 : SV) (n18 : Int) (n19 : Int) (ds : Ds) (w : World) (ρ : Env) (e0 : ρ 0 = .map m0) (e3 : ρ 3 = .slice l3.a l3.len l3.cap) (e11 : ρ 11 = .pointer p11) (e17 : ρ 17 = .slice l17.a l17.len l17.cap) (e18 : ρ 18 = .int .i64 n18) (e19 : ρ 19 = .int .i64 n19) (h : F53_3 R J1 m0 l3 p11 l17 n18 n19 ds w) :
    TrL Try.prog Try.f53.ntmps [c53_3_0_2_2_0] (F53_q7 R J1) ρ ds w :=
  TrL_one (Tr_loop' (c := innerC c53_3_0_2_2_0) (σ := SV × Int) (enc := (fun (s : SV × Int) (ρ : Env) => ρ 3 = .slice s.1.a s.1.len s.1.cap ∧ ρ 19 = .int .i64 s.2)) (D := (fun ρ K => dSl (ρ 3) fun l3 => dInt .i64 (ρ 19) fun n19 => K (l3, n19))) (F := (fun (J2 : (SV × Int) → World → Prop) (s : SV × Int) (w : World) => F53_2 R J1 J2 m0 s.1 p11 l17 n18 s.2 ds w)) (s0 := (l3, n19)) (by kernel_rfl) c53_3_0_2_2_0_l ⟨e3, e19⟩ (by kernel_rfl) (fun ρ K hD => by obtain ⟨l3, e3, hD⟩ := dSl_elim hD; obtain ⟨n19, e19, hD⟩ := dInt_elim hD; exact ⟨(l3, n19), ⟨e3, e19⟩, hD⟩)
      (fun J2 s ρ' w' he ha hF => by
      obtain ⟨e3', e19'⟩ := he
      exact F53_2_ok R J1 J2 m0 s.1 p11 l17 n18 s.2 ds w' ρ' ((ha 0 (by kernel_rfl)).trans e0) e3' ((ha 11 (by kernel_rfl)).trans e11) ((ha 17 (by kernel_rfl)).trans e17) ((ha 18 (by kernel_rfl)).trans e18) e19' hF) h)
theorem F53_4_ok (R : Rt) (J1 : (SV) → World → Prop) (m0 : Option Nat) (l3 : SV) (p11 : Option Addr) (l17 : SV) (n18 : Int) (n19 : Int) (ds : Ds) (w : World) (ρ : Env) (e0 : ρ 0 = .map m0) (e3 : ρ 3 = .slice l3.a l3.len l3.cap) (e11 : ρ 11 = .pointer p11) (e17 : ρ 17 = .slice l17.a l17.len l17.cap) (e18 : ρ 18 = .int .i64 n18) (e19 : ρ 19 = .int .i64 n19) (h : F53_4 R J1 m0 l3 p11 l17 n18 n19 ds w) :
    TrL Try.prog Try.f53.ntmps [c53_3_0_2_2] (F53_q6 R J1) ρ ds w :=
  TrL_one (Tr_block' (c := innerC c53_3_0_2_2) (by kernel_rfl) c53_3_0_2_2_l (F53_3_ok R J1 m0 l3 p11 l17 n18 n19 ds w ρ e0 e3 e11 e17 e18 e19 h))
theorem F53_5_ok (R : Rt) (J1 : (SV) → World → Prop) (m0 : Option Nat) (l3 : SV) (p11 : Option Addr) (ds : Ds) (w : World) (ρ : Env) (e0 : ρ 0 = .map m0) (e3 : ρ 3 = .slice l3.a l3.len l3.cap) (e11 : ρ 11 = .pointer p11) (h : F53_5 R J1 m0 l3 p11 ds w) :
    TrL Try.prog Try.f53.ntmps [c53_3_0_2_0, c53_3_0_2_1, c53_3_0_2_2] (F53_q6 R J1) ρ ds w :=
  TrL_piece (pre := [c53_3_0_2_0, c53_3_0_2_1]) (K := (F53_k9 R J1)) (X := F53_5 R J1 m0 l3 p11 ds w) (setAll_cons e0 (setAll_cons e3 (setAll_cons e11 setAll_nil))) (by kernel_rfl) (by kernel_rfl)
    (fun ρ' ds' w' hD => by
      obtain ⟨m0, e0, hD⟩ := dMap_elim hD; obtain ⟨l3, e3, hD⟩ := dSl_elim hD; obtain ⟨p11, e11, hD⟩ := dPtr_elim hD; obtain ⟨l17, e17, hD⟩ := dSl_elim hD; obtain ⟨n18, e18, hD⟩ := dInt_elim hD; obtain ⟨n19, e19, hD⟩ := dInt_elim hD; exact F53_4_ok R J1 m0 l3 p11 l17 n18 n19 ds' w' ρ' e0 e3 e11 e17 e18 e19 hD) h
theorem F53_6_ok (R : Rt) (J1 : (SV) → World → Prop) (m0 : Option Nat) (l3 : SV) (p11 : Option Addr) (ds : Ds) (w : World) (ρ : Env) (e0 : ρ 0 = .map m0) (e3 : ρ 3 = .slice l3.a l3.len l3.cap) (e11 : ρ 11 = .pointer p11) (h : F53_6 R J1 m0 l3 p11 ds w) :
    TrL Try.prog Try.f53.ntmps [c53_3_0_2] (F53_q5 R J1) ρ ds w :=
  TrL_one (Tr_block' (c := innerC c53_3_0_2) (by kernel_rfl) c53_3_0_2_l (F53_5_ok R J1 m0 l3 p11 ds w ρ e0 e3 e11 h))
theorem F53_7_ok (R : Rt) (J1 : (SV) → World → Prop) (m0 : Option Nat) (l3 : SV) (p11 : Option Addr) (ds : Ds) (w : World) (ρ : Env) (e0 : ρ 0 = .map m0) (e3 : ρ 3 = .slice l3.a l3.len l3.cap) (e11 : ρ 11 = .pointer p11) (h : F53_7 R J1 m0 l3 p11 ds w) :
    TrL Try.prog Try.f53.ntmps [c53_3_0_0, c53_3_0_1, c53_3_0_2] (F53_q5 R J1) ρ ds w :=
  TrL_piece (pre := [c53_3_0_0, c53_3_0_1]) (K := (F53_k10 R J1)) (X := F53_7 R J1 m0 l3 p11 ds w) (setAll_cons e0 (setAll_cons e3 (setAll_cons e11 setAll_nil))) (by kernel_rfl) (by kernel_rfl)
    (fun ρ' ds' w' hD => by
      obtain ⟨m0, e0, hD⟩ := dMap_elim hD; obtain ⟨l3, e3, hD⟩ := dSl_elim hD; obtain ⟨p11, e11, hD⟩ := dPtr_elim hD; exact F53_6_ok R J1 m0 l3 p11 ds' w' ρ' e0 e3 e11 hD) h
theorem F53_8_ok (R : Rt) (m0 : Option Nat) (l3 : SV) (p11 : Option Addr) (ds : Ds) (w : World) (ρ : Env) (e0 : ρ 0 = .map m0) (e3 : ρ 3 = .slice l3.a l3.len l3.cap) (e11 : ρ 11 = .pointer p11) (h : F53_8 R m0 l3 p11 ds w) :
    TrL Try.prog Try.f53.ntmps [c53_3_0] (F53_q4 R) ρ ds w :=
  TrL_one (Tr_loop' (c := innerC c53_3_0) (σ := SV) (enc := (fun (s : SV) (ρ : Env) => ρ 3 = .slice s.a s.len s.cap)) (D := (fun ρ K => dSl (ρ 3) fun l3 => K l3)) (F := (fun (J1 : (SV) → World → Prop) (s : SV) (w : World) => F53_7 R J1 m0 s p11 ds w)) (s0 := l3) (by kernel_rfl) c53_3_0_l e3 (by kernel_rfl) (fun ρ K hD => by obtain ⟨l3, e3, hD⟩ := dSl_elim hD; exact ⟨l3, e3, hD⟩)
      (fun J1 s ρ' w' he ha hF => by
      have e3' := he
      exact F53_7_ok R J1 m0 s p11 ds w' ρ' ((ha 0 (by kernel_rfl)).trans e0) e3' ((ha 11 (by kernel_rfl)).trans e11) hF) h)
theorem F53_9_ok (R : Rt) (m0 : Option Nat) (l3 : SV) (p11 : Option Addr) (ds : Ds) (w : World) (ρ : Env) (e0 : ρ 0 = .map m0) (e3 : ρ 3 = .slice l3.a l3.len l3.cap) (e11 : ρ 11 = .pointer p11) (h : F53_9 R m0 l3 p11 ds w) :
    TrL Try.prog Try.f53.ntmps [c53_3, c53_4, c53_5, c53_6] (F53_q1 R) ρ ds w :=
  TrL_head (K := (F53_k2 R)) (Tr_block' (c := innerC c53_3) (by kernel_rfl) c53_3_l (F53_8_ok R m0 l3 p11 ds w ρ e0 e3 e11 h))
    (fun ρ' ds' w' hD => by
      obtain ⟨l3, e3, hD⟩ := dSl_elim hD; exact F53_1_ok R l3 ds' w' ρ' e3 hD)
theorem F53_10_ok (R : Rt) (m0 : Option Nat) (ds : Ds) (w : World) (ρ : Env) (e0 : ρ 0 = .map m0) (h : F53_10 R m0 ds w) :
    TrL Try.prog Try.f53.ntmps [c53_0, c53_1, c53_2, c53_3, c53_4, c53_5, c53_6] (F53_q1 R) ρ ds w :=
  TrL_piece (pre := [c53_0, c53_1, c53_2]) (K := (F53_k11 R)) (X := F53_10 R m0 ds w) (setAll_cons e0 setAll_nil) (by kernel_rfl) (by kernel_rfl)
    (fun ρ' ds' w' hD => by
      obtain ⟨m0, e0, hD⟩ := dMap_elim hD; obtain ⟨l3, e3, hD⟩ := dSl_elim hD; obtain ⟨p11, e11, hD⟩ := dPtr_elim hD; exact F53_9_ok R m0 l3 p11 ds' w' ρ' e0 e3 e11 hD) h
theorem F53_calls (m0 : Option Nat) (w : World) (R : Rt) (h : F53_10 R m0 [] w) : Calls Try.prog 53 #[.map m0] w R :=
  calls_of_L (l := [c53_0, c53_1, c53_2, c53_3, c53_4, c53_5, c53_6]) Try.func53 (by kernel_rfl) (by rw [Try.ntmps53]; exact Nat.le_of_ble_eq_true (by kernel_rfl)) c53_l
    (F53_10_ok R m0 [] w _ rfl h)
theorem F53_callsD (m0 : Option Nat) (w : World) (R : Rt) (u : FrameMode) (h : F53_10 R m0 [] w) : CallsD Try.prog 53 #[.map m0] u w fun e u' w' => u' = u ∧ R e w' :=
  callsD_of_L (l := [c53_0, c53_1, c53_2, c53_3, c53_4, c53_5, c53_6]) Try.func53 (by kernel_rfl) (by rw [Try.ntmps53]; exact Nat.le_of_ble_eq_true (by kernel_rfl)) (by kernel_rfl) c53_l
    (F53_10_ok R m0 [] w _ rfl h) u

/-! function 54: cabinetry/link.procs -/
noncomputable def c54_0 : Code := itemAt (flat (bodyOf Try.f54)) 0
noncomputable def c54_1 : Code := itemAt (flat (bodyOf Try.f54)) 1
noncomputable def c54_2 : Code := itemAt (flat (bodyOf Try.f54)) 2
noncomputable def c54_3 : Code := itemAt (flat (bodyOf Try.f54)) 3
noncomputable def c54_4 : Code := itemAt (flat (bodyOf Try.f54)) 4
noncomputable def c54_5 : Code := itemAt (flat (bodyOf Try.f54)) 5
noncomputable def c54_3_0 : Code := itemAt (flat (innerC c54_3)) 0
noncomputable def c54_3_0_0 : Code := itemAt (flat (innerC c54_3_0)) 0
noncomputable def c54_3_0_1 : Code := itemAt (flat (innerC c54_3_0)) 1
noncomputable def c54_3_0_2 : Code := itemAt (flat (innerC c54_3_0)) 2
noncomputable def c54_3_0_3 : Code := itemAt (flat (innerC c54_3_0)) 3
noncomputable def c54_3_0_2_0 : Code := itemAt (flat (innerC c54_3_0_2)) 0
noncomputable def c54_3_0_2_1 : Code := itemAt (flat (innerC c54_3_0_2)) 1
noncomputable def c54_3_0_2_2 : Code := itemAt (flat (innerC c54_3_0_2)) 2
noncomputable def c54_3_0_2_2_0 : Code := itemAt (flat (innerC c54_3_0_2_2)) 0
noncomputable def c54_3_0_2_2_0_0 : Code := itemAt (flat (innerC c54_3_0_2_2_0)) 0
noncomputable def c54_3_0_2_2_0_1 : Code := itemAt (flat (innerC c54_3_0_2_2_0)) 1
noncomputable def c54_3_0_2_2_0_2 : Code := itemAt (flat (innerC c54_3_0_2_2_0)) 2
noncomputable def c54_3_0_2_2_0_3 : Code := itemAt (flat (innerC c54_3_0_2_2_0)) 3
def F54_q1 (R : Rt) : EQ := endQ Try.prog Try.f54.results.toList R
def F54_1 (R : Rt) (m3 : Option Nat) (ds : Ds) (w : World) : Prop :=
 runD Try.prog ds w fun w1 =>
 R (.returned (.map m3)) w1
def F54_k2 (R : Rt) : EP := (fun ρ ds w => dMap (ρ 3) fun m3 => F54_1 R m3 ds w)
def F54_q3 (R : Rt) : EQ := (thenQ (F54_k2 R) (F54_q1 R))
def F54_q4 (R : Rt) : EQ := (blockQ 0 (F54_q3 R))
def F54_q5 (R : Rt) (J1 : (Int) → World → Prop) : EQ := (thenQ (fun ρ _ w => dInt .i64 (ρ 11) fun n11 => J1 n11 w) (F54_q4 R))
def F54_2 (R : Rt) (J1 : (Int) → World → Prop) (m3 : Option Nat) (l9 : SV) (n10 : Int) (n11 : Int) (ds : Ds) (w : World) : Prop :=
 J1 (IntKind.i64.wrap (n11 + 1)) w
def F54_k6 (R : Rt) (J1 : (Int) → World → Prop) : EP := (fun ρ ds w => dMap (ρ 3) fun m3 => dSl (ρ 9) fun l9 => dInt .i64 (ρ 10) fun n10 => dInt .i64 (ρ 11) fun n11 => F54_2 R J1 m3 l9 n10 n11 ds w)
def F54_q7 (R : Rt) (J1 : (Int) → World → Prop) : EQ := (thenQ (F54_k6 R J1) (F54_q5 R J1))
def F54_q8 (R : Rt) (J1 : (Int) → World → Prop) : EQ := (blockQ 1 (F54_q7 R J1))
def F54_q9 (R : Rt) (J1 : (Int) → World → Prop) : EQ := (blockQ 2 (F54_q8 R J1))
def F54_q10 (R : Rt) (J1 : (Int) → World → Prop) (J2 : (Int) → World → Prop) : EQ := (thenQ (fun ρ _ w => dInt .i64 (ρ 18) fun n18 => J2 n18 w) (F54_q9 R J1))
def F54_3 (R : Rt) (J1 : (Int) → World → Prop) (J2 : (Int) → World → Prop) (m3 : Option Nat) (p5 : Option Addr) (l9 : SV) (n10 : Int) (n11 : Int) (l16 : SV) (n17 : Int) (n18 : Int) (ds : Ds) (w : World) : Prop :=
 Br (decide (n18 < n17)) (
 ∃ a2 : Addr, l16.a = some a2 ∧ 0 ≤ n18 ∧ n18 < ((l16.len : Nat) : Int) ∧
 ∃ s22 : ByteArray, w.cell? (a2.add (n18.toNat * 1)) = some (.string s22) ∧
 dwE w fun w3 =>
 ptrE p5 fun a4 =>
 ∃ n26 : Int, w3.cell? (a4.add 1) = some (.int .i64 n26) ∧
 ptrE p5 fun a5 =>
 ∃ l28 : SV, w3.cell? (a5.add 4) = some (.slice l28.a l28.len l28.cap) ∧
 ∃ a6 : Addr, l28.a = some a6 ∧ 0 ≤ n18 ∧ n18 < ((l28.len : Nat) : Int) ∧
 ∃ l31 : SV, w3.cell? (a6.add (n18.toNat * 1)) = some (.slice l31.a l31.len l31.cap) ∧
 doE Try.prog (Instr.mapUpdate 57 (.map m3) (.string s22) (.agg #[.int .i64 n26, .slice l31.a l31.len l31.cap])) w3 fun w7 =>
 J2 (IntKind.i64.wrap (n18 + 1)) w7) (
 F54_2 R J1 m3 l9 n10 n11 ds w)
def F54_4 (R : Rt) (J1 : (Int) → World → Prop) (m3 : Option Nat) (p5 : Option Addr) (l9 : SV) (n10 : Int) (n11 : Int) (l16 : SV) (n17 : Int) (n18 : Int) (ds : Ds) (w : World) : Prop :=
 loopT (fun (J2 : (Int) → World → Prop) (s : Int) (w : World) => F54_3 R J1 J2 m3 p5 l9 n10 n11 l16 n17 s ds w) n18 w
@[reducible] def F54_5 (R : Rt) (J1 : (Int) → World → Prop) (m3 : Option Nat) (p5 : Option Addr) (l9 : SV) (n10 : Int) (n11 : Int) (l16 : SV) (n17 : Int) (n18 : Int) (ds : Ds) (w : World) : Prop := F54_4 R J1 m3 p5 l9 n10 n11 l16 n17 n18 ds w
def F54_k11 (R : Rt) (J1 : (Int) → World → Prop) : EP := (fun ρ ds w => dMap (ρ 3) fun m3 => dPtr (ρ 5) fun p5 => dSl (ρ 9) fun l9 => dInt .i64 (ρ 10) fun n10 => dInt .i64 (ρ 11) fun n11 => dSl (ρ 16) fun l16 => dInt .i64 (ρ 17) fun n17 => dInt .i64 (ρ 18) fun n18 => F54_5 R J1 m3 p5 l9 n10 n11 l16 n17 n18 ds w)
def F54_6 (R : Rt) (J1 : (Int) → World → Prop) (m3 : Option Nat) (l9 : SV) (n10 : Int) (n11 : Int) (ds : Ds) (w : World) : Prop :=
 ∃ a8 : Addr, l9.a = some a8 ∧ 0 ≤ n11 ∧ n11 < ((l9.len : Nat) : Int) ∧
 ∃ s14_0 : ByteArray, w.cell? ((a8.add (n11.toNat * 5)).add 0) = some (.string s14_0) ∧
 ∃ n14_1 : Int, w.cell? ((a8.add (n11.toNat * 5)).add 1) = some (.int .i64 n14_1) ∧
 ∃ l14_2 : SV, w.cell? ((a8.add (n11.toNat * 5)).add 2) = some (.slice l14_2.a l14_2.len l14_2.cap) ∧
 ∃ l14_3 : SV, w.cell? ((a8.add (n11.toNat * 5)).add 3) = some (.slice l14_3.a l14_3.len l14_3.cap) ∧
 ∃ l14_4 : SV, w.cell? ((a8.add (n11.toNat * 5)).add 4) = some (.slice l14_4.a l14_4.len l14_4.cap) ∧
 alE (.cells #[.string (⟨#[]⟩ : ByteArray), .int .i64 0, .slice none 0 0, .slice none 0 0, .slice none 0 0] 33) w fun r5 w9 =>
 stA Try.prog 33 (⟨r5, 0, none⟩ : Addr) #[.string s14_0, .int .i64 n14_1, .slice l14_2.a l14_2.len l14_2.cap, .slice l14_3.a l14_3.len l14_3.cap, .slice l14_4.a l14_4.len l14_4.cap] w9 fun w10 =>
 ∃ l16 : SV, w10.cell? ((⟨r5, 0, none⟩ : Addr).add 2) = some (.slice l16.a l16.len l16.cap) ∧
 F54_5 R J1 m3 (some (⟨r5, 0, none⟩ : Addr)) l9 n10 n11 l16 ((l16.len : Nat) : Int) 0 ds w10
@[reducible] def F54_7 (R : Rt) (J1 : (Int) → World → Prop) (m3 : Option Nat) (l9 : SV) (n10 : Int) (n11 : Int) (ds : Ds) (w : World) : Prop := F54_6 R J1 m3 l9 n10 n11 ds w
def F54_k12 (R : Rt) (J1 : (Int) → World → Prop) : EP := (fun ρ ds w => dMap (ρ 3) fun m3 => dSl (ρ 9) fun l9 => dInt .i64 (ρ 10) fun n10 => dInt .i64 (ρ 11) fun n11 => F54_7 R J1 m3 l9 n10 n11 ds w)
def F54_8 (R : Rt) (J1 : (Int) → World → Prop) (m3 : Option Nat) (l9 : SV) (n10 : Int) (n11 : Int) (ds : Ds) (w : World) : Prop :=
 Br (decide (n11 < n10)) (
 F54_7 R J1 m3 l9 n10 n11 ds w) (
 F54_1 R m3 ds w)
def F54_9 (R : Rt) (m3 : Option Nat) (l9 : SV) (n10 : Int) (n11 : Int) (ds : Ds) (w : World) : Prop :=
 loopT (fun (J1 : (Int) → World → Prop) (s : Int) (w : World) => F54_8 R J1 m3 l9 n10 s ds w) n11 w
@[reducible] def F54_10 (R : Rt) (m3 : Option Nat) (l9 : SV) (n10 : Int) (n11 : Int) (ds : Ds) (w : World) : Prop := F54_9 R m3 l9 n10 n11 ds w
def F54_k13 (R : Rt) : EP := (fun ρ ds w => dMap (ρ 3) fun m3 => dSl (ρ 9) fun l9 => dInt .i64 (ρ 10) fun n10 => dInt .i64 (ρ 11) fun n11 => F54_10 R m3 l9 n10 n11 ds w)
def F54_11 (R : Rt) (l0 : SV) (ds : Ds) (w : World) : Prop :=
 alE (.map #[] 0) w fun r8 w11 =>
 F54_10 R (some r8) l0 ((l0.len : Nat) : Int) 0 ds w11
theorem c54_l : flat (bodyOf Try.f54) = [c54_0, c54_1, c54_2, c54_3, c54_4, c54_5] := by kernel_rfl
theorem c54_3_l : flat (innerC c54_3) = [c54_3_0] := by kernel_rfl
theorem c54_3_0_l : flat (innerC c54_3_0) = [c54_3_0_0, c54_3_0_1, c54_3_0_2, c54_3_0_3] := by kernel_rfl
theorem c54_3_0_2_l : flat (innerC c54_3_0_2) = [c54_3_0_2_0, c54_3_0_2_1, c54_3_0_2_2] := by kernel_rfl
theorem c54_3_0_2_2_l : flat (innerC c54_3_0_2_2) = [c54_3_0_2_2_0] := by kernel_rfl
theorem c54_3_0_2_2_0_l : flat (innerC c54_3_0_2_2_0) = [c54_3_0_2_2_0_0, c54_3_0_2_2_0_1, c54_3_0_2_2_0_2, c54_3_0_2_2_0_3] := by kernel_rfl
theorem F54_1_ok (R : Rt) (m3 : Option Nat) (ds : Ds) (w : World) (ρ : Env) (e3 : ρ 3 = .map m3) (h : F54_1 R m3 ds w) :
    TrL Try.prog Try.f54.ntmps [c54_4, c54_5] (F54_q1 R) ρ ds w :=
  TrL_leaf (X := F54_1 R m3 ds w) (setAll_cons e3 setAll_nil) (by kernel_rfl) (by kernel_rfl) h
theorem F54_2_ok (R : Rt) (J1 : (Int) → World → Prop) (m3 : Option Nat) (l9 : SV) (n10 : Int) (n11 : Int) (ds : Ds) (w : World) (ρ : Env) (e3 : ρ 3 = .map m3) (e9 : ρ 9 = .slice l9.a l9.len l9.cap) (e10 : ρ 10 = .int .i64 n10) (e11 : ρ 11 = .int .i64 n11) (h : F54_2 R J1 m3 l9 n10 n11 ds w) :
    TrL Try.prog Try.f54.ntmps [c54_3_0_3] (F54_q5 R J1) ρ ds w :=
  TrL_leaf (X := F54_2 R J1 m3 l9 n10 n11 ds w) (setAll_cons e3 (setAll_cons e9 (setAll_cons e10 (setAll_cons e11 setAll_nil)))) (by kernel_rfl) (by kernel_rfl) h
theorem F54_3_ok (R : Rt) (J1 : (Int) → World → Prop) (J2 : (Int) → World → Prop) (m3 : Option Nat) (p5 : Option Addr) (l9 : SV) (n10 : Int) (n11 : Int) (l16 : SV) (n17 : Int) (n18 : Int) (ds : Ds) (w : World) (ρ : Env) (e3 : ρ 3 = .map m3) (e5 : ρ 5 = .pointer p5) (e9 : ρ 9 = .slice l9.a l9.len l9.cap) (e10 : ρ 10 = .int .i64 n10) (e11 : ρ 11 = .int .i64 n11) (e16 : ρ 16 = .slice l16.a l16.len l16.cap) (e17 : ρ 17 = .int .i64 n17) (e18 : ρ 18 = .int .i64 n18) (h : F54_3 R J1 J2 m3 p5 l9 n10 n11 l16 n17 n18 ds w) :
    TrL Try.prog Try.f54.ntmps [c54_3_0_2_2_0_0, c54_3_0_2_2_0_1, c54_3_0_2_2_0_2, c54_3_0_2_2_0_3] (F54_q10 R J1 J2) ρ ds w :=
  TrL_leaf (X := F54_3 R J1 J2 m3 p5 l9 n10 n11 l16 n17 n18 ds w) (setAll_cons e3 (setAll_cons e5 (setAll_cons e9 (setAll_cons e10 (setAll_cons e11 (setAll_cons e16 (setAll_cons e17 (setAll_cons e18 setAll_nil)))))))) (by kernel_rfl) (by kernel_rfl) h
theorem F54_4_ok (R : Rt) (J1 : (Int) → World → Prop) (m3 : Option Nat) (p5 : Option Addr) (l9 : SV) (n10 : Int) (n11 : Int) (l16 : SV) (n17 : Int) (n18 : Int) (ds : Ds) (w : World) (ρ : Env) (e3 : ρ 3 = .map m3) (e5 : ρ 5 = .pointer p5) (e9 : ρ 9 = .slice l9.a l9.len l9.cap) (e10 : ρ 10 = .int .i64 n10) (e11 : ρ 11 = .int .i64 n11) (e16 : ρ 16 = .slice l16.a l16.len l16.cap) (e17 : ρ 17 = .int .i64 n17) (e18 : ρ 18 = .int .i64 n18) (h : F54_4 R J1 m3 p5 l9 n10 n11 l16 n17 n18 ds w) :
    TrL Try.prog Try.f54.ntmps [c54_3_0_2_2_0] (F54_q9 R J1) ρ ds w :=
  TrL_one (Tr_loop' (c := innerC c54_3_0_2_2_0) (σ := Int) (enc := (fun (s : Int) (ρ : Env) => ρ 18 = .int .i64 s)) (D := (fun ρ K => dInt .i64 (ρ 18) fun n18 => K n18)) (F := (fun (J2 : (Int) → World → Prop) (s : Int) (w : World) => F54_3 R J1 J2 m3 p5 l9 n10 n11 l16 n17 s ds w)) (s0 := n18) (by kernel_rfl) c54_3_0_2_2_0_l e18 (by kernel_rfl) (fun ρ K hD => by obtain ⟨n18, e18, hD⟩ := dInt_elim hD; exact ⟨n18, e18, hD⟩)
      (fun J2 s ρ' w' he ha hF => by
      have e18' := he
      exact F54_3_ok R J1 J2 m3 p5 l9 n10 n11 l16 n17 s ds w' ρ' ((ha 3 (by kernel_rfl)).trans e3) ((ha 5 (by kernel_rfl)).trans e5) ((ha 9 (by kernel_rfl)).trans e9) ((ha 10 (by kernel_rfl)).trans e10) ((ha 11 (by kernel_rfl)).trans e11) ((ha 16 (by kernel_rfl)).trans e16) ((ha 17 (by kernel_rfl)).trans e17) e18' hF) h)
theorem F54_5_ok (R : Rt) (J1 : (Int) → World → Prop) (m3 : Option Nat) (p5 : Option Addr) (l9 : SV) (n10 : Int) (n11 : Int) (l16 : SV) (n17 : Int) (n18 : Int) (ds : Ds) (w : World) (ρ : Env) (e3 : ρ 3 = .map m3) (e5 : ρ 5 = .pointer p5) (e9 : ρ 9 = .slice l9.a l9.len l9.cap) (e10 : ρ 10 = .int .i64 n10) (e11 : ρ 11 = .int .i64 n11) (e16 : ρ 16 = .slice l16.a l16.len l16.cap) (e17 : ρ 17 = .int .i64 n17) (e18 : ρ 18 = .int .i64 n18) (h : F54_5 R J1 m3 p5 l9 n10 n11 l16 n17 n18 ds w) :
    TrL Try.prog Try.f54.ntmps [c54_3_0_2_2] (F54_q8 R J1) ρ ds w :=
  TrL_one (Tr_block' (c := innerC c54_3_0_2_2) (by kernel_rfl) c54_3_0_2_2_l (F54_4_ok R J1 m3 p5 l9 n10 n11 l16 n17 n18 ds w ρ e3 e5 e9 e10 e11 e16 e17 e18 h))
theorem F54_6_ok (R : Rt) (J1 : (Int) → World → Prop) (m3 : Option Nat) (l9 : SV) (n10 : Int) (n11 : Int) (ds : Ds) (w : World) (ρ : Env) (e3 : ρ 3 = .map m3) (e9 : ρ 9 = .slice l9.a l9.len l9.cap) (e10 : ρ 10 = .int .i64 n10) (e11 : ρ 11 = .int .i64 n11) (h : F54_6 R J1 m3 l9 n10 n11 ds w) :
    TrL Try.prog Try.f54.ntmps [c54_3_0_2_0, c54_3_0_2_1, c54_3_0_2_2] (F54_q8 R J1) ρ ds w :=
  TrL_piece (pre := [c54_3_0_2_0, c54_3_0_2_1]) (K := (F54_k11 R J1)) (X := F54_6 R J1 m3 l9 n10 n11 ds w) (setAll_cons e3 (setAll_cons e9 (setAll_cons e10 (setAll_cons e11 setAll_nil)))) (by kernel_rfl) (by kernel_rfl)
    (fun ρ' ds' w' hD => by
      obtain ⟨m3, e3, hD⟩ := dMap_elim hD; obtain ⟨p5, e5, hD⟩ := dPtr_elim hD; obtain ⟨l9, e9, hD⟩ := dSl_elim hD; obtain ⟨n10, e10, hD⟩ := dInt_elim hD; obtain ⟨n11, e11, hD⟩ := dInt_elim hD; obtain ⟨l16, e16, hD⟩ := dSl_elim hD; obtain ⟨n17, e17, hD⟩ := dInt_elim hD; obtain ⟨n18, e18, hD⟩ := dInt_elim hD; exact F54_5_ok R J1 m3 p5 l9 n10 n11 l16 n17 n18 ds' w' ρ' e3 e5 e9 e10 e11 e16 e17 e18 hD) h
theorem F54_7_ok (R : Rt) (J1 : (Int) → World → Prop) (m3 : Option Nat) (l9 : SV) (n10 : Int) (n11 : Int) (ds : Ds) (w : World) (ρ : Env) (e3 : ρ 3 = .map m3) (e9 : ρ 9 = .slice l9.a l9.len l9.cap) (e10 : ρ 10 = .int .i64 n10) (e11 : ρ 11 = .int .i64 n11) (h : F54_7 R J1 m3 l9 n10 n11 ds w) :
    TrL Try.prog Try.f54.ntmps [c54_3_0_2, c54_3_0_3] (F54_q5 R J1) ρ ds w :=
  TrL_head (K := (F54_k6 R J1)) (Tr_block' (c := innerC c54_3_0_2) (by kernel_rfl) c54_3_0_2_l (F54_6_ok R J1 m3 l9 n10 n11 ds w ρ e3 e9 e10 e11 h))
    (fun ρ' ds' w' hD => by
      obtain ⟨m3, e3, hD⟩ := dMap_elim hD; obtain ⟨l9, e9, hD⟩ := dSl_elim hD; obtain ⟨n10, e10, hD⟩ := dInt_elim hD; obtain ⟨n11, e11, hD⟩ := dInt_elim hD; exact F54_2_ok R J1 m3 l9 n10 n11 ds' w' ρ' e3 e9 e10 e11 hD)
theorem F54_8_ok (R : Rt) (J1 : (Int) → World → Prop) (m3 : Option Nat) (l9 : SV) (n10 : Int) (n11 : Int) (ds : Ds) (w : World) (ρ : Env) (e3 : ρ 3 = .map m3) (e9 : ρ 9 = .slice l9.a l9.len l9.cap) (e10 : ρ 10 = .int .i64 n10) (e11 : ρ 11 = .int .i64 n11) (h : F54_8 R J1 m3 l9 n10 n11 ds w) :
    TrL Try.prog Try.f54.ntmps [c54_3_0_0, c54_3_0_1, c54_3_0_2, c54_3_0_3] (F54_q5 R J1) ρ ds w :=
  TrL_piece (pre := [c54_3_0_0, c54_3_0_1]) (K := (F54_k12 R J1)) (X := F54_8 R J1 m3 l9 n10 n11 ds w) (setAll_cons e3 (setAll_cons e9 (setAll_cons e10 (setAll_cons e11 setAll_nil)))) (by kernel_rfl) (by kernel_rfl)
    (fun ρ' ds' w' hD => by
      obtain ⟨m3, e3, hD⟩ := dMap_elim hD; obtain ⟨l9, e9, hD⟩ := dSl_elim hD; obtain ⟨n10, e10, hD⟩ := dInt_elim hD; obtain ⟨n11, e11, hD⟩ := dInt_elim hD; exact F54_7_ok R J1 m3 l9 n10 n11 ds' w' ρ' e3 e9 e10 e11 hD) h
theorem F54_9_ok (R : Rt) (m3 : Option Nat) (l9 : SV) (n10 : Int) (n11 : Int) (ds : Ds) (w : World) (ρ : Env) (e3 : ρ 3 = .map m3) (e9 : ρ 9 = .slice l9.a l9.len l9.cap) (e10 : ρ 10 = .int .i64 n10) (e11 : ρ 11 = .int .i64 n11) (h : F54_9 R m3 l9 n10 n11 ds w) :
    TrL Try.prog Try.f54.ntmps [c54_3_0] (F54_q4 R) ρ ds w :=
  TrL_one (Tr_loop' (c := innerC c54_3_0) (σ := Int) (enc := (fun (s : Int) (ρ : Env) => ρ 11 = .int .i64 s)) (D := (fun ρ K => dInt .i64 (ρ 11) fun n11 => K n11)) (F := (fun (J1 : (Int) → World → Prop) (s : Int) (w : World) => F54_8 R J1 m3 l9 n10 s ds w)) (s0 := n11) (by kernel_rfl) c54_3_0_l e11 (by kernel_rfl) (fun ρ K hD => by obtain ⟨n11, e11, hD⟩ := dInt_elim hD; exact ⟨n11, e11, hD⟩)
      (fun J1 s ρ' w' he ha hF => by
      have e11' := he
      exact F54_8_ok R J1 m3 l9 n10 s ds w' ρ' ((ha 3 (by kernel_rfl)).trans e3) ((ha 9 (by kernel_rfl)).trans e9) ((ha 10 (by kernel_rfl)).trans e10) e11' hF) h)
theorem F54_10_ok (R : Rt) (m3 : Option Nat) (l9 : SV) (n10 : Int) (n11 : Int) (ds : Ds) (w : World) (ρ : Env) (e3 : ρ 3 = .map m3) (e9 : ρ 9 = .slice l9.a l9.len l9.cap) (e10 : ρ 10 = .int .i64 n10) (e11 : ρ 11 = .int .i64 n11) (h : F54_10 R m3 l9 n10 n11 ds w) :
    TrL Try.prog Try.f54.ntmps [c54_3, c54_4, c54_5] (F54_q1 R) ρ ds w :=
  TrL_head (K := (F54_k2 R)) (Tr_block' (c := innerC c54_3) (by kernel_rfl) c54_3_l (F54_9_ok R m3 l9 n10 n11 ds w ρ e3 e9 e10 e11 h))
    (fun ρ' ds' w' hD => by
      obtain ⟨m3, e3, hD⟩ := dMap_elim hD; exact F54_1_ok R m3 ds' w' ρ' e3 hD)
theorem F54_11_ok (R : Rt) (l0 : SV) (ds : Ds) (w : World) (ρ : Env) (e0 : ρ 0 = .slice l0.a l0.len l0.cap) (h : F54_11 R l0 ds w) :
    TrL Try.prog Try.f54.ntmps [c54_0, c54_1, c54_2, c54_3, c54_4, c54_5] (F54_q1 R) ρ ds w :=
  TrL_piece (pre := [c54_0, c54_1, c54_2]) (K := (F54_k13 R)) (X := F54_11 R l0 ds w) (setAll_cons e0 setAll_nil) (by kernel_rfl) (by kernel_rfl)
    (fun ρ' ds' w' hD => by
      obtain ⟨m3, e3, hD⟩ := dMap_elim hD; obtain ⟨l9, e9, hD⟩ := dSl_elim hD; obtain ⟨n10, e10, hD⟩ := dInt_elim hD; obtain ⟨n11, e11, hD⟩ := dInt_elim hD; exact F54_10_ok R m3 l9 n10 n11 ds' w' ρ' e3 e9 e10 e11 hD) h
theorem F54_calls (l0 : SV) (w : World) (R : Rt) (h : F54_11 R l0 [] w) : Calls Try.prog 54 #[.slice l0.a l0.len l0.cap] w R :=
  calls_of_L (l := [c54_0, c54_1, c54_2, c54_3, c54_4, c54_5]) Try.func54 (by kernel_rfl) (by rw [Try.ntmps54]; exact Nat.le_of_ble_eq_true (by kernel_rfl)) c54_l
    (F54_11_ok R l0 [] w _ rfl h)
theorem F54_callsD (l0 : SV) (w : World) (R : Rt) (u : FrameMode) (h : F54_11 R l0 [] w) : CallsD Try.prog 54 #[.slice l0.a l0.len l0.cap] u w fun e u' w' => u' = u ∧ R e w' :=
  callsD_of_L (l := [c54_0, c54_1, c54_2, c54_3, c54_4, c54_5]) Try.func54 (by kernel_rfl) (by rw [Try.ntmps54]; exact Nat.le_of_ble_eq_true (by kernel_rfl)) (by kernel_rfl) c54_l
    (F54_11_ok R l0 [] w _ rfl h) u

/-! function 56: cabinetry/link.ends -/
noncomputable def c56_0 : Code := itemAt (flat (bodyOf Try.f56)) 0
noncomputable def c56_1 : Code := itemAt (flat (bodyOf Try.f56)) 1
noncomputable def c56_2 : Code := itemAt (flat (bodyOf Try.f56)) 2
noncomputable def c56_3 : Code := itemAt (flat (bodyOf Try.f56)) 3
noncomputable def c56_4 : Code := itemAt (flat (bodyOf Try.f56)) 4
noncomputable def c56_5 : Code := itemAt (flat (bodyOf Try.f56)) 5
noncomputable def c56_3_0 : Code := itemAt (flat (innerC c56_3)) 0
noncomputable def c56_3_0_0 : Code := itemAt (flat (innerC c56_3_0)) 0
noncomputable def c56_3_0_1 : Code := itemAt (flat (innerC c56_3_0)) 1
noncomputable def c56_3_0_2 : Code := itemAt (flat (innerC c56_3_0)) 2
noncomputable def c56_3_0_3 : Code := itemAt (flat (innerC c56_3_0)) 3
def F56_q1 (R : Rt) : EQ := endQ Try.prog Try.f56.results.toList R
def F56_1 (R : Rt) (p2 : Option Addr) (p3 : Option Addr) (ds : Ds) (w : World) : Prop :=
 ptrE p3 fun a1 =>
 ∃ n22_0 : Int, w.cell? (a1.add 0) = some (.int .i64 n22_0) ∧
 ∃ n22_1 : Int, w.cell? (a1.add 1) = some (.int .i64 n22_1) ∧
 ∃ n22_2 : Int, w.cell? (a1.add 2) = some (.int .i64 n22_2) ∧
 ∃ n22_3 : Int, w.cell? (a1.add 3) = some (.int .i64 n22_3) ∧
 ∃ n22_4 : Int, w.cell? (a1.add 4) = some (.int .i64 n22_4) ∧
 ∃ n22_5 : Int, w.cell? (a1.add 5) = some (.int .i64 n22_5) ∧
 ∃ n22_6 : Int, w.cell? (a1.add 6) = some (.int .i64 n22_6) ∧
 ∃ n22_7 : Int, w.cell? (a1.add 7) = some (.int .i64 n22_7) ∧
 ∃ n22_8 : Int, w.cell? (a1.add 8) = some (.int .i64 n22_8) ∧
 ∃ n22_9 : Int, w.cell? (a1.add 9) = some (.int .i64 n22_9) ∧
 ∃ n22_10 : Int, w.cell? (a1.add 10) = some (.int .i64 n22_10) ∧
 ∃ n22_11 : Int, w.cell? (a1.add 11) = some (.int .i64 n22_11) ∧
 ∃ n22_12 : Int, w.cell? (a1.add 12) = some (.int .i64 n22_12) ∧
 ∃ n22_13 : Int, w.cell? (a1.add 13) = some (.int .i64 n22_13) ∧
 ∃ n22_14 : Int, w.cell? (a1.add 14) = some (.int .i64 n22_14) ∧
 ∃ n22_15 : Int, w.cell? (a1.add 15) = some (.int .i64 n22_15) ∧
 ptrE p2 fun a2 =>
 stA Try.prog 77 a2 #[.int .i64 n22_0, .int .i64 n22_1, .int .i64 n22_2, .int .i64 n22_3, .int .i64 n22_4, .int .i64 n22_5, .int .i64 n22_6, .int .i64 n22_7, .int .i64 n22_8, .int .i64 n22_9, .int .i64 n22_10, .int .i64 n22_11, .int .i64 n22_12, .int .i64 n22_13, .int .i64 n22_14, .int .i64 n22_15] w fun w3 =>
 runD Try.prog ds w3 fun w4 =>
 ptrE p2 fun a5 =>
 ∃ nR0_0 : Int, w4.cell? (a5.add 0) = some (.int .i64 nR0_0) ∧
 ∃ nR0_1 : Int, w4.cell? (a5.add 1) = some (.int .i64 nR0_1) ∧
 ∃ nR0_2 : Int, w4.cell? (a5.add 2) = some (.int .i64 nR0_2) ∧
 ∃ nR0_3 : Int, w4.cell? (a5.add 3) = some (.int .i64 nR0_3) ∧
 ∃ nR0_4 : Int, w4.cell? (a5.add 4) = some (.int .i64 nR0_4) ∧
 ∃ nR0_5 : Int, w4.cell? (a5.add 5) = some (.int .i64 nR0_5) ∧
 ∃ nR0_6 : Int, w4.cell? (a5.add 6) = some (.int .i64 nR0_6) ∧
 ∃ nR0_7 : Int, w4.cell? (a5.add 7) = some (.int .i64 nR0_7) ∧
 ∃ nR0_8 : Int, w4.cell? (a5.add 8) = some (.int .i64 nR0_8) ∧
 ∃ nR0_9 : Int, w4.cell? (a5.add 9) = some (.int .i64 nR0_9) ∧
 ∃ nR0_10 : Int, w4.cell? (a5.add 10) = some (.int .i64 nR0_10) ∧
 ∃ nR0_11 : Int, w4.cell? (a5.add 11) = some (.int .i64 nR0_11) ∧
 ∃ nR0_12 : Int, w4.cell? (a5.add 12) = some (.int .i64 nR0_12) ∧
 ∃ nR0_13 : Int, w4.cell? (a5.add 13) = some (.int .i64 nR0_13) ∧
 ∃ nR0_14 : Int, w4.cell? (a5.add 14) = some (.int .i64 nR0_14) ∧
 ∃ nR0_15 : Int, w4.cell? (a5.add 15) = some (.int .i64 nR0_15) ∧
 R (.returned (.agg #[.int .i64 nR0_0, .int .i64 nR0_1, .int .i64 nR0_2, .int .i64 nR0_3, .int .i64 nR0_4, .int .i64 nR0_5, .int .i64 nR0_6, .int .i64 nR0_7, .int .i64 nR0_8, .int .i64 nR0_9, .int .i64 nR0_10, .int .i64 nR0_11, .int .i64 nR0_12, .int .i64 nR0_13, .int .i64 nR0_14, .int .i64 nR0_15])) w4
def F56_k2 (R : Rt) : EP := (fun ρ ds w => dPtr (ρ 2) fun p2 => dPtr (ρ 3) fun p3 => F56_1 R p2 p3 ds w)
def F56_q3 (R : Rt) : EQ := (thenQ (F56_k2 R) (F56_q1 R))
def F56_q4 (R : Rt) : EQ := (blockQ 0 (F56_q3 R))
def F56_q5 (R : Rt) (J1 : (Int) → World → Prop) : EQ := (thenQ (fun ρ _ w => dInt .i64 (ρ 8) fun n8 => J1 n8 w) (F56_q4 R))
def F56_2 (R : Rt) (J1 : (Int) → World → Prop) (p2 : Option Addr) (p3 : Option Addr) (l6 : SV) (n7 : Int) (n8 : Int) (ds : Ds) (w : World) : Prop :=
 Br (decide (n8 < n7)) (
 ∃ a6 : Addr, l6.a = some a6 ∧ 0 ≤ n8 ∧ n8 < ((l6.len : Nat) : Int) ∧
 ∃ s11_0 : ByteArray, w.cell? ((a6.add (n8.toNat * 5)).add 0) = some (.string s11_0) ∧
 ∃ n11_1 : Int, w.cell? ((a6.add (n8.toNat * 5)).add 1) = some (.int .i64 n11_1) ∧
 ∃ l11_2 : SV, w.cell? ((a6.add (n8.toNat * 5)).add 2) = some (.slice l11_2.a l11_2.len l11_2.cap) ∧
 ∃ l11_3 : SV, w.cell? ((a6.add (n8.toNat * 5)).add 3) = some (.slice l11_3.a l11_3.len l11_3.cap) ∧
 ∃ l11_4 : SV, w.cell? ((a6.add (n8.toNat * 5)).add 4) = some (.slice l11_4.a l11_4.len l11_4.cap) ∧
 alE (.cells #[.string (⟨#[]⟩ : ByteArray), .int .i64 0, .slice none 0 0, .slice none 0 0, .slice none 0 0] 33) w fun r5 w7 =>
 stA Try.prog 33 (⟨r5, 0, none⟩ : Addr) #[.string s11_0, .int .i64 n11_1, .slice l11_2.a l11_2.len l11_2.cap, .slice l11_3.a l11_3.len l11_3.cap, .slice l11_4.a l11_4.len l11_4.cap] w7 fun w8 =>
 dwE w8 fun w9 =>
 ∃ S1 : World → Prop, S1 w9 ∧
 ∃ n13 : Int, (∀ w', S1 w' → w'.cell? ((⟨r5, 0, none⟩ : Addr).add 1) = some (.int .i64 n13)) ∧
 ptrE p3 fun a10 =>
 0 ≤ n13 ∧ n13 < ((16 : Nat) : Int) ∧
 ∃ n15 : Int, (∀ w', S1 w' → w'.cell? (a10.add (n13.toNat * 1)) = some (.int .i64 n15)) ∧
 ∃ l17 : SV, (∀ w', S1 w' → w'.cell? ((⟨r5, 0, none⟩ : Addr).add 3) = some (.slice l17.a l17.len l17.cap)) ∧
 Calls Try.prog 98 #[.slice l17.a l17.len l17.cap] w9 fun e w11 =>
 ∃ n18 : Int, e = .returned (.int .i64 n18) ∧
 S1 w11 ∧
 ptrE p3 fun a12 =>
 0 ≤ n13 ∧ n13 < ((16 : Nat) : Int) ∧
 st1 (a12.add (n13.toNat * 1)) (.int .i64 (IntKind.i64.wrap (n15 + n18))) w11 fun w13 =>
 J1 (IntKind.i64.wrap (n8 + 1)) w13) (
 F56_1 R p2 p3 ds w)
def F56_3 (R : Rt) (p2 : Option Addr) (p3 : Option Addr) (l6 : SV) (n7 : Int) (n8 : Int) (ds : Ds) (w : World) : Prop :=
 loopT (fun (J1 : (Int) → World → Prop) (s : Int) (w : World) => F56_2 R J1 p2 p3 l6 n7 s ds w) n8 w
@[reducible] def F56_4 (R : Rt) (p2 : Option Addr) (p3 : Option Addr) (l6 : SV) (n7 : Int) (n8 : Int) (ds : Ds) (w : World) : Prop := F56_3 R p2 p3 l6 n7 n8 ds w
def F56_k6 (R : Rt) : EP := (fun ρ ds w => dPtr (ρ 2) fun p2 => dPtr (ρ 3) fun p3 => dSl (ρ 6) fun l6 => dInt .i64 (ρ 7) fun n7 => dInt .i64 (ρ 8) fun n8 => F56_4 R p2 p3 l6 n7 n8 ds w)
def F56_5 (R : Rt) (l0 : SV) (ds : Ds) (w : World) : Prop :=
 alE (.cells #[.int .i64 0, .int .i64 0, .int .i64 0, .int .i64 0, .int .i64 0, .int .i64 0, .int .i64 0, .int .i64 0, .int .i64 0, .int .i64 0, .int .i64 0, .int .i64 0, .int .i64 0, .int .i64 0, .int .i64 0, .int .i64 0] 77) w fun r2 w14 =>
 alE (.cells #[.int .i64 0, .int .i64 0, .int .i64 0, .int .i64 0, .int .i64 0, .int .i64 0, .int .i64 0, .int .i64 0, .int .i64 0, .int .i64 0, .int .i64 0, .int .i64 0, .int .i64 0, .int .i64 0, .int .i64 0, .int .i64 0] 77) w14 fun r3 w15 =>
 F56_4 R (some (⟨r2, 0, none⟩ : Addr)) (some (⟨r3, 0, none⟩ : Addr)) l0 ((l0.len : Nat) : Int) 0 ds w15
theorem c56_l : flat (bodyOf Try.f56) = [c56_0, c56_1, c56_2, c56_3, c56_4, c56_5] := by kernel_rfl
theorem c56_3_l : flat (innerC c56_3) = [c56_3_0] := by kernel_rfl
theorem c56_3_0_l : flat (innerC c56_3_0) = [c56_3_0_0, c56_3_0_1, c56_3_0_2, c56_3_0_3] := by kernel_rfl
theorem F56_1_ok (R : Rt) (p2 : Option Addr) (p3 : Option Addr) (ds : Ds) (w : World) (ρ : Env) (e2 : ρ 2 = .pointer p2) (e3 : ρ 3 = .pointer p3) (h : F56_1 R p2 p3 ds w) :
    TrL Try.prog Try.f56.ntmps [c56_4, c56_5] (F56_q1 R) ρ ds w :=
  TrL_leaf (X := F56_1 R p2 p3 ds w) (setAll_cons e2 (setAll_cons e3 setAll_nil)) (by kernel_rfl) (by kernel_rfl) h
theorem F56_2_ok (R : Rt) (J1 : (Int) → World → Prop) (p2 : Option Addr) (p3 : Option Addr) (l6 : SV) (n7 : Int) (n8 : Int) (ds : Ds) (w : World) (ρ : Env) (e2 : ρ 2 = .pointer p2) (e3 : ρ 3 = .pointer p3) (e6 : ρ 6 = .slice l6.a l6.len l6.cap) (e7 : ρ 7 = .int .i64 n7) (e8 : ρ 8 = .int .i64 n8) (h : F56_2 R J1 p2 p3 l6 n7 n8 ds w) :
    TrL Try.prog Try.f56.ntmps [c56_3_0_0, c56_3_0_1, c56_3_0_2, c56_3_0_3] (F56_q5 R J1) ρ ds w :=
  TrL_leaf (X := F56_2 R J1 p2 p3 l6 n7 n8 ds w) (setAll_cons e2 (setAll_cons e3 (setAll_cons e6 (setAll_cons e7 (setAll_cons e8 setAll_nil))))) (by kernel_rfl) (by kernel_rfl) h
theorem F56_3_ok (R : Rt) (p2 : Option Addr) (p3 : Option Addr) (l6 : SV) (n7 : Int) (n8 : Int) (ds : Ds) (w : World) (ρ : Env) (e2 : ρ 2 = .pointer p2) (e3 : ρ 3 = .pointer p3) (e6 : ρ 6 = .slice l6.a l6.len l6.cap) (e7 : ρ 7 = .int .i64 n7) (e8 : ρ 8 = .int .i64 n8) (h : F56_3 R p2 p3 l6 n7 n8 ds w) :
    TrL Try.prog Try.f56.ntmps [c56_3_0] (F56_q4 R) ρ ds w :=
  TrL_one (Tr_loop' (c := innerC c56_3_0) (σ := Int) (enc := (fun (s : Int) (ρ : Env) => ρ 8 = .int .i64 s)) (D := (fun ρ K => dInt .i64 (ρ 8) fun n8 => K n8)) (F := (fun (J1 : (Int) → World → Prop) (s : Int) (w : World) => F56_2 R J1 p2 p3 l6 n7 s ds w)) (s0 := n8) (by kernel_rfl) c56_3_0_l e8 (by kernel_rfl) (fun ρ K hD => by obtain ⟨n8, e8, hD⟩ := dInt_elim hD; exact ⟨n8, e8, hD⟩)
      (fun J1 s ρ' w' he ha hF => by
      have e8' := he
      exact F56_2_ok R J1 p2 p3 l6 n7 s ds w' ρ' ((ha 2 (by kernel_rfl)).trans e2) ((ha 3 (by kernel_rfl)).trans e3) ((ha 6 (by kernel_rfl)).trans e6) ((ha 7 (by kernel_rfl)).trans e7) e8' hF) h)
theorem F56_4_ok (R : Rt) (p2 : Option Addr) (p3 : Option Addr) (l6 : SV) (n7 : Int) (n8 : Int) (ds : Ds) (w : World) (ρ : Env) (e2 : ρ 2 = .pointer p2) (e3 : ρ 3 = .pointer p3) (e6 : ρ 6 = .slice l6.a l6.len l6.cap) (e7 : ρ 7 = .int .i64 n7) (e8 : ρ 8 = .int .i64 n8) (h : F56_4 R p2 p3 l6 n7 n8 ds w) :
    TrL Try.prog Try.f56.ntmps [c56_3, c56_4, c56_5] (F56_q1 R) ρ ds w :=
  TrL_head (K := (F56_k2 R)) (Tr_block' (c := innerC c56_3) (by kernel_rfl) c56_3_l (F56_3_ok R p2 p3 l6 n7 n8 ds w ρ e2 e3 e6 e7 e8 h))
    (fun ρ' ds' w' hD => by
      obtain ⟨p2, e2, hD⟩ := dPtr_elim hD; obtain ⟨p3, e3, hD⟩ := dPtr_elim hD; exact F56_1_ok R p2 p3 ds' w' ρ' e2 e3 hD)
theorem F56_5_ok (R : Rt) (l0 : SV) (ds : Ds) (w : World) (ρ : Env) (e0 : ρ 0 = .slice l0.a l0.len l0.cap) (h : F56_5 R l0 ds w) :
    TrL Try.prog Try.f56.ntmps [c56_0, c56_1, c56_2, c56_3, c56_4, c56_5] (F56_q1 R) ρ ds w :=
  TrL_piece (pre := [c56_0, c56_1, c56_2]) (K := (F56_k6 R)) (X := F56_5 R l0 ds w) (setAll_cons e0 setAll_nil) (by kernel_rfl) (by kernel_rfl)
    (fun ρ' ds' w' hD => by
      obtain ⟨p2, e2, hD⟩ := dPtr_elim hD; obtain ⟨p3, e3, hD⟩ := dPtr_elim hD; obtain ⟨l6, e6, hD⟩ := dSl_elim hD; obtain ⟨n7, e7, hD⟩ := dInt_elim hD; obtain ⟨n8, e8, hD⟩ := dInt_elim hD; exact F56_4_ok R p2 p3 l6 n7 n8 ds' w' ρ' e2 e3 e6 e7 e8 hD) h
theorem F56_calls (l0 : SV) (w : World) (R : Rt) (h : F56_5 R l0 [] w) : Calls Try.prog 56 #[.slice l0.a l0.len l0.cap] w R :=
  calls_of_L (l := [c56_0, c56_1, c56_2, c56_3, c56_4, c56_5]) Try.func56 (by kernel_rfl) (by rw [Try.ntmps56]; exact Nat.le_of_ble_eq_true (by kernel_rfl)) c56_l
    (F56_5_ok R l0 [] w _ rfl h)
theorem F56_callsD (l0 : SV) (w : World) (R : Rt) (u : FrameMode) (h : F56_5 R l0 [] w) : CallsD Try.prog 56 #[.slice l0.a l0.len l0.cap] u w fun e u' w' => u' = u ∧ R e w' :=
  callsD_of_L (l := [c56_0, c56_1, c56_2, c56_3, c56_4, c56_5]) Try.func56 (by kernel_rfl) (by rw [Try.ntmps56]; exact Nat.le_of_ble_eq_true (by kernel_rfl)) (by kernel_rfl) c56_l
    (F56_5_ok R l0 [] w _ rfl h) u

/-! function 57: slices.Max[[]int,int] -/
noncomputable def c57_0 : Code := itemAt (flat (bodyOf Try.f57)) 0
noncomputable def c57_1 : Code := itemAt (flat (bodyOf Try.f57)) 1
noncomputable def c57_2 : Code := itemAt (flat (bodyOf Try.f57)) 2
noncomputable def c57_3 : Code := itemAt (flat (bodyOf Try.f57)) 3
noncomputable def c57_4 : Code := itemAt (flat (bodyOf Try.f57)) 4
noncomputable def c57_5 : Code := itemAt (flat (bodyOf Try.f57)) 5
noncomputable def c57_6 : Code := itemAt (flat (bodyOf Try.f57)) 6
noncomputable def c57_7 : Code := itemAt (flat (bodyOf Try.f57)) 7
noncomputable def c57_5_0 : Code := itemAt (flat (innerC c57_5)) 0
noncomputable def c57_5_0_0 : Code := itemAt (flat (innerC c57_5_0)) 0
noncomputable def c57_5_0_1 : Code := itemAt (flat (innerC c57_5_0)) 1
noncomputable def c57_5_0_2 : Code := itemAt (flat (innerC c57_5_0)) 2
noncomputable def c57_5_0_3 : Code := itemAt (flat (innerC c57_5_0)) 3
def F57_q1 (R : Rt) : EQ := endQ Try.prog Try.f57.results.toList R
def F57_1 (R : Rt) (n3 : Int) (ds : Ds) (w : World) : Prop :=
 runD Try.prog ds w fun w1 =>
 R (.returned (.int .i64 n3)) w1
def F57_k2 (R : Rt) : EP := (fun ρ ds w => dInt .i64 (ρ 3) fun n3 => F57_1 R n3 ds w)
def F57_q3 (R : Rt) : EQ := (thenQ (F57_k2 R) (F57_q1 R))
def F57_q4 (R : Rt) : EQ := (blockQ 0 (F57_q3 R))
def F57_q5 (R : Rt) (J1 : (Int × Int) → World → Prop) : EQ := (thenQ (fun ρ _ w => dInt .i64 (ρ 3) fun n3 => dInt .i64 (ρ 4) fun n4 => J1 (n3, n4) w) (F57_q4 R))
def F57_2 (R : Rt) (J1 : (Int × Int) → World → Prop) (l0 : SV) (n3 : Int) (n4 : Int) (ds : Ds) (w : World) : Prop :=
 Br (decide (n4 < ((l0.len : Nat) : Int))) (
 ∃ a2 : Addr, l0.a = some a2 ∧ 0 ≤ n4 ∧ n4 < ((l0.len : Nat) : Int) ∧
 ∃ n22 : Int, w.cell? (a2.add (n4.toNat * 1)) = some (.int .i64 n22) ∧
 ∃ n23 : Int, ∃ w3 : World, (Builtin.max_ #[3, 3] 3 #[.int .i64 n3, .int .i64 n22]).run Try.prog w = .ok (.int .i64 n23) w3 ∧
 J1 (n23, (IntKind.i64.wrap (n4 + 1))) w3) (
 F57_1 R n3 ds w)
def F57_3 (R : Rt) (l0 : SV) (n3 : Int) (n4 : Int) (ds : Ds) (w : World) : Prop :=
 loopT (fun (J1 : (Int × Int) → World → Prop) (s : Int × Int) (w : World) => F57_2 R J1 l0 s.1 s.2 ds w) (n3, n4) w
@[reducible] def F57_4 (R : Rt) (l0 : SV) (n3 : Int) (n4 : Int) (ds : Ds) (w : World) : Prop := F57_3 R l0 n3 n4 ds w
def F57_k6 (R : Rt) : EP := (fun ρ ds w => dSl (ρ 0) fun l0 => dInt .i64 (ρ 3) fun n3 => dInt .i64 (ρ 4) fun n4 => F57_4 R l0 n3 n4 ds w)
def F57_5 (R : Rt) (l0 : SV) (ds : Ds) (w : World) : Prop :=
 Br (decide (((l0.len : Nat) : Int) < 1)) (
 ∃ v8 : Value, ∃ w4 : World, (Instr.makeInterface 9 (.string (⟨#[115, 108, 105, 99, 101, 115, 46, 77, 97, 120, 58, 32, 101, 109, 112, 116, 121, 32, 108, 105, 115, 116]⟩ : ByteArray))).run Try.prog w = .ok (v8) w4 ∧
 False) (
 ∃ a5 : Addr, l0.a = some a5 ∧ 0 ≤ (0 : Int) ∧ (0 : Int) < ((l0.len : Nat) : Int) ∧
 ∃ n11 : Int, w.cell? (a5.add ((0 : Int).toNat * 1)) = some (.int .i64 n11) ∧
 F57_4 R l0 n11 1 ds w)
theorem c57_l : flat (bodyOf Try.f57) = [c57_0, c57_1, c57_2, c57_3, c57_4, c57_5, c57_6, c57_7] := by kernel_rfl
theorem c57_5_l : flat (innerC c57_5) = [c57_5_0] := by kernel_rfl
theorem c57_5_0_l : flat (innerC c57_5_0) = [c57_5_0_0, c57_5_0_1, c57_5_0_2, c57_5_0_3] := by kernel_rfl
theorem F57_1_ok (R : Rt) (n3 : Int) (ds : Ds) (w : World) (ρ : Env) (e3 : ρ 3 = .int .i64 n3) (h : F57_1 R n3 ds w) :
    TrL Try.prog Try.f57.ntmps [c57_6, c57_7] (F57_q1 R) ρ ds w :=
  TrL_leaf (X := F57_1 R n3 ds w) (setAll_cons e3 setAll_nil) (by kernel_rfl) (by kernel_rfl) h
theorem F57_2_ok (R : Rt) (J1 : (Int × Int) → World → Prop) (l0 : SV) (n3 : Int) (n4 : Int) (ds : Ds) (w : World) (ρ : Env) (e0 : ρ 0 = .slice l0.a l0.len l0.cap) (e3 : ρ 3 = .int .i64 n3) (e4 : ρ 4 = .int .i64 n4) (h : F57_2 R J1 l0 n3 n4 ds w) :
    TrL Try.prog Try.f57.ntmps [c57_5_0_0, c57_5_0_1, c57_5_0_2, c57_5_0_3] (F57_q5 R J1) ρ ds w :=
  TrL_leaf (X := F57_2 R J1 l0 n3 n4 ds w) (setAll_cons e0 (setAll_cons e3 (setAll_cons e4 setAll_nil))) (by kernel_rfl) (by kernel_rfl) h
theorem F57_3_ok (R : Rt) (l0 : SV) (n3 : Int) (n4 : Int) (ds : Ds) (w : World) (ρ : Env) (e0 : ρ 0 = .slice l0.a l0.len l0.cap) (e3 : ρ 3 = .int .i64 n3) (e4 : ρ 4 = .int .i64 n4) (h : F57_3 R l0 n3 n4 ds w) :
    TrL Try.prog Try.f57.ntmps [c57_5_0] (F57_q4 R) ρ ds w :=
  TrL_one (Tr_loop' (c := innerC c57_5_0) (σ := Int × Int) (enc := (fun (s : Int × Int) (ρ : Env) => ρ 3 = .int .i64 s.1 ∧ ρ 4 = .int .i64 s.2)) (D := (fun ρ K => dInt .i64 (ρ 3) fun n3 => dInt .i64 (ρ 4) fun n4 => K (n3, n4))) (F := (fun (J1 : (Int × Int) → World → Prop) (s : Int × Int) (w : World) => F57_2 R J1 l0 s.1 s.2 ds w)) (s0 := (n3, n4)) (by kernel_rfl) c57_5_0_l ⟨e3, e4⟩ (by kernel_rfl) (fun ρ K hD => by obtain ⟨n3, e3, hD⟩ := dInt_elim hD; obtain ⟨n4, e4, hD⟩ := dInt_elim hD; exact ⟨(n3, n4), ⟨e3, e4⟩, hD⟩)
      (fun J1 s ρ' w' he ha hF => by
      obtain ⟨e3', e4'⟩ := he
      exact F57_2_ok R J1 l0 s.1 s.2 ds w' ρ' ((ha 0 (by kernel_rfl)).trans e0) e3' e4' hF) h)
theorem F57_4_ok (R : Rt) (l0 : SV) (n3 : Int) (n4 : Int) (ds : Ds) (w : World) (ρ : Env) (e0 : ρ 0 = .slice l0.a l0.len l0.cap) (e3 : ρ 3 = .int .i64 n3) (e4 : ρ 4 = .int .i64 n4) (h : F57_4 R l0 n3 n4 ds w) :
    TrL Try.prog Try.f57.ntmps [c57_5, c57_6, c57_7] (F57_q1 R) ρ ds w :=
  TrL_head (K := (F57_k2 R)) (Tr_block' (c := innerC c57_5) (by kernel_rfl) c57_5_l (F57_3_ok R l0 n3 n4 ds w ρ e0 e3 e4 h))
    (fun ρ' ds' w' hD => by
      obtain ⟨n3, e3, hD⟩ := dInt_elim hD; exact F57_1_ok R n3 ds' w' ρ' e3 hD)
theorem F57_5_ok (R : Rt) (l0 : SV) (ds : Ds) (w : World) (ρ : Env) (e0 : ρ 0 = .slice l0.a l0.len l0.cap) (h : F57_5 R l0 ds w) :
    TrL Try.prog Try.f57.ntmps [c57_0, c57_1, c57_2, c57_3, c57_4, c57_5, c57_6, c57_7] (F57_q1 R) ρ ds w :=
  TrL_piece (pre := [c57_0, c57_1, c57_2, c57_3, c57_4]) (K := (F57_k6 R)) (X := F57_5 R l0 ds w) (setAll_cons e0 setAll_nil) (by kernel_rfl) (by kernel_rfl)
    (fun ρ' ds' w' hD => by
      obtain ⟨l0, e0, hD⟩ := dSl_elim hD; obtain ⟨n3, e3, hD⟩ := dInt_elim hD; obtain ⟨n4, e4, hD⟩ := dInt_elim hD; exact F57_4_ok R l0 n3 n4 ds' w' ρ' e0 e3 e4 hD) h
theorem F57_calls (l0 : SV) (w : World) (R : Rt) (h : F57_5 R l0 [] w) : Calls Try.prog 57 #[.slice l0.a l0.len l0.cap] w R :=
  calls_of_L (l := [c57_0, c57_1, c57_2, c57_3, c57_4, c57_5, c57_6, c57_7]) Try.func57 (by kernel_rfl) (by rw [Try.ntmps57]; exact Nat.le_of_ble_eq_true (by kernel_rfl)) c57_l
    (F57_5_ok R l0 [] w _ rfl h)
theorem F57_callsD (l0 : SV) (w : World) (R : Rt) (u : FrameMode) (h : F57_5 R l0 [] w) : CallsD Try.prog 57 #[.slice l0.a l0.len l0.cap] u w fun e u' w' => u' = u ∧ R e w' :=
  callsD_of_L (l := [c57_0, c57_1, c57_2, c57_3, c57_4, c57_5, c57_6, c57_7]) Try.func57 (by kernel_rfl) (by rw [Try.ntmps57]; exact Nat.le_of_ble_eq_true (by kernel_rfl)) (by kernel_rfl) c57_l
    (F57_5_ok R l0 [] w _ rfl h) u

/-! function 62: cabinetry/link.open -/
noncomputable def c62_0 : Code := itemAt (flat (bodyOf Try.f62)) 0
noncomputable def c62_1 : Code := itemAt (flat (bodyOf Try.f62)) 1
noncomputable def c62_2 : Code := itemAt (flat (bodyOf Try.f62)) 2
noncomputable def c62_3 : Code := itemAt (flat (bodyOf Try.f62)) 3
noncomputable def c62_4 : Code := itemAt (flat (bodyOf Try.f62)) 4
noncomputable def c62_5 : Code := itemAt (flat (bodyOf Try.f62)) 5
noncomputable def c62_6 : Code := itemAt (flat (bodyOf Try.f62)) 6
noncomputable def c62_7 : Code := itemAt (flat (bodyOf Try.f62)) 7
noncomputable def c62_8 : Code := itemAt (flat (bodyOf Try.f62)) 8
def F62_q1 (R : Rt) : EQ := endQ Try.prog Try.f62.results.toList R
def F62_1 (R : Rt) (l0 : SV) (ds : Ds) (w : World) : Prop :=
 Calls Try.prog 18 #[.slice l0.a l0.len l0.cap] w fun e w1 =>
 ∃ n7 : Int, e = .returned (.int .i64 n7) ∧
 Br (n7 != 0) (
 runD Try.prog ds w1 fun w2 =>
 R (.returned (.tuple #[.map none, .int .i64 n7])) w2) (
 Calls Try.prog 54 #[.slice l0.a l0.len l0.cap] w1 fun e w3 =>
 ∃ m12 : Option Nat, e = .returned (.map m12) ∧
 Calls Try.prog 53 #[.map m12] w3 fun e w4 =>
 ∃ l14 : SV, e = .returned (.slice l14.a l14.len l14.cap) ∧
 Br (decide (((l14.len : Nat) : Int) > 0)) (
 runD Try.prog ds w4 fun w5 =>
 R (.returned (.tuple #[.map none, .int .i64 4])) w5) (
 runD Try.prog ds w4 fun w6 =>
 R (.returned (.tuple #[.map m12, .int .i64 0])) w6))
theorem c62_l : flat (bodyOf Try.f62) = [c62_0, c62_1, c62_2, c62_3, c62_4, c62_5, c62_6, c62_7, c62_8] := by kernel_rfl
theorem F62_1_ok (R : Rt) (l0 : SV) (ds : Ds) (w : World) (ρ : Env) (e0 : ρ 0 = .slice l0.a l0.len l0.cap) (h : F62_1 R l0 ds w) :
    TrL Try.prog Try.f62.ntmps [c62_0, c62_1, c62_2, c62_3, c62_4, c62_5, c62_6, c62_7, c62_8] (F62_q1 R) ρ ds w :=
  TrL_leaf (X := F62_1 R l0 ds w) (setAll_cons e0 setAll_nil) (by kernel_rfl) (by kernel_rfl) h
theorem F62_calls (l0 : SV) (w : World) (R : Rt) (h : F62_1 R l0 [] w) : Calls Try.prog 62 #[.slice l0.a l0.len l0.cap] w R :=
  calls_of_L (l := [c62_0, c62_1, c62_2, c62_3, c62_4, c62_5, c62_6, c62_7, c62_8]) Try.func62 (by kernel_rfl) (by rw [Try.ntmps62]; exact Nat.le_of_ble_eq_true (by kernel_rfl)) c62_l
    (F62_1_ok R l0 [] w _ rfl h)
theorem F62_callsD (l0 : SV) (w : World) (R : Rt) (u : FrameMode) (h : F62_1 R l0 [] w) : CallsD Try.prog 62 #[.slice l0.a l0.len l0.cap] u w fun e u' w' => u' = u ∧ R e w' :=
  callsD_of_L (l := [c62_0, c62_1, c62_2, c62_3, c62_4, c62_5, c62_6, c62_7, c62_8]) Try.func62 (by kernel_rfl) (by rw [Try.ntmps62]; exact Nat.le_of_ble_eq_true (by kernel_rfl)) (by kernel_rfl) c62_l
    (F62_1_ok R l0 [] w _ rfl h) u

/-! function 64: slices.Sorted[string] -/
noncomputable def c64_0 : Code := itemAt (flat (bodyOf Try.f64)) 0
noncomputable def c64_1 : Code := itemAt (flat (bodyOf Try.f64)) 1
noncomputable def c64_2 : Code := itemAt (flat (bodyOf Try.f64)) 2
noncomputable def c64_3 : Code := itemAt (flat (bodyOf Try.f64)) 3
noncomputable def c64_4 : Code := itemAt (flat (bodyOf Try.f64)) 4
def F64_q1 (R : Rt) : EQ := endQ Try.prog Try.f64.results.toList R
def F64_1 (R : Rt) (v0 : Value) (ds : Ds) (w : World) : Prop :=
 Calls Try.prog 100 #[v0] w fun e w1 =>
 ∃ l5 : SV, e = .returned (.slice l5.a l5.len l5.cap) ∧
 Calls Try.prog 97 #[.slice l5.a l5.len l5.cap] w1 fun e w2 =>
 e = .returned (.tuple #[]) ∧
 runD Try.prog ds w2 fun w3 =>
 R (.returned (.slice l5.a l5.len l5.cap)) w3
theorem c64_l : flat (bodyOf Try.f64) = [c64_0, c64_1, c64_2, c64_3, c64_4] := by kernel_rfl
theorem F64_1_ok (R : Rt) (v0 : Value) (ds : Ds) (w : World) (ρ : Env) (e0 : ρ 0 = v0) (h : F64_1 R v0 ds w) :
    TrL Try.prog Try.f64.ntmps [c64_0, c64_1, c64_2, c64_3, c64_4] (F64_q1 R) ρ ds w :=
  TrL_leaf (X := F64_1 R v0 ds w) (setAll_cons e0 setAll_nil) (by kernel_rfl) (by kernel_rfl) h
theorem F64_calls (v0 : Value) (w : World) (R : Rt) (h : F64_1 R v0 [] w) : Calls Try.prog 64 #[v0] w R :=
  calls_of_L (l := [c64_0, c64_1, c64_2, c64_3, c64_4]) Try.func64 (by kernel_rfl) (by rw [Try.ntmps64]; exact Nat.le_of_ble_eq_true (by kernel_rfl)) c64_l
    (F64_1_ok R v0 [] w _ rfl h)
theorem F64_callsD (v0 : Value) (w : World) (R : Rt) (u : FrameMode) (h : F64_1 R v0 [] w) : CallsD Try.prog 64 #[v0] u w fun e u' w' => u' = u ∧ R e w' :=
  callsD_of_L (l := [c64_0, c64_1, c64_2, c64_3, c64_4]) Try.func64 (by kernel_rfl) (by rw [Try.ntmps64]; exact Nat.le_of_ble_eq_true (by kernel_rfl)) (by kernel_rfl) c64_l
    (F64_1_ok R v0 [] w _ rfl h) u

/-! function 78: slices.IndexFunc[[]string,string] -/
noncomputable def c78_0 : Code := itemAt (flat (bodyOf Try.f78)) 0
noncomputable def c78_1 : Code := itemAt (flat (bodyOf Try.f78)) 1
noncomputable def c78_2 : Code := itemAt (flat (bodyOf Try.f78)) 2
noncomputable def c78_3 : Code := itemAt (flat (bodyOf Try.f78)) 3
noncomputable def c78_4 : Code := itemAt (flat (bodyOf Try.f78)) 4
noncomputable def c78_2_0 : Code := itemAt (flat (innerC c78_2)) 0
noncomputable def c78_2_0_0 : Code := itemAt (flat (innerC c78_2_0)) 0
noncomputable def c78_2_0_1 : Code := itemAt (flat (innerC c78_2_0)) 1
noncomputable def c78_2_0_2 : Code := itemAt (flat (innerC c78_2_0)) 2
noncomputable def c78_2_0_3 : Code := itemAt (flat (innerC c78_2_0)) 3
def F78_q1 (R : Rt) : EQ := endQ Try.prog Try.f78.results.toList R
def F78_1 (R : Rt) (ds : Ds) (w : World) : Prop :=
 runD Try.prog ds w fun w1 =>
 R (.returned (.int .i64 (-1))) w1
def F78_k2 (R : Rt) : EP := (fun ρ ds w => F78_1 R ds w)
def F78_q3 (R : Rt) : EQ := (thenQ (F78_k2 R) (F78_q1 R))
def F78_q4 (R : Rt) : EQ := (blockQ 0 (F78_q3 R))
def F78_q5 (R : Rt) (J1 : (Int) → World → Prop) : EQ := (thenQ (fun ρ _ w => dInt .i64 (ρ 8) fun n8 => J1 n8 w) (F78_q4 R))
def F78_2 (R : Rt) (J1 : (Int) → World → Prop) (l0 : SV) (v1 : Value) (n7 : Int) (n8 : Int) (ds : Ds) (w : World) : Prop :=
 Br (decide (n8 < n7)) (
 ∃ a2 : Addr, l0.a = some a2 ∧ 0 ≤ n8 ∧ n8 < ((l0.len : Nat) : Int) ∧
 ∃ s15 : ByteArray, w.cell? (a2.add (n8.toNat * 1)) = some (.string s15) ∧
 fnE v1 fun f16 first16 cap16 =>
 hasBody Try.prog f16 = true ∧ Calls Try.prog f16 (first16.toList ++ (([.string s15] : List Value) ++ cap16.toList)).toArray w fun e w3 =>
 ∃ b16 : Bool, e = .returned (.bool b16) ∧
 Br b16 (
 runD Try.prog ds w3 fun w4 =>
 R (.returned (.int .i64 n8)) w4) (
 J1 (IntKind.i64.wrap (n8 + 1)) w3)) (
 F78_1 R ds w)
def F78_3 (R : Rt) (l0 : SV) (v1 : Value) (n7 : Int) (n8 : Int) (ds : Ds) (w : World) : Prop :=
 loopT (fun (J1 : (Int) → World → Prop) (s : Int) (w : World) => F78_2 R J1 l0 v1 n7 s ds w) n8 w
@[reducible] def F78_4 (R : Rt) (l0 : SV) (v1 : Value) (n7 : Int) (n8 : Int) (ds : Ds) (w : World) : Prop := F78_3 R l0 v1 n7 n8 ds w
def F78_k6 (R : Rt) : EP := (fun ρ ds w => dSl (ρ 0) fun l0 => dInt .i64 (ρ 7) fun n7 => dInt .i64 (ρ 8) fun n8 => F78_4 R l0 (ρ 1) n7 n8 ds w)
def F78_5 (R : Rt) (l0 : SV) (v1 : Value) (ds : Ds) (w : World) : Prop :=
 F78_4 R l0 (v1) ((l0.len : Nat) : Int) 0 ds w
theorem c78_l : flat (bodyOf Try.f78) = [c78_0, c78_1, c78_2, c78_3, c78_4] := by kernel_rfl
theorem c78_2_l : flat (innerC c78_2) = [c78_2_0] := by kernel_rfl
theorem c78_2_0_l : flat (innerC c78_2_0) = [c78_2_0_0, c78_2_0_1, c78_2_0_2, c78_2_0_3] := by kernel_rfl
theorem F78_1_ok (R : Rt) (ds : Ds) (w : World) (ρ : Env) (h : F78_1 R ds w) :
    TrL Try.prog Try.f78.ntmps [c78_3, c78_4] (F78_q1 R) ρ ds w :=
  TrL_leaf (X := F78_1 R ds w) setAll_nil (by kernel_rfl) (by kernel_rfl) h
theorem F78_2_ok (R : Rt) (J1 : (Int) → World → Prop) (l0 : SV) (v1 : Value) (n7 : Int) (n8 : Int) (ds : Ds) (w : World) (ρ : Env) (e0 : ρ 0 = .slice l0.a l0.len l0.cap) (e1 : ρ 1 = v1) (e7 : ρ 7 = .int .i64 n7) (e8 : ρ 8 = .int .i64 n8) (h : F78_2 R J1 l0 v1 n7 n8 ds w) :
    TrL Try.prog Try.f78.ntmps [c78_2_0_0, c78_2_0_1, c78_2_0_2, c78_2_0_3] (F78_q5 R J1) ρ ds w :=
  TrL_leaf (X := F78_2 R J1 l0 v1 n7 n8 ds w) (setAll_cons e0 (setAll_cons e1 (setAll_cons e7 (setAll_cons e8 setAll_nil)))) (by kernel_rfl) (by kernel_rfl) h
theorem F78_3_ok (R : Rt) (l0 : SV) (v1 : Value) (n7 : Int) (n8 : Int) (ds : Ds) (w : World) (ρ : Env) (e0 : ρ 0 = .slice l0.a l0.len l0.cap) (e1 : ρ 1 = v1) (e7 : ρ 7 = .int .i64 n7) (e8 : ρ 8 = .int .i64 n8) (h : F78_3 R l0 v1 n7 n8 ds w) :
    TrL Try.prog Try.f78.ntmps [c78_2_0] (F78_q4 R) ρ ds w :=
  TrL_one (Tr_loop' (c := innerC c78_2_0) (σ := Int) (enc := (fun (s : Int) (ρ : Env) => ρ 8 = .int .i64 s)) (D := (fun ρ K => dInt .i64 (ρ 8) fun n8 => K n8)) (F := (fun (J1 : (Int) → World → Prop) (s : Int) (w : World) => F78_2 R J1 l0 v1 n7 s ds w)) (s0 := n8) (by kernel_rfl) c78_2_0_l e8 (by kernel_rfl) (fun ρ K hD => by obtain ⟨n8, e8, hD⟩ := dInt_elim hD; exact ⟨n8, e8, hD⟩)
      (fun J1 s ρ' w' he ha hF => by
      have e8' := he
      exact F78_2_ok R J1 l0 v1 n7 s ds w' ρ' ((ha 0 (by kernel_rfl)).trans e0) ((ha 1 (by kernel_rfl)).trans e1) ((ha 7 (by kernel_rfl)).trans e7) e8' hF) h)
theorem F78_4_ok (R : Rt) (l0 : SV) (v1 : Value) (n7 : Int) (n8 : Int) (ds : Ds) (w : World) (ρ : Env) (e0 : ρ 0 = .slice l0.a l0.len l0.cap) (e1 : ρ 1 = v1) (e7 : ρ 7 = .int .i64 n7) (e8 : ρ 8 = .int .i64 n8) (h : F78_4 R l0 v1 n7 n8 ds w) :
    TrL Try.prog Try.f78.ntmps [c78_2, c78_3, c78_4] (F78_q1 R) ρ ds w :=
  TrL_head (K := (F78_k2 R)) (Tr_block' (c := innerC c78_2) (by kernel_rfl) c78_2_l (F78_3_ok R l0 v1 n7 n8 ds w ρ e0 e1 e7 e8 h))
    (fun ρ' ds' w' hD => by
      exact F78_1_ok R ds' w' ρ'  hD)
theorem F78_5_ok (R : Rt) (l0 : SV) (v1 : Value) (ds : Ds) (w : World) (ρ : Env) (e0 : ρ 0 = .slice l0.a l0.len l0.cap) (e1 : ρ 1 = v1) (h : F78_5 R l0 v1 ds w) :
    TrL Try.prog Try.f78.ntmps [c78_0, c78_1, c78_2, c78_3, c78_4] (F78_q1 R) ρ ds w :=
  TrL_piece (pre := [c78_0, c78_1]) (K := (F78_k6 R)) (X := F78_5 R l0 v1 ds w) (setAll_cons e0 (setAll_cons e1 setAll_nil)) (by kernel_rfl) (by kernel_rfl)
    (fun ρ' ds' w' hD => by
      obtain ⟨l0, e0, hD⟩ := dSl_elim hD; obtain ⟨n7, e7, hD⟩ := dInt_elim hD; obtain ⟨n8, e8, hD⟩ := dInt_elim hD; exact F78_4_ok R l0 (ρ' 1) n7 n8 ds' w' ρ' e0 rfl e7 e8 hD) h
theorem F78_calls (l0 : SV) (v1 : Value) (w : World) (R : Rt) (h : F78_5 R l0 v1 [] w) : Calls Try.prog 78 #[.slice l0.a l0.len l0.cap, v1] w R :=
  calls_of_L (l := [c78_0, c78_1, c78_2, c78_3, c78_4]) Try.func78 (by kernel_rfl) (by rw [Try.ntmps78]; exact Nat.le_of_ble_eq_true (by kernel_rfl)) c78_l
    (F78_5_ok R l0 v1 [] w _ rfl rfl h)
theorem F78_callsD (l0 : SV) (v1 : Value) (w : World) (R : Rt) (u : FrameMode) (h : F78_5 R l0 v1 [] w) : CallsD Try.prog 78 #[.slice l0.a l0.len l0.cap, v1] u w fun e u' w' => u' = u ∧ R e w' :=
  callsD_of_L (l := [c78_0, c78_1, c78_2, c78_3, c78_4]) Try.func78 (by kernel_rfl) (by rw [Try.ntmps78]; exact Nat.le_of_ble_eq_true (by kernel_rfl)) (by kernel_rfl) c78_l
    (F78_5_ok R l0 v1 [] w _ rfl rfl h) u

/-! function 80: slices.ContainsFunc[[]string,string] -/
noncomputable def c80_0 : Code := itemAt (flat (bodyOf Try.f80)) 0
noncomputable def c80_1 : Code := itemAt (flat (bodyOf Try.f80)) 1
noncomputable def c80_2 : Code := itemAt (flat (bodyOf Try.f80)) 2
def F80_q1 (R : Rt) : EQ := endQ Try.prog Try.f80.results.toList R
def F80_1 (R : Rt) (l0 : SV) (v1 : Value) (ds : Ds) (w : World) : Prop :=
 Calls Try.prog 78 #[.slice l0.a l0.len l0.cap, v1] w fun e w1 =>
 ∃ n7 : Int, e = .returned (.int .i64 n7) ∧
 runD Try.prog ds w1 fun w2 =>
 R (.returned (.bool (decide (n7 ≥ 0)))) w2
theorem c80_l : flat (bodyOf Try.f80) = [c80_0, c80_1, c80_2] := by kernel_rfl
theorem F80_1_ok (R : Rt) (l0 : SV) (v1 : Value) (ds : Ds) (w : World) (ρ : Env) (e0 : ρ 0 = .slice l0.a l0.len l0.cap) (e1 : ρ 1 = v1) (h : F80_1 R l0 v1 ds w) :
    TrL Try.prog Try.f80.ntmps [c80_0, c80_1, c80_2] (F80_q1 R) ρ ds w :=
  TrL_leaf (X := F80_1 R l0 v1 ds w) (setAll_cons e0 (setAll_cons e1 setAll_nil)) (by kernel_rfl) (by kernel_rfl) h
theorem F80_calls (l0 : SV) (v1 : Value) (w : World) (R : Rt) (h : F80_1 R l0 v1 [] w) : Calls Try.prog 80 #[.slice l0.a l0.len l0.cap, v1] w R :=
  calls_of_L (l := [c80_0, c80_1, c80_2]) Try.func80 (by kernel_rfl) (by rw [Try.ntmps80]; exact Nat.le_of_ble_eq_true (by kernel_rfl)) c80_l
    (F80_1_ok R l0 v1 [] w _ rfl rfl h)
theorem F80_callsD (l0 : SV) (v1 : Value) (w : World) (R : Rt) (u : FrameMode) (h : F80_1 R l0 v1 [] w) : CallsD Try.prog 80 #[.slice l0.a l0.len l0.cap, v1] u w fun e u' w' => u' = u ∧ R e w' :=
  callsD_of_L (l := [c80_0, c80_1, c80_2]) Try.func80 (by kernel_rfl) (by rw [Try.ntmps80]; exact Nat.le_of_ble_eq_true (by kernel_rfl)) (by kernel_rfl) c80_l
    (F80_1_ok R l0 v1 [] w _ rfl rfl h) u

/-! function 86: slices.Values[[]string,string] -/
noncomputable def c86_0 : Code := itemAt (flat (bodyOf Try.f86)) 0
noncomputable def c86_1 : Code := itemAt (flat (bodyOf Try.f86)) 1
noncomputable def c86_2 : Code := itemAt (flat (bodyOf Try.f86)) 2
def F86_q1 (R : Rt) : EQ := endQ Try.prog Try.f86.results.toList R
def F86_1 (R : Rt) (l0 : SV) (ds : Ds) (w : World) : Prop :=
 alE (.cells #[.slice l0.a l0.len l0.cap] 23) w fun r1 w1 =>
 runD Try.prog ds w1 fun w2 =>
 R (.returned (.func (.func 107) #[] #[.pointer (some (⟨r1, 0, none⟩ : Addr))])) w2
theorem c86_l : flat (bodyOf Try.f86) = [c86_0, c86_1, c86_2] := by kernel_rfl
theorem F86_1_ok (R : Rt) (l0 : SV) (ds : Ds) (w : World) (ρ : Env) (e0 : ρ 0 = .slice l0.a l0.len l0.cap) (h : F86_1 R l0 ds w) :
    TrL Try.prog Try.f86.ntmps [c86_0, c86_1, c86_2] (F86_q1 R) ρ ds w :=
  TrL_leaf (X := F86_1 R l0 ds w) (setAll_cons e0 setAll_nil) (by kernel_rfl) (by kernel_rfl) h
theorem F86_calls (l0 : SV) (w : World) (R : Rt) (h : F86_1 R l0 [] w) : Calls Try.prog 86 #[.slice l0.a l0.len l0.cap] w R :=
  calls_of_L (l := [c86_0, c86_1, c86_2]) Try.func86 (by kernel_rfl) (by rw [Try.ntmps86]; exact Nat.le_of_ble_eq_true (by kernel_rfl)) c86_l
    (F86_1_ok R l0 [] w _ rfl h)
theorem F86_callsD (l0 : SV) (w : World) (R : Rt) (u : FrameMode) (h : F86_1 R l0 [] w) : CallsD Try.prog 86 #[.slice l0.a l0.len l0.cap] u w fun e u' w' => u' = u ∧ R e w' :=
  callsD_of_L (l := [c86_0, c86_1, c86_2]) Try.func86 (by kernel_rfl) (by rw [Try.ntmps86]; exact Nat.le_of_ble_eq_true (by kernel_rfl)) (by kernel_rfl) c86_l
    (F86_1_ok R l0 [] w _ rfl h) u

/-! function 91: slices.ContainsFunc[[][]string,[]string] -/
noncomputable def c91_0 : Code := itemAt (flat (bodyOf Try.f91)) 0
noncomputable def c91_1 : Code := itemAt (flat (bodyOf Try.f91)) 1
noncomputable def c91_2 : Code := itemAt (flat (bodyOf Try.f91)) 2
def F91_q1 (R : Rt) : EQ := endQ Try.prog Try.f91.results.toList R
def F91_1 (R : Rt) (l0 : SV) (v1 : Value) (ds : Ds) (w : World) : Prop :=
 Calls Try.prog 111 #[.slice l0.a l0.len l0.cap, v1] w fun e w1 =>
 ∃ n7 : Int, e = .returned (.int .i64 n7) ∧
 runD Try.prog ds w1 fun w2 =>
 R (.returned (.bool (decide (n7 ≥ 0)))) w2
theorem c91_l : flat (bodyOf Try.f91) = [c91_0, c91_1, c91_2] := by kernel_rfl
theorem F91_1_ok (R : Rt) (l0 : SV) (v1 : Value) (ds : Ds) (w : World) (ρ : Env) (e0 : ρ 0 = .slice l0.a l0.len l0.cap) (e1 : ρ 1 = v1) (h : F91_1 R l0 v1 ds w) :
    TrL Try.prog Try.f91.ntmps [c91_0, c91_1, c91_2] (F91_q1 R) ρ ds w :=
  TrL_leaf (X := F91_1 R l0 v1 ds w) (setAll_cons e0 (setAll_cons e1 setAll_nil)) (by kernel_rfl) (by kernel_rfl) h
theorem F91_calls (l0 : SV) (v1 : Value) (w : World) (R : Rt) (h : F91_1 R l0 v1 [] w) : Calls Try.prog 91 #[.slice l0.a l0.len l0.cap, v1] w R :=
  calls_of_L (l := [c91_0, c91_1, c91_2]) Try.func91 (by kernel_rfl) (by rw [Try.ntmps91]; exact Nat.le_of_ble_eq_true (by kernel_rfl)) c91_l
    (F91_1_ok R l0 v1 [] w _ rfl rfl h)
theorem F91_callsD (l0 : SV) (v1 : Value) (w : World) (R : Rt) (u : FrameMode) (h : F91_1 R l0 v1 [] w) : CallsD Try.prog 91 #[.slice l0.a l0.len l0.cap, v1] u w fun e u' w' => u' = u ∧ R e w' :=
  callsD_of_L (l := [c91_0, c91_1, c91_2]) Try.func91 (by kernel_rfl) (by rw [Try.ntmps91]; exact Nat.le_of_ble_eq_true (by kernel_rfl)) (by kernel_rfl) c91_l
    (F91_1_ok R l0 v1 [] w _ rfl rfl h) u

/-! function 92: cabinetry/link.isLarge$1 -/
noncomputable def c92_0 : Code := itemAt (flat (bodyOf Try.f92)) 0
noncomputable def c92_1 : Code := itemAt (flat (bodyOf Try.f92)) 1
noncomputable def c92_2 : Code := itemAt (flat (bodyOf Try.f92)) 2
def F92_q1 (R : Rt) : EQ := endQ Try.prog Try.f92.results.toList R
def F92_1 (R : Rt) (l0 : SV) (ds : Ds) (w : World) : Prop :=
 runD Try.prog ds w fun w1 =>
 R (.returned (.bool (decide (((l0.len : Nat) : Int) > 100)))) w1
theorem c92_l : flat (bodyOf Try.f92) = [c92_0, c92_1, c92_2] := by kernel_rfl
theorem F92_1_ok (R : Rt) (l0 : SV) (ds : Ds) (w : World) (ρ : Env) (e0 : ρ 0 = .slice l0.a l0.len l0.cap) (h : F92_1 R l0 ds w) :
    TrL Try.prog Try.f92.ntmps [c92_0, c92_1, c92_2] (F92_q1 R) ρ ds w :=
  TrL_leaf (X := F92_1 R l0 ds w) (setAll_cons e0 setAll_nil) (by kernel_rfl) (by kernel_rfl) h
theorem F92_calls (l0 : SV) (w : World) (R : Rt) (h : F92_1 R l0 [] w) : Calls Try.prog 92 #[.slice l0.a l0.len l0.cap] w R :=
  calls_of_L (l := [c92_0, c92_1, c92_2]) Try.func92 (by kernel_rfl) (by rw [Try.ntmps92]; exact Nat.le_of_ble_eq_true (by kernel_rfl)) c92_l
    (F92_1_ok R l0 [] w _ rfl h)
theorem F92_callsD (l0 : SV) (w : World) (R : Rt) (u : FrameMode) (h : F92_1 R l0 [] w) : CallsD Try.prog 92 #[.slice l0.a l0.len l0.cap] u w fun e u' w' => u' = u ∧ R e w' :=
  callsD_of_L (l := [c92_0, c92_1, c92_2]) Try.func92 (by kernel_rfl) (by rw [Try.ntmps92]; exact Nat.le_of_ble_eq_true (by kernel_rfl)) (by kernel_rfl) c92_l
    (F92_1_ok R l0 [] w _ rfl h) u

/-! function 93: cabinetry/link.isRight$1 -/
noncomputable def c93_0 : Code := itemAt (flat (bodyOf Try.f93)) 0
noncomputable def c93_1 : Code := itemAt (flat (bodyOf Try.f93)) 1
noncomputable def c93_2 : Code := itemAt (flat (bodyOf Try.f93)) 2
def F93_q1 (R : Rt) : EQ := endQ Try.prog Try.f93.results.toList R
def F93_1 (R : Rt) (s0 : ByteArray) (ds : Ds) (w : World) : Prop :=
 Calls Try.prog 94 #[.string s0] w fun e w1 =>
 ∃ b4 : Bool, e = .returned (.bool b4) ∧
 runD Try.prog ds w1 fun w2 =>
 R (.returned (.bool (!b4))) w2
theorem c93_l : flat (bodyOf Try.f93) = [c93_0, c93_1, c93_2] := by kernel_rfl
theorem F93_1_ok (R : Rt) (s0 : ByteArray) (ds : Ds) (w : World) (ρ : Env) (e0 : ρ 0 = .string s0) (h : F93_1 R s0 ds w) :
    TrL Try.prog Try.f93.ntmps [c93_0, c93_1, c93_2] (F93_q1 R) ρ ds w :=
  TrL_leaf (X := F93_1 R s0 ds w) (setAll_cons e0 setAll_nil) (by kernel_rfl) (by kernel_rfl) h
theorem F93_calls (s0 : ByteArray) (w : World) (R : Rt) (h : F93_1 R s0 [] w) : Calls Try.prog 93 #[.string s0] w R :=
  calls_of_L (l := [c93_0, c93_1, c93_2]) Try.func93 (by kernel_rfl) (by rw [Try.ntmps93]; exact Nat.le_of_ble_eq_true (by kernel_rfl)) c93_l
    (F93_1_ok R s0 [] w _ rfl h)
theorem F93_callsD (s0 : ByteArray) (w : World) (R : Rt) (u : FrameMode) (h : F93_1 R s0 [] w) : CallsD Try.prog 93 #[.string s0] u w fun e u' w' => u' = u ∧ R e w' :=
  callsD_of_L (l := [c93_0, c93_1, c93_2]) Try.func93 (by kernel_rfl) (by rw [Try.ntmps93]; exact Nat.le_of_ble_eq_true (by kernel_rfl)) (by kernel_rfl) c93_l
    (F93_1_ok R s0 [] w _ rfl h) u

/-! function 94: cabinetry/link.isName -/
noncomputable def c94_0 : Code := itemAt (flat (bodyOf Try.f94)) 0
noncomputable def c94_1 : Code := itemAt (flat (bodyOf Try.f94)) 1
noncomputable def c94_2 : Code := itemAt (flat (bodyOf Try.f94)) 2
noncomputable def c94_3 : Code := itemAt (flat (bodyOf Try.f94)) 3
noncomputable def c94_4 : Code := itemAt (flat (bodyOf Try.f94)) 4
noncomputable def c94_2_0 : Code := itemAt (flat (innerC c94_2)) 0
noncomputable def c94_2_0_0 : Code := itemAt (flat (innerC c94_2_0)) 0
noncomputable def c94_2_0_1 : Code := itemAt (flat (innerC c94_2_0)) 1
noncomputable def c94_2_0_2 : Code := itemAt (flat (innerC c94_2_0)) 2
noncomputable def c94_2_0_3 : Code := itemAt (flat (innerC c94_2_0)) 3
def F94_q1 (R : Rt) : EQ := endQ Try.prog Try.f94.results.toList R
def F94_1 (R : Rt) (s0 : ByteArray) (ds : Ds) (w : World) : Prop :=
 Br (decide (((s0.size : Nat) : Int) ≥ 1)) (
 runD Try.prog ds w fun w1 =>
 R (.returned (.bool (decide (((s0.size : Nat) : Int) ≤ 10)))) w1) (
 runD Try.prog ds w fun w2 =>
 R (.returned (.bool false)) w2)
def F94_k2 (R : Rt) : EP := (fun ρ ds w => dStr (ρ 0) fun s0 => F94_1 R s0 ds w)
def F94_q3 (R : Rt) : EQ := (thenQ (F94_k2 R) (F94_q1 R))
def F94_q4 (R : Rt) : EQ := (blockQ 0 (F94_q3 R))
def F94_q5 (R : Rt) (J1 : (Int) → World → Prop) : EQ := (thenQ (fun ρ _ w => dInt .i64 (ρ 9) fun n9 => J1 n9 w) (F94_q4 R))
def F94_2 (R : Rt) (J1 : (Int) → World → Prop) (s0 : ByteArray) (l7 : SV) (n8 : Int) (n9 : Int) (ds : Ds) (w : World) : Prop :=
 J1 (IntKind.i64.wrap (n9 + 1)) w
def F94_k6 (R : Rt) (J1 : (Int) → World → Prop) : EP := (fun ρ ds w => dStr (ρ 0) fun s0 => dSl (ρ 7) fun l7 => dInt .i64 (ρ 8) fun n8 => dInt .i64 (ρ 9) fun n9 => F94_2 R J1 s0 l7 n8 n9 ds w)
def F94_3 (R : Rt) (J1 : (Int) → World → Prop) (s0 : ByteArray) (l7 : SV) (n8 : Int) (n9 : Int) (ds : Ds) (w : World) : Prop :=
 ∃ a3 : Addr, l7.a = some a3 ∧ 0 ≤ n9 ∧ n9 < ((l7.len : Nat) : Int) ∧
 ∃ n13 : Int, w.cell? (a3.add (n9.toNat * 1)) = some (.int .u8 n13) ∧
 Br (decide (n13 ≥ 97)) (
 Br (decide (n13 ≤ 122)) (
 F94_2 R J1 s0 l7 n8 n9 ds w) (
 Br (decide (n13 ≥ 65)) (
 Br (!(decide (n13 ≤ 90))) (
 Br (n9 == 0) (
 runD Try.prog ds w fun w4 =>
 R (.returned (.bool false)) w4) (
 Br (n13 != 95) (
 Br (decide (n13 < 48)) (
 runD Try.prog ds w fun w5 =>
 R (.returned (.bool false)) w5) (
 Br (decide (n13 > 57)) (
 runD Try.prog ds w fun w6 =>
 R (.returned (.bool false)) w6) (
 F94_2 R J1 s0 l7 n8 n9 ds w))) (
 F94_2 R J1 s0 l7 n8 n9 ds w))) (
 F94_2 R J1 s0 l7 n8 n9 ds w)) (
 Br (n9 == 0) (
 runD Try.prog ds w fun w7 =>
 R (.returned (.bool false)) w7) (
 Br (n13 != 95) (
 Br (decide (n13 < 48)) (
 runD Try.prog ds w fun w8 =>
 R (.returned (.bool false)) w8) (
 Br (decide (n13 > 57)) (
 runD Try.prog ds w fun w9 =>
 R (.returned (.bool false)) w9) (
 F94_2 R J1 s0 l7 n8 n9 ds w))) (
 F94_2 R J1 s0 l7 n8 n9 ds w))))) (
 Br (decide (n13 ≥ 65)) (
 Br (!(decide (n13 ≤ 90))) (
 Br (n9 == 0) (
 runD Try.prog ds w fun w10 =>
 R (.returned (.bool false)) w10) (
 Br (n13 != 95) (
 Br (decide (n13 < 48)) (
 runD Try.prog ds w fun w11 =>
 R (.returned (.bool false)) w11) (
 Br (decide (n13 > 57)) (
 runD Try.prog ds w fun w12 =>
 R (.returned (.bool false)) w12) (
 F94_2 R J1 s0 l7 n8 n9 ds w))) (
 F94_2 R J1 s0 l7 n8 n9 ds w))) (
 F94_2 R J1 s0 l7 n8 n9 ds w)) (
 Br (n9 == 0) (
 runD Try.prog ds w fun w13 =>
 R (.returned (.bool false)) w13) (
 Br (n13 != 95) (
 Br (decide (n13 < 48)) (
 runD Try.prog ds w fun w14 =>
 R (.returned (.bool false)) w14) (
 Br (decide (n13 > 57)) (
 runD Try.prog ds w fun w15 =>
 R (.returned (.bool false)) w15) (
 F94_2 R J1 s0 l7 n8 n9 ds w))) (
 F94_2 R J1 s0 l7 n8 n9 ds w))))
def F94_k7 (R : Rt) (J1 : (Int) → World → Prop) : EP := (fun ρ ds w => dStr (ρ 0) fun s0 => dSl (ρ 7) fun l7 => dInt .i64 (ρ 8) fun n8 => dInt .i64 (ρ 9) fun n9 => F94_3 R J1 s0 l7 n8 n9 ds w)
def F94_4 (R : Rt) (J1 : (Int) → World → Prop) (s0 : ByteArray) (l7 : SV) (n8 : Int) (n9 : Int) (ds : Ds) (w : World) : Prop :=
 Br (decide (n9 < n8)) (
 F94_3 R J1 s0 l7 n8 n9 ds w) (
 F94_1 R s0 ds w)
def F94_5 (R : Rt) (s0 : ByteArray) (l7 : SV) (n8 : Int) (n9 : Int) (ds : Ds) (w : World) : Prop :=
 loopT (fun (J1 : (Int) → World → Prop) (s : Int) (w : World) => F94_4 R J1 s0 l7 n8 s ds w) n9 w
@[reducible] def F94_6 (R : Rt) (s0 : ByteArray) (l7 : SV) (n8 : Int) (n9 : Int) (ds : Ds) (w : World) : Prop := F94_5 R s0 l7 n8 n9 ds w
def F94_k8 (R : Rt) : EP := (fun ρ ds w => dStr (ρ 0) fun s0 => dSl (ρ 7) fun l7 => dInt .i64 (ρ 8) fun n8 => dInt .i64 (ρ 9) fun n9 => F94_6 R s0 l7 n8 n9 ds w)
def F94_7 (R : Rt) (s0 : ByteArray) (ds : Ds) (w : World) : Prop :=
 ∃ l7 : SV, ∃ w16 : World, (convert 9 133 (.string s0)).run Try.prog w = .ok (.slice l7.a l7.len l7.cap) w16 ∧
 F94_6 R s0 l7 ((l7.len : Nat) : Int) 0 ds w16
theorem c94_l : flat (bodyOf Try.f94) = [c94_0, c94_1, c94_2, c94_3, c94_4] := by kernel_rfl
theorem c94_2_l : flat (innerC c94_2) = [c94_2_0] := by kernel_rfl
theorem c94_2_0_l : flat (innerC c94_2_0) = [c94_2_0_0, c94_2_0_1, c94_2_0_2, c94_2_0_3] := by kernel_rfl
theorem F94_1_ok (R : Rt) (s0 : ByteArray) (ds : Ds) (w : World) (ρ : Env) (e0 : ρ 0 = .string s0) (h : F94_1 R s0 ds w) :
    TrL Try.prog Try.f94.ntmps [c94_3, c94_4] (F94_q1 R) ρ ds w :=
  TrL_leaf (X := F94_1 R s0 ds w) (setAll_cons e0 setAll_nil) (by kernel_rfl) (by kernel_rfl) h
theorem F94_2_ok (R : Rt) (J1 : (Int) → World → Prop) (s0 : ByteArray) (l7 : SV) (n8 : Int) (n9 : Int) (ds : Ds) (w : World) (ρ : Env) (e0 : ρ 0 = .string s0) (e7 : ρ 7 = .slice l7.a l7.len l7.cap) (e8 : ρ 8 = .int .i64 n8) (e9 : ρ 9 = .int .i64 n9) (h : F94_2 R J1 s0 l7 n8 n9 ds w) :
    TrL Try.prog Try.f94.ntmps [c94_2_0_3] (F94_q5 R J1) ρ ds w :=
  TrL_leaf (X := F94_2 R J1 s0 l7 n8 n9 ds w) (setAll_cons e0 (setAll_cons e7 (setAll_cons e8 (setAll_cons e9 setAll_nil)))) (by kernel_rfl) (by kernel_rfl) h
theorem F94_3_ok (R : Rt) (J1 : (Int) → World → Prop) (s0 : ByteArray) (l7 : SV) (n8 : Int) (n9 : Int) (ds : Ds) (w : World) (ρ : Env) (e0 : ρ 0 = .string s0) (e7 : ρ 7 = .slice l7.a l7.len l7.cap) (e8 : ρ 8 = .int .i64 n8) (e9 : ρ 9 = .int .i64 n9) (h : F94_3 R J1 s0 l7 n8 n9 ds w) :
    TrL Try.prog Try.f94.ntmps [c94_2_0_2, c94_2_0_3] (F94_q5 R J1) ρ ds w :=
  TrL_piece (pre := [c94_2_0_2]) (K := (F94_k6 R J1)) (X := F94_3 R J1 s0 l7 n8 n9 ds w) (setAll_cons e0 (setAll_cons e7 (setAll_cons e8 (setAll_cons e9 setAll_nil)))) (by kernel_rfl) (by kernel_rfl)
    (fun ρ' ds' w' hD => by
      obtain ⟨s0, e0, hD⟩ := dStr_elim hD; obtain ⟨l7, e7, hD⟩ := dSl_elim hD; obtain ⟨n8, e8, hD⟩ := dInt_elim hD; obtain ⟨n9, e9, hD⟩ := dInt_elim hD; exact F94_2_ok R J1 s0 l7 n8 n9 ds' w' ρ' e0 e7 e8 e9 hD) h
theorem F94_4_ok (R : Rt) (J1 : (Int) → World → Prop) (s0 : ByteArray) (l7 : SV) (n8 : Int) (n9 : Int) (ds : Ds) (w : World) (ρ : Env) (e0 : ρ 0 = .string s0) (e7 : ρ 7 = .slice l7.a l7.len l7.cap) (e8 : ρ 8 = .int .i64 n8) (e9 : ρ 9 = .int .i64 n9) (h : F94_4 R J1 s0 l7 n8 n9 ds w) :
    TrL Try.prog Try.f94.ntmps [c94_2_0_0, c94_2_0_1, c94_2_0_2, c94_2_0_3] (F94_q5 R J1) ρ ds w :=
  TrL_piece (pre := [c94_2_0_0, c94_2_0_1]) (K := (F94_k7 R J1)) (X := F94_4 R J1 s0 l7 n8 n9 ds w) (setAll_cons e0 (setAll_cons e7 (setAll_cons e8 (setAll_cons e9 setAll_nil)))) (by kernel_rfl) (by kernel_rfl)
    (fun ρ' ds' w' hD => by
      obtain ⟨s0, e0, hD⟩ := dStr_elim hD; obtain ⟨l7, e7, hD⟩ := dSl_elim hD; obtain ⟨n8, e8, hD⟩ := dInt_elim hD; obtain ⟨n9, e9, hD⟩ := dInt_elim hD; exact F94_3_ok R J1 s0 l7 n8 n9 ds' w' ρ' e0 e7 e8 e9 hD) h
theorem F94_5_ok (R : Rt) (s0 : ByteArray) (l7 : SV) (n8 : Int) (n9 : Int) (ds : Ds) (w : World) (ρ : Env) (e0 : ρ 0 = .string s0) (e7 : ρ 7 = .slice l7.a l7.len l7.cap) (e8 : ρ 8 = .int .i64 n8) (e9 : ρ 9 = .int .i64 n9) (h : F94_5 R s0 l7 n8 n9 ds w) :
    TrL Try.prog Try.f94.ntmps [c94_2_0] (F94_q4 R) ρ ds w :=
  TrL_one (Tr_loop' (c := innerC c94_2_0) (σ := Int) (enc := (fun (s : Int) (ρ : Env) => ρ 9 = .int .i64 s)) (D := (fun ρ K => dInt .i64 (ρ 9) fun n9 => K n9)) (F := (fun (J1 : (Int) → World → Prop) (s : Int) (w : World) => F94_4 R J1 s0 l7 n8 s ds w)) (s0 := n9) (by kernel_rfl) c94_2_0_l e9 (by kernel_rfl) (fun ρ K hD => by obtain ⟨n9, e9, hD⟩ := dInt_elim hD; exact ⟨n9, e9, hD⟩)
      (fun J1 s ρ' w' he ha hF => by
      have e9' := he
      exact F94_4_ok R J1 s0 l7 n8 s ds w' ρ' ((ha 0 (by kernel_rfl)).trans e0) ((ha 7 (by kernel_rfl)).trans e7) ((ha 8 (by kernel_rfl)).trans e8) e9' hF) h)
theorem F94_6_ok (R : Rt) (s0 : ByteArray) (l7 : SV) (n8 : Int) (n9 : Int) (ds : Ds) (w : World) (ρ : Env) (e0 : ρ 0 = .string s0) (e7 : ρ 7 = .slice l7.a l7.len l7.cap) (e8 : ρ 8 = .int .i64 n8) (e9 : ρ 9 = .int .i64 n9) (h : F94_6 R s0 l7 n8 n9 ds w) :
    TrL Try.prog Try.f94.ntmps [c94_2, c94_3, c94_4] (F94_q1 R) ρ ds w :=
  TrL_head (K := (F94_k2 R)) (Tr_block' (c := innerC c94_2) (by kernel_rfl) c94_2_l (F94_5_ok R s0 l7 n8 n9 ds w ρ e0 e7 e8 e9 h))
    (fun ρ' ds' w' hD => by
      obtain ⟨s0, e0, hD⟩ := dStr_elim hD; exact F94_1_ok R s0 ds' w' ρ' e0 hD)
theorem F94_7_ok (R : Rt) (s0 : ByteArray) (ds : Ds) (w : World) (ρ : Env) (e0 : ρ 0 = .string s0) (h : F94_7 R s0 ds w) :
    TrL Try.prog Try.f94.ntmps [c94_0, c94_1, c94_2, c94_3, c94_4] (F94_q1 R) ρ ds w :=
  TrL_piece (pre := [c94_0, c94_1]) (K := (F94_k8 R)) (X := F94_7 R s0 ds w) (setAll_cons e0 setAll_nil) (by kernel_rfl) (by kernel_rfl)
    (fun ρ' ds' w' hD => by
      obtain ⟨s0, e0, hD⟩ := dStr_elim hD; obtain ⟨l7, e7, hD⟩ := dSl_elim hD; obtain ⟨n8, e8, hD⟩ := dInt_elim hD; obtain ⟨n9, e9, hD⟩ := dInt_elim hD; exact F94_6_ok R s0 l7 n8 n9 ds' w' ρ' e0 e7 e8 e9 hD) h
theorem F94_calls (s0 : ByteArray) (w : World) (R : Rt) (h : F94_7 R s0 [] w) : Calls Try.prog 94 #[.string s0] w R :=
  calls_of_L (l := [c94_0, c94_1, c94_2, c94_3, c94_4]) Try.func94 (by kernel_rfl) (by rw [Try.ntmps94]; exact Nat.le_of_ble_eq_true (by kernel_rfl)) c94_l
    (F94_7_ok R s0 [] w _ rfl h)
theorem F94_callsD (s0 : ByteArray) (w : World) (R : Rt) (u : FrameMode) (h : F94_7 R s0 [] w) : CallsD Try.prog 94 #[.string s0] u w fun e u' w' => u' = u ∧ R e w' :=
  callsD_of_L (l := [c94_0, c94_1, c94_2, c94_3, c94_4]) Try.func94 (by kernel_rfl) (by rw [Try.ntmps94]; exact Nat.le_of_ble_eq_true (by kernel_rfl)) (by kernel_rfl) c94_l
    (F94_7_ok R s0 [] w _ rfl h) u

/-! function 95: slices.ContainsFunc[[]int,int] -/
noncomputable def c95_0 : Code := itemAt (flat (bodyOf Try.f95)) 0
noncomputable def c95_1 : Code := itemAt (flat (bodyOf Try.f95)) 1
noncomputable def c95_2 : Code := itemAt (flat (bodyOf Try.f95)) 2
def F95_q1 (R : Rt) : EQ := endQ Try.prog Try.f95.results.toList R
def F95_1 (R : Rt) (l0 : SV) (v1 : Value) (ds : Ds) (w : World) : Prop :=
 Calls Try.prog 112 #[.slice l0.a l0.len l0.cap, v1] w fun e w1 =>
 ∃ n7 : Int, e = .returned (.int .i64 n7) ∧
 runD Try.prog ds w1 fun w2 =>
 R (.returned (.bool (decide (n7 ≥ 0)))) w2
theorem c95_l : flat (bodyOf Try.f95) = [c95_0, c95_1, c95_2] := by kernel_rfl
theorem F95_1_ok (R : Rt) (l0 : SV) (v1 : Value) (ds : Ds) (w : World) (ρ : Env) (e0 : ρ 0 = .slice l0.a l0.len l0.cap) (e1 : ρ 1 = v1) (h : F95_1 R l0 v1 ds w) :
    TrL Try.prog Try.f95.ntmps [c95_0, c95_1, c95_2] (F95_q1 R) ρ ds w :=
  TrL_leaf (X := F95_1 R l0 v1 ds w) (setAll_cons e0 (setAll_cons e1 setAll_nil)) (by kernel_rfl) (by kernel_rfl) h
theorem F95_calls (l0 : SV) (v1 : Value) (w : World) (R : Rt) (h : F95_1 R l0 v1 [] w) : Calls Try.prog 95 #[.slice l0.a l0.len l0.cap, v1] w R :=
  calls_of_L (l := [c95_0, c95_1, c95_2]) Try.func95 (by kernel_rfl) (by rw [Try.ntmps95]; exact Nat.le_of_ble_eq_true (by kernel_rfl)) c95_l
    (F95_1_ok R l0 v1 [] w _ rfl rfl h)
theorem F95_callsD (l0 : SV) (v1 : Value) (w : World) (R : Rt) (u : FrameMode) (h : F95_1 R l0 v1 [] w) : CallsD Try.prog 95 #[.slice l0.a l0.len l0.cap, v1] u w fun e u' w' => u' = u ∧ R e w' :=
  callsD_of_L (l := [c95_0, c95_1, c95_2]) Try.func95 (by kernel_rfl) (by rw [Try.ntmps95]; exact Nat.le_of_ble_eq_true (by kernel_rfl)) (by kernel_rfl) c95_l
    (F95_1_ok R l0 v1 [] w _ rfl rfl h) u

/-! function 96: cabinetry/link.isRight$2 -/
noncomputable def c96_0 : Code := itemAt (flat (bodyOf Try.f96)) 0
noncomputable def c96_1 : Code := itemAt (flat (bodyOf Try.f96)) 1
noncomputable def c96_2 : Code := itemAt (flat (bodyOf Try.f96)) 2
def F96_q1 (R : Rt) : EQ := endQ Try.prog Try.f96.results.toList R
def F96_1 (R : Rt) (n0 : Int) (ds : Ds) (w : World) : Prop :=
 Br (decide (n0 < 1)) (
 runD Try.prog ds w fun w1 =>
 R (.returned (.bool true)) w1) (
 runD Try.prog ds w fun w2 =>
 R (.returned (.bool (decide (n0 > 10000)))) w2)
theorem c96_l : flat (bodyOf Try.f96) = [c96_0, c96_1, c96_2] := by kernel_rfl
theorem F96_1_ok (R : Rt) (n0 : Int) (ds : Ds) (w : World) (ρ : Env) (e0 : ρ 0 = .int .i64 n0) (h : F96_1 R n0 ds w) :
    TrL Try.prog Try.f96.ntmps [c96_0, c96_1, c96_2] (F96_q1 R) ρ ds w :=
  TrL_leaf (X := F96_1 R n0 ds w) (setAll_cons e0 setAll_nil) (by kernel_rfl) (by kernel_rfl) h
theorem F96_calls (n0 : Int) (w : World) (R : Rt) (h : F96_1 R n0 [] w) : Calls Try.prog 96 #[.int .i64 n0] w R :=
  calls_of_L (l := [c96_0, c96_1, c96_2]) Try.func96 (by kernel_rfl) (by rw [Try.ntmps96]; exact Nat.le_of_ble_eq_true (by kernel_rfl)) c96_l
    (F96_1_ok R n0 [] w _ rfl h)
theorem F96_callsD (n0 : Int) (w : World) (R : Rt) (u : FrameMode) (h : F96_1 R n0 [] w) : CallsD Try.prog 96 #[.int .i64 n0] u w fun e u' w' => u' = u ∧ R e w' :=
  callsD_of_L (l := [c96_0, c96_1, c96_2]) Try.func96 (by kernel_rfl) (by rw [Try.ntmps96]; exact Nat.le_of_ble_eq_true (by kernel_rfl)) (by kernel_rfl) c96_l
    (F96_1_ok R n0 [] w _ rfl h) u

/-! function 98: cabinetry/link.sum -/
noncomputable def c98_0 : Code := itemAt (flat (bodyOf Try.f98)) 0
noncomputable def c98_1 : Code := itemAt (flat (bodyOf Try.f98)) 1
noncomputable def c98_2 : Code := itemAt (flat (bodyOf Try.f98)) 2
noncomputable def c98_3 : Code := itemAt (flat (bodyOf Try.f98)) 3
noncomputable def c98_4 : Code := itemAt (flat (bodyOf Try.f98)) 4
noncomputable def c98_5 : Code := itemAt (flat (bodyOf Try.f98)) 5
noncomputable def c98_3_0 : Code := itemAt (flat (innerC c98_3)) 0
noncomputable def c98_3_0_0 : Code := itemAt (flat (innerC c98_3_0)) 0
noncomputable def c98_3_0_1 : Code := itemAt (flat (innerC c98_3_0)) 1
noncomputable def c98_3_0_2 : Code := itemAt (flat (innerC c98_3_0)) 2
noncomputable def c98_3_0_3 : Code := itemAt (flat (innerC c98_3_0)) 3
def F98_q1 (R : Rt) : EQ := endQ Try.prog Try.f98.results.toList R
def F98_1 (R : Rt) (n3 : Int) (ds : Ds) (w : World) : Prop :=
 runD Try.prog ds w fun w1 =>
 R (.returned (.int .i64 n3)) w1
def F98_k2 (R : Rt) : EP := (fun ρ ds w => dInt .i64 (ρ 3) fun n3 => F98_1 R n3 ds w)
def F98_q3 (R : Rt) : EQ := (thenQ (F98_k2 R) (F98_q1 R))
def F98_q4 (R : Rt) : EQ := (blockQ 0 (F98_q3 R))
def F98_q5 (R : Rt) (J1 : (Int × Int) → World → Prop) : EQ := (thenQ (fun ρ _ w => dInt .i64 (ρ 3) fun n3 => dInt .i64 (ρ 8) fun n8 => J1 (n3, n8) w) (F98_q4 R))
def F98_2 (R : Rt) (J1 : (Int × Int) → World → Prop) (n3 : Int) (l6 : SV) (n7 : Int) (n8 : Int) (ds : Ds) (w : World) : Prop :=
 Br (decide (n8 < n7)) (
 ∃ a2 : Addr, l6.a = some a2 ∧ 0 ≤ n8 ∧ n8 < ((l6.len : Nat) : Int) ∧
 ∃ n11 : Int, w.cell? (a2.add (n8.toNat * 1)) = some (.int .i64 n11) ∧
 J1 ((IntKind.i64.wrap (n3 + n11)), (IntKind.i64.wrap (n8 + 1))) w) (
 F98_1 R n3 ds w)
def F98_3 (R : Rt) (n3 : Int) (l6 : SV) (n7 : Int) (n8 : Int) (ds : Ds) (w : World) : Prop :=
 loopT (fun (J1 : (Int × Int) → World → Prop) (s : Int × Int) (w : World) => F98_2 R J1 s.1 l6 n7 s.2 ds w) (n3, n8) w
@[reducible] def F98_4 (R : Rt) (n3 : Int) (l6 : SV) (n7 : Int) (n8 : Int) (ds : Ds) (w : World) : Prop := F98_3 R n3 l6 n7 n8 ds w
def F98_k6 (R : Rt) : EP := (fun ρ ds w => dInt .i64 (ρ 3) fun n3 => dSl (ρ 6) fun l6 => dInt .i64 (ρ 7) fun n7 => dInt .i64 (ρ 8) fun n8 => F98_4 R n3 l6 n7 n8 ds w)
def F98_5 (R : Rt) (l0 : SV) (ds : Ds) (w : World) : Prop :=
 F98_4 R 0 l0 ((l0.len : Nat) : Int) 0 ds w
theorem c98_l : flat (bodyOf Try.f98) = [c98_0, c98_1, c98_2, c98_3, c98_4, c98_5] := by kernel_rfl
theorem c98_3_l : flat (innerC c98_3) = [c98_3_0] := by kernel_rfl
theorem c98_3_0_l : flat (innerC c98_3_0) = [c98_3_0_0, c98_3_0_1, c98_3_0_2, c98_3_0_3] := by kernel_rfl
theorem F98_1_ok (R : Rt) (n3 : Int) (ds : Ds) (w : World) (ρ : Env) (e3 : ρ 3 = .int .i64 n3) (h : F98_1 R n3 ds w) :
    TrL Try.prog Try.f98.ntmps [c98_4, c98_5] (F98_q1 R) ρ ds w :=
  TrL_leaf (X := F98_1 R n3 ds w) (setAll_cons e3 setAll_nil) (by kernel_rfl) (by kernel_rfl) h
theorem F98_2_ok (R : Rt) (J1 : (Int × Int) → World → Prop) (n3 : Int) (l6 : SV) (n7 : Int) (n8 : Int) (ds : Ds) (w : World) (ρ : Env) (e3 : ρ 3 = .int .i64 n3) (e6 : ρ 6 = .slice l6.a l6.len l6.cap) (e7 : ρ 7 = .int .i64 n7) (e8 : ρ 8 = .int .i64 n8) (h : F98_2 R J1 n3 l6 n7 n8 ds w) :
    TrL Try.prog Try.f98.ntmps [c98_3_0_0, c98_3_0_1, c98_3_0_2, c98_3_0_3] (F98_q5 R J1) ρ ds w :=
  TrL_leaf (X := F98_2 R J1 n3 l6 n7 n8 ds w) (setAll_cons e3 (setAll_cons e6 (setAll_cons e7 (setAll_cons e8 setAll_nil)))) (by kernel_rfl) (by kernel_rfl) h
theorem F98_3_ok (R : Rt) (n3 : Int) (l6 : SV) (n7 : Int) (n8 : Int) (ds : Ds) (w : World) (ρ : Env) (e3 : ρ 3 = .int .i64 n3) (e6 : ρ 6 = .slice l6.a l6.len l6.cap) (e7 : ρ 7 = .int .i64 n7) (e8 : ρ 8 = .int .i64 n8) (h : F98_3 R n3 l6 n7 n8 ds w) :
    TrL Try.prog Try.f98.ntmps [c98_3_0] (F98_q4 R) ρ ds w :=
  TrL_one (Tr_loop' (c := innerC c98_3_0) (σ := Int × Int) (enc := (fun (s : Int × Int) (ρ : Env) => ρ 3 = .int .i64 s.1 ∧ ρ 8 = .int .i64 s.2)) (D := (fun ρ K => dInt .i64 (ρ 3) fun n3 => dInt .i64 (ρ 8) fun n8 => K (n3, n8))) (F := (fun (J1 : (Int × Int) → World → Prop) (s : Int × Int) (w : World) => F98_2 R J1 s.1 l6 n7 s.2 ds w)) (s0 := (n3, n8)) (by kernel_rfl) c98_3_0_l ⟨e3, e8⟩ (by kernel_rfl) (fun ρ K hD => by obtain ⟨n3, e3, hD⟩ := dInt_elim hD; obtain ⟨n8, e8, hD⟩ := dInt_elim hD; exact ⟨(n3, n8), ⟨e3, e8⟩, hD⟩)
      (fun J1 s ρ' w' he ha hF => by
      obtain ⟨e3', e8'⟩ := he
      exact F98_2_ok R J1 s.1 l6 n7 s.2 ds w' ρ' e3' ((ha 6 (by kernel_rfl)).trans e6) ((ha 7 (by kernel_rfl)).trans e7) e8' hF) h)
theorem F98_4_ok (R : Rt) (n3 : Int) (l6 : SV) (n7 : Int) (n8 : Int) (ds : Ds) (w : World) (ρ : Env) (e3 : ρ 3 = .int .i64 n3) (e6 : ρ 6 = .slice l6.a l6.len l6.cap) (e7 : ρ 7 = .int .i64 n7) (e8 : ρ 8 = .int .i64 n8) (h : F98_4 R n3 l6 n7 n8 ds w) :
    TrL Try.prog Try.f98.ntmps [c98_3, c98_4, c98_5] (F98_q1 R) ρ ds w :=
  TrL_head (K := (F98_k2 R)) (Tr_block' (c := innerC c98_3) (by kernel_rfl) c98_3_l (F98_3_ok R n3 l6 n7 n8 ds w ρ e3 e6 e7 e8 h))
    (fun ρ' ds' w' hD => by
      obtain ⟨n3, e3, hD⟩ := dInt_elim hD; exact F98_1_ok R n3 ds' w' ρ' e3 hD)
theorem F98_5_ok (R : Rt) (l0 : SV) (ds : Ds) (w : World) (ρ : Env) (e0 : ρ 0 = .slice l0.a l0.len l0.cap) (h : F98_5 R l0 ds w) :
    TrL Try.prog Try.f98.ntmps [c98_0, c98_1, c98_2, c98_3, c98_4, c98_5] (F98_q1 R) ρ ds w :=
  TrL_piece (pre := [c98_0, c98_1, c98_2]) (K := (F98_k6 R)) (X := F98_5 R l0 ds w) (setAll_cons e0 setAll_nil) (by kernel_rfl) (by kernel_rfl)
    (fun ρ' ds' w' hD => by
      obtain ⟨n3, e3, hD⟩ := dInt_elim hD; obtain ⟨l6, e6, hD⟩ := dSl_elim hD; obtain ⟨n7, e7, hD⟩ := dInt_elim hD; obtain ⟨n8, e8, hD⟩ := dInt_elim hD; exact F98_4_ok R n3 l6 n7 n8 ds' w' ρ' e3 e6 e7 e8 hD) h
theorem F98_calls (l0 : SV) (w : World) (R : Rt) (h : F98_5 R l0 [] w) : Calls Try.prog 98 #[.slice l0.a l0.len l0.cap] w R :=
  calls_of_L (l := [c98_0, c98_1, c98_2, c98_3, c98_4, c98_5]) Try.func98 (by kernel_rfl) (by rw [Try.ntmps98]; exact Nat.le_of_ble_eq_true (by kernel_rfl)) c98_l
    (F98_5_ok R l0 [] w _ rfl h)
theorem F98_callsD (l0 : SV) (w : World) (R : Rt) (u : FrameMode) (h : F98_5 R l0 [] w) : CallsD Try.prog 98 #[.slice l0.a l0.len l0.cap] u w fun e u' w' => u' = u ∧ R e w' :=
  callsD_of_L (l := [c98_0, c98_1, c98_2, c98_3, c98_4, c98_5]) Try.func98 (by kernel_rfl) (by rw [Try.ntmps98]; exact Nat.le_of_ble_eq_true (by kernel_rfl)) (by kernel_rfl) c98_l
    (F98_5_ok R l0 [] w _ rfl h) u

/-! function 100: slices.Collect[string] -/
noncomputable def c100_0 : Code := itemAt (flat (bodyOf Try.f100)) 0
noncomputable def c100_1 : Code := itemAt (flat (bodyOf Try.f100)) 1
noncomputable def c100_2 : Code := itemAt (flat (bodyOf Try.f100)) 2
def F100_q1 (R : Rt) : EQ := endQ Try.prog Try.f100.results.toList R
def F100_1 (R : Rt) (v0 : Value) (ds : Ds) (w : World) : Prop :=
 Calls Try.prog 115 #[.slice none 0 0, v0] w fun e w1 =>
 ∃ l4 : SV, e = .returned (.slice l4.a l4.len l4.cap) ∧
 runD Try.prog ds w1 fun w2 =>
 R (.returned (.slice l4.a l4.len l4.cap)) w2
theorem c100_l : flat (bodyOf Try.f100) = [c100_0, c100_1, c100_2] := by kernel_rfl
theorem F100_1_ok (R : Rt) (v0 : Value) (ds : Ds) (w : World) (ρ : Env) (e0 : ρ 0 = v0) (h : F100_1 R v0 ds w) :
    TrL Try.prog Try.f100.ntmps [c100_0, c100_1, c100_2] (F100_q1 R) ρ ds w :=
  TrL_leaf (X := F100_1 R v0 ds w) (setAll_cons e0 setAll_nil) (by kernel_rfl) (by kernel_rfl) h
theorem F100_calls (v0 : Value) (w : World) (R : Rt) (h : F100_1 R v0 [] w) : Calls Try.prog 100 #[v0] w R :=
  calls_of_L (l := [c100_0, c100_1, c100_2]) Try.func100 (by kernel_rfl) (by rw [Try.ntmps100]; exact Nat.le_of_ble_eq_true (by kernel_rfl)) c100_l
    (F100_1_ok R v0 [] w _ rfl h)
theorem F100_callsD (v0 : Value) (w : World) (R : Rt) (u : FrameMode) (h : F100_1 R v0 [] w) : CallsD Try.prog 100 #[v0] u w fun e u' w' => u' = u ∧ R e w' :=
  callsD_of_L (l := [c100_0, c100_1, c100_2]) Try.func100 (by kernel_rfl) (by rw [Try.ntmps100]; exact Nat.le_of_ble_eq_true (by kernel_rfl)) (by kernel_rfl) c100_l
    (F100_1_ok R v0 [] w _ rfl h) u

/-! function 111: slices.IndexFunc[[][]string,[]string] -/
noncomputable def c111_0 : Code := itemAt (flat (bodyOf Try.f111)) 0
noncomputable def c111_1 : Code := itemAt (flat (bodyOf Try.f111)) 1
noncomputable def c111_2 : Code := itemAt (flat (bodyOf Try.f111)) 2
noncomputable def c111_3 : Code := itemAt (flat (bodyOf Try.f111)) 3
noncomputable def c111_4 : Code := itemAt (flat (bodyOf Try.f111)) 4
noncomputable def c111_2_0 : Code := itemAt (flat (innerC c111_2)) 0
noncomputable def c111_2_0_0 : Code := itemAt (flat (innerC c111_2_0)) 0
noncomputable def c111_2_0_1 : Code := itemAt (flat (innerC c111_2_0)) 1
noncomputable def c111_2_0_2 : Code := itemAt (flat (innerC c111_2_0)) 2
noncomputable def c111_2_0_3 : Code := itemAt (flat (innerC c111_2_0)) 3
def F111_q1 (R : Rt) : EQ := endQ Try.prog Try.f111.results.toList R
def F111_1 (R : Rt) (ds : Ds) (w : World) : Prop :=
 runD Try.prog ds w fun w1 =>
 R (.returned (.int .i64 (-1))) w1
def F111_k2 (R : Rt) : EP := (fun ρ ds w => F111_1 R ds w)
def F111_q3 (R : Rt) : EQ := (thenQ (F111_k2 R) (F111_q1 R))
def F111_q4 (R : Rt) : EQ := (blockQ 0 (F111_q3 R))
def F111_q5 (R : Rt) (J1 : (Int) → World → Prop) : EQ := (thenQ (fun ρ _ w => dInt .i64 (ρ 8) fun n8 => J1 n8 w) (F111_q4 R))
def F111_2 (R : Rt) (J1 : (Int) → World → Prop) (l0 : SV) (v1 : Value) (n7 : Int) (n8 : Int) (ds : Ds) (w : World) : Prop :=
 Br (decide (n8 < n7)) (
 ∃ a2 : Addr, l0.a = some a2 ∧ 0 ≤ n8 ∧ n8 < ((l0.len : Nat) : Int) ∧
 ∃ l15 : SV, w.cell? (a2.add (n8.toNat * 1)) = some (.slice l15.a l15.len l15.cap) ∧
 fnE v1 fun f16 first16 cap16 =>
 hasBody Try.prog f16 = true ∧ Calls Try.prog f16 (first16.toList ++ (([.slice l15.a l15.len l15.cap] : List Value) ++ cap16.toList)).toArray w fun e w3 =>
 ∃ b16 : Bool, e = .returned (.bool b16) ∧
 Br b16 (
 runD Try.prog ds w3 fun w4 =>
 R (.returned (.int .i64 n8)) w4) (
 J1 (IntKind.i64.wrap (n8 + 1)) w3)) (
 F111_1 R ds w)
def F111_3 (R : Rt) (l0 : SV) (v1 : Value) (n7 : Int) (n8 : Int) (ds : Ds) (w : World) : Prop :=
 loopT (fun (J1 : (Int) → World → Prop) (s : Int) (w : World) => F111_2 R J1 l0 v1 n7 s ds w) n8 w
@[reducible] def F111_4 (R : Rt) (l0 : SV) (v1 : Value) (n7 : Int) (n8 : Int) (ds : Ds) (w : World) : Prop := F111_3 R l0 v1 n7 n8 ds w
def F111_k6 (R : Rt) : EP := (fun ρ ds w => dSl (ρ 0) fun l0 => dInt .i64 (ρ 7) fun n7 => dInt .i64 (ρ 8) fun n8 => F111_4 R l0 (ρ 1) n7 n8 ds w)
def F111_5 (R : Rt) (l0 : SV) (v1 : Value) (ds : Ds) (w : World) : Prop :=
 F111_4 R l0 (v1) ((l0.len : Nat) : Int) 0 ds w
theorem c111_l : flat (bodyOf Try.f111) = [c111_0, c111_1, c111_2, c111_3, c111_4] := by kernel_rfl
theorem c111_2_l : flat (innerC c111_2) = [c111_2_0] := by kernel_rfl
theorem c111_2_0_l : flat (innerC c111_2_0) = [c111_2_0_0, c111_2_0_1, c111_2_0_2, c111_2_0_3] := by kernel_rfl
theorem F111_1_ok (R : Rt) (ds : Ds) (w : World) (ρ : Env) (h : F111_1 R ds w) :
    TrL Try.prog Try.f111.ntmps [c111_3, c111_4] (F111_q1 R) ρ ds w :=
  TrL_leaf (X := F111_1 R ds w) setAll_nil (by kernel_rfl) (by kernel_rfl) h
theorem F111_2_ok (R : Rt) (J1 : (Int) → World → Prop) (l0 : SV) (v1 : Value) (n7 : Int) (n8 : Int) (ds : Ds) (w : World) (ρ : Env) (e0 : ρ 0 = .slice l0.a l0.len l0.cap) (e1 : ρ 1 = v1) (e7 : ρ 7 = .int .i64 n7) (e8 : ρ 8 = .int .i64 n8) (h : F111_2 R J1 l0 v1 n7 n8 ds w) :
    TrL Try.prog Try.f111.ntmps [c111_2_0_0, c111_2_0_1, c111_2_0_2, c111_2_0_3] (F111_q5 R J1) ρ ds w :=
  TrL_leaf (X := F111_2 R J1 l0 v1 n7 n8 ds w) (setAll_cons e0 (setAll_cons e1 (setAll_cons e7 (setAll_cons e8 setAll_nil)))) (by kernel_rfl) (by kernel_rfl) h
theorem F111_3_ok (R : Rt) (l0 : SV) (v1 : Value) (n7 : Int) (n8 : Int) (ds : Ds) (w : World) (ρ : Env) (e0 : ρ 0 = .slice l0.a l0.len l0.cap) (e1 : ρ 1 = v1) (e7 : ρ 7 = .int .i64 n7) (e8 : ρ 8 = .int .i64 n8) (h : F111_3 R l0 v1 n7 n8 ds w) :
    TrL Try.prog Try.f111.ntmps [c111_2_0] (F111_q4 R) ρ ds w :=
  TrL_one (Tr_loop' (c := innerC c111_2_0) (σ := Int) (enc := (fun (s : Int) (ρ : Env) => ρ 8 = .int .i64 s)) (D := (fun ρ K => dInt .i64 (ρ 8) fun n8 => K n8)) (F := (fun (J1 : (Int) → World → Prop) (s : Int) (w : World) => F111_2 R J1 l0 v1 n7 s ds w)) (s0 := n8) (by kernel_rfl) c111_2_0_l e8 (by kernel_rfl) (fun ρ K hD => by obtain ⟨n8, e8, hD⟩ := dInt_elim hD; exact ⟨n8, e8, hD⟩)
      (fun J1 s ρ' w' he ha hF => by
      have e8' := he
      exact F111_2_ok R J1 l0 v1 n7 s ds w' ρ' ((ha 0 (by kernel_rfl)).trans e0) ((ha 1 (by kernel_rfl)).trans e1) ((ha 7 (by kernel_rfl)).trans e7) e8' hF) h)
theorem F111_4_ok (R : Rt) (l0 : SV) (v1 : Value) (n7 : Int) (n8 : Int) (ds : Ds) (w : World) (ρ : Env) (e0 : ρ 0 = .slice l0.a l0.len l0.cap) (e1 : ρ 1 = v1) (e7 : ρ 7 = .int .i64 n7) (e8 : ρ 8 = .int .i64 n8) (h : F111_4 R l0 v1 n7 n8 ds w) :
    TrL Try.prog Try.f111.ntmps [c111_2, c111_3, c111_4] (F111_q1 R) ρ ds w :=
  TrL_head (K := (F111_k2 R)) (Tr_block' (c := innerC c111_2) (by kernel_rfl) c111_2_l (F111_3_ok R l0 v1 n7 n8 ds w ρ e0 e1 e7 e8 h))
    (fun ρ' ds' w' hD => by
      exact F111_1_ok R ds' w' ρ'  hD)
theorem F111_5_ok (R : Rt) (l0 : SV) (v1 : Value) (ds : Ds) (w : World) (ρ : Env) (e0 : ρ 0 = .slice l0.a l0.len l0.cap) (e1 : ρ 1 = v1) (h : F111_5 R l0 v1 ds w) :
    TrL Try.prog Try.f111.ntmps [c111_0, c111_1, c111_2, c111_3, c111_4] (F111_q1 R) ρ ds w :=
  TrL_piece (pre := [c111_0, c111_1]) (K := (F111_k6 R)) (X := F111_5 R l0 v1 ds w) (setAll_cons e0 (setAll_cons e1 setAll_nil)) (by kernel_rfl) (by kernel_rfl)
    (fun ρ' ds' w' hD => by
      obtain ⟨l0, e0, hD⟩ := dSl_elim hD; obtain ⟨n7, e7, hD⟩ := dInt_elim hD; obtain ⟨n8, e8, hD⟩ := dInt_elim hD; exact F111_4_ok R l0 (ρ' 1) n7 n8 ds' w' ρ' e0 rfl e7 e8 hD) h
theorem F111_calls (l0 : SV) (v1 : Value) (w : World) (R : Rt) (h : F111_5 R l0 v1 [] w) : Calls Try.prog 111 #[.slice l0.a l0.len l0.cap, v1] w R :=
  calls_of_L (l := [c111_0, c111_1, c111_2, c111_3, c111_4]) Try.func111 (by kernel_rfl) (by rw [Try.ntmps111]; exact Nat.le_of_ble_eq_true (by kernel_rfl)) c111_l
    (F111_5_ok R l0 v1 [] w _ rfl rfl h)
theorem F111_callsD (l0 : SV) (v1 : Value) (w : World) (R : Rt) (u : FrameMode) (h : F111_5 R l0 v1 [] w) : CallsD Try.prog 111 #[.slice l0.a l0.len l0.cap, v1] u w fun e u' w' => u' = u ∧ R e w' :=
  callsD_of_L (l := [c111_0, c111_1, c111_2, c111_3, c111_4]) Try.func111 (by kernel_rfl) (by rw [Try.ntmps111]; exact Nat.le_of_ble_eq_true (by kernel_rfl)) (by kernel_rfl) c111_l
    (F111_5_ok R l0 v1 [] w _ rfl rfl h) u

/-! function 112: slices.IndexFunc[[]int,int] -/
noncomputable def c112_0 : Code := itemAt (flat (bodyOf Try.f112)) 0
noncomputable def c112_1 : Code := itemAt (flat (bodyOf Try.f112)) 1
noncomputable def c112_2 : Code := itemAt (flat (bodyOf Try.f112)) 2
noncomputable def c112_3 : Code := itemAt (flat (bodyOf Try.f112)) 3
noncomputable def c112_4 : Code := itemAt (flat (bodyOf Try.f112)) 4
noncomputable def c112_2_0 : Code := itemAt (flat (innerC c112_2)) 0
noncomputable def c112_2_0_0 : Code := itemAt (flat (innerC c112_2_0)) 0
noncomputable def c112_2_0_1 : Code := itemAt (flat (innerC c112_2_0)) 1
noncomputable def c112_2_0_2 : Code := itemAt (flat (innerC c112_2_0)) 2
noncomputable def c112_2_0_3 : Code := itemAt (flat (innerC c112_2_0)) 3
def F112_q1 (R : Rt) : EQ := endQ Try.prog Try.f112.results.toList R
def F112_1 (R : Rt) (ds : Ds) (w : World) : Prop :=
 runD Try.prog ds w fun w1 =>
 R (.returned (.int .i64 (-1))) w1
def F112_k2 (R : Rt) : EP := (fun ρ ds w => F112_1 R ds w)
def F112_q3 (R : Rt) : EQ := (thenQ (F112_k2 R) (F112_q1 R))
def F112_q4 (R : Rt) : EQ := (blockQ 0 (F112_q3 R))
def F112_q5 (R : Rt) (J1 : (Int) → World → Prop) : EQ := (thenQ (fun ρ _ w => dInt .i64 (ρ 8) fun n8 => J1 n8 w) (F112_q4 R))
def F112_2 (R : Rt) (J1 : (Int) → World → Prop) (l0 : SV) (v1 : Value) (n7 : Int) (n8 : Int) (ds : Ds) (w : World) : Prop :=
 Br (decide (n8 < n7)) (
 ∃ a2 : Addr, l0.a = some a2 ∧ 0 ≤ n8 ∧ n8 < ((l0.len : Nat) : Int) ∧
 ∃ n15 : Int, w.cell? (a2.add (n8.toNat * 1)) = some (.int .i64 n15) ∧
 fnE v1 fun f16 first16 cap16 =>
 hasBody Try.prog f16 = true ∧ Calls Try.prog f16 (first16.toList ++ (([.int .i64 n15] : List Value) ++ cap16.toList)).toArray w fun e w3 =>
 ∃ b16 : Bool, e = .returned (.bool b16) ∧
 Br b16 (
 runD Try.prog ds w3 fun w4 =>
 R (.returned (.int .i64 n8)) w4) (
 J1 (IntKind.i64.wrap (n8 + 1)) w3)) (
 F112_1 R ds w)
def F112_3 (R : Rt) (l0 : SV) (v1 : Value) (n7 : Int) (n8 : Int) (ds : Ds) (w : World) : Prop :=
 loopT (fun (J1 : (Int) → World → Prop) (s : Int) (w : World) => F112_2 R J1 l0 v1 n7 s ds w) n8 w
@[reducible] def F112_4 (R : Rt) (l0 : SV) (v1 : Value) (n7 : Int) (n8 : Int) (ds : Ds) (w : World) : Prop := F112_3 R l0 v1 n7 n8 ds w
def F112_k6 (R : Rt) : EP := (fun ρ ds w => dSl (ρ 0) fun l0 => dInt .i64 (ρ 7) fun n7 => dInt .i64 (ρ 8) fun n8 => F112_4 R l0 (ρ 1) n7 n8 ds w)
def F112_5 (R : Rt) (l0 : SV) (v1 : Value) (ds : Ds) (w : World) : Prop :=
 F112_4 R l0 (v1) ((l0.len : Nat) : Int) 0 ds w
theorem c112_l : flat (bodyOf Try.f112) = [c112_0, c112_1, c112_2, c112_3, c112_4] := by kernel_rfl
theorem c112_2_l : flat (innerC c112_2) = [c112_2_0] := by kernel_rfl
theorem c112_2_0_l : flat (innerC c112_2_0) = [c112_2_0_0, c112_2_0_1, c112_2_0_2, c112_2_0_3] := by kernel_rfl
theorem F112_1_ok (R : Rt) (ds : Ds) (w : World) (ρ : Env) (h : F112_1 R ds w) :
    TrL Try.prog Try.f112.ntmps [c112_3, c112_4] (F112_q1 R) ρ ds w :=
  TrL_leaf (X := F112_1 R ds w) setAll_nil (by kernel_rfl) (by kernel_rfl) h
theorem F112_2_ok (R : Rt) (J1 : (Int) → World → Prop) (l0 : SV) (v1 : Value) (n7 : Int) (n8 : Int) (ds : Ds) (w : World) (ρ : Env) (e0 : ρ 0 = .slice l0.a l0.len l0.cap) (e1 : ρ 1 = v1) (e7 : ρ 7 = .int .i64 n7) (e8 : ρ 8 = .int .i64 n8) (h : F112_2 R J1 l0 v1 n7 n8 ds w) :
    TrL Try.prog Try.f112.ntmps [c112_2_0_0, c112_2_0_1, c112_2_0_2, c112_2_0_3] (F112_q5 R J1) ρ ds w :=
  TrL_leaf (X := F112_2 R J1 l0 v1 n7 n8 ds w) (setAll_cons e0 (setAll_cons e1 (setAll_cons e7 (setAll_cons e8 setAll_nil)))) (by kernel_rfl) (by kernel_rfl) h
theorem F112_3_ok (R : Rt) (l0 : SV) (v1 : Value) (n7 : Int) (n8 : Int) (ds : Ds) (w : World) (ρ : Env) (e0 : ρ 0 = .slice l0.a l0.len l0.cap) (e1 : ρ 1 = v1) (e7 : ρ 7 = .int .i64 n7) (e8 : ρ 8 = .int .i64 n8) (h : F112_3 R l0 v1 n7 n8 ds w) :
    TrL Try.prog Try.f112.ntmps [c112_2_0] (F112_q4 R) ρ ds w :=
  TrL_one (Tr_loop' (c := innerC c112_2_0) (σ := Int) (enc := (fun (s : Int) (ρ : Env) => ρ 8 = .int .i64 s)) (D := (fun ρ K => dInt .i64 (ρ 8) fun n8 => K n8)) (F := (fun (J1 : (Int) → World → Prop) (s : Int) (w : World) => F112_2 R J1 l0 v1 n7 s ds w)) (s0 := n8) (by kernel_rfl) c112_2_0_l e8 (by kernel_rfl) (fun ρ K hD => by obtain ⟨n8, e8, hD⟩ := dInt_elim hD; exact ⟨n8, e8, hD⟩)
      (fun J1 s ρ' w' he ha hF => by
      have e8' := he
      exact F112_2_ok R J1 l0 v1 n7 s ds w' ρ' ((ha 0 (by kernel_rfl)).trans e0) ((ha 1 (by kernel_rfl)).trans e1) ((ha 7 (by kernel_rfl)).trans e7) e8' hF) h)
theorem F112_4_ok (R : Rt) (l0 : SV) (v1 : Value) (n7 : Int) (n8 : Int) (ds : Ds) (w : World) (ρ : Env) (e0 : ρ 0 = .slice l0.a l0.len l0.cap) (e1 : ρ 1 = v1) (e7 : ρ 7 = .int .i64 n7) (e8 : ρ 8 = .int .i64 n8) (h : F112_4 R l0 v1 n7 n8 ds w) :
    TrL Try.prog Try.f112.ntmps [c112_2, c112_3, c112_4] (F112_q1 R) ρ ds w :=
  TrL_head (K := (F112_k2 R)) (Tr_block' (c := innerC c112_2) (by kernel_rfl) c112_2_l (F112_3_ok R l0 v1 n7 n8 ds w ρ e0 e1 e7 e8 h))
    (fun ρ' ds' w' hD => by
      exact F112_1_ok R ds' w' ρ'  hD)
theorem F112_5_ok (R : Rt) (l0 : SV) (v1 : Value) (ds : Ds) (w : World) (ρ : Env) (e0 : ρ 0 = .slice l0.a l0.len l0.cap) (e1 : ρ 1 = v1) (h : F112_5 R l0 v1 ds w) :
    TrL Try.prog Try.f112.ntmps [c112_0, c112_1, c112_2, c112_3, c112_4] (F112_q1 R) ρ ds w :=
  TrL_piece (pre := [c112_0, c112_1]) (K := (F112_k6 R)) (X := F112_5 R l0 v1 ds w) (setAll_cons e0 (setAll_cons e1 setAll_nil)) (by kernel_rfl) (by kernel_rfl)
    (fun ρ' ds' w' hD => by
      obtain ⟨l0, e0, hD⟩ := dSl_elim hD; obtain ⟨n7, e7, hD⟩ := dInt_elim hD; obtain ⟨n8, e8, hD⟩ := dInt_elim hD; exact F112_4_ok R l0 (ρ' 1) n7 n8 ds' w' ρ' e0 rfl e7 e8 hD) h
theorem F112_calls (l0 : SV) (v1 : Value) (w : World) (R : Rt) (h : F112_5 R l0 v1 [] w) : Calls Try.prog 112 #[.slice l0.a l0.len l0.cap, v1] w R :=
  calls_of_L (l := [c112_0, c112_1, c112_2, c112_3, c112_4]) Try.func112 (by kernel_rfl) (by rw [Try.ntmps112]; exact Nat.le_of_ble_eq_true (by kernel_rfl)) c112_l
    (F112_5_ok R l0 v1 [] w _ rfl rfl h)
theorem F112_callsD (l0 : SV) (v1 : Value) (w : World) (R : Rt) (u : FrameMode) (h : F112_5 R l0 v1 [] w) : CallsD Try.prog 112 #[.slice l0.a l0.len l0.cap, v1] u w fun e u' w' => u' = u ∧ R e w' :=
  callsD_of_L (l := [c112_0, c112_1, c112_2, c112_3, c112_4]) Try.func112 (by kernel_rfl) (by rw [Try.ntmps112]; exact Nat.le_of_ble_eq_true (by kernel_rfl)) (by kernel_rfl) c112_l
    (F112_5_ok R l0 v1 [] w _ rfl rfl h) u

end Go.Proofs.Ytcnenlmhbpijlaa
