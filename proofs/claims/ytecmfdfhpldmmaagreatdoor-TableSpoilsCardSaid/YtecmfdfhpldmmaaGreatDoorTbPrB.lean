import Derived.Test.YtecmfdfhpldmmaaGreatDoorProg
import Derived.Test.YtecmfdfhpldmmaaGreatDoorShEight
/- Shallow texts of functions, printed by program, each checked by the kernel against the loaded code. No condition. -/
set_option maxRecDepth 100000
set_option linter.unusedVariables false
namespace Go.Proofs.YtecmfdfhpldmmaaGreatDoor
open Go.Sh
open Tryz
@[reducible] noncomputable def cI15 (f : Func) (i : Nat) : Code := itemAt (flat (bodyOf f)) i
@[reducible] noncomputable def cJ15 (c : Code) (i : Nat) : Code := itemAt (flat (innerC c)) i
noncomputable def c16_0 := cI15 f16 0
noncomputable def c16_1 := cI15 f16 1
noncomputable def c16_2 := cI15 f16 2
def F16_q1 (R : Rt) : EQ := endQ prog f16.results.toList R
def F16_1 (R : Rt) (n0_0 : Int) (l0_1 l0_2 : SV) (ds : Ds) (w : World) : Prop :=
 alE (.cells #[.int .i64 n0_0, .slice l0_1.a l0_1.len l0_1.cap, .slice l0_2.a l0_2.len l0_2.cap] 35) w fun r1 w1 =>
 ∃ n3_0 : Int, w1.cell? ((⟨r1, 0, none⟩ : Addr).add 0) = some (.int .i64 n3_0) /\
 ∃ l3_1 : SV, w1.cell? ((⟨r1, 0, none⟩ : Addr).add 1) = some (.slice l3_1.a l3_1.len l3_1.cap) /\
 ∃ l3_2 : SV, w1.cell? ((⟨r1, 0, none⟩ : Addr).add 2) = some (.slice l3_2.a l3_2.len l3_2.cap) /\
 Calls prog 24 #[.agg #[.int .i64 n3_0, .slice l3_1.a l3_1.len l3_1.cap, .slice l3_2.a l3_2.len l3_2.cap]] w1 fun e w2 =>
 ∃ n4 : Int, e = .returned (.int .i64 n4) /\
 runD prog ds w2 fun w3 =>
 R (.returned (.bool (decide (n4 > 2000000)))) w3
theorem c16_l : flat (bodyOf f16) = [c16_0, c16_1, c16_2] := by kernel_rfl
theorem F16_1_ok (R : Rt) (n0_0 : Int) (l0_1 l0_2 : SV) (ds : Ds) (w : World) (E : Env) (e0 : E 0 = .agg #[.int .i64 n0_0, .slice l0_1.a l0_1.len l0_1.cap, .slice l0_2.a l0_2.len l0_2.cap]) (h : F16_1 R n0_0 l0_1 l0_2 ds w) :
    TrL prog f16.ntmps [c16_0, c16_1, c16_2] (F16_q1 R) E ds w :=
  TrL_leaf (X := F16_1 R n0_0 l0_1 l0_2 ds w) (setAll_cons e0 setAll_nil) (by kernel_rfl) (by kernel_rfl) h
theorem F16_calls (n0_0 : Int) (l0_1 l0_2 : SV) (w : World) (R : Rt) (h : F16_1 R n0_0 l0_1 l0_2 [] w) : Calls prog 16 #[.agg #[.int .i64 n0_0, .slice l0_1.a l0_1.len l0_1.cap, .slice l0_2.a l0_2.len l0_2.cap]] w R :=
  calls_of_L (l := [c16_0, c16_1, c16_2]) func16 (by kernel_rfl) (by rw [ntmps16]; exact Nat.le_of_ble_eq_true (by kernel_rfl)) c16_l
    (F16_1_ok R n0_0 l0_1 l0_2 [] w _ rfl h)
noncomputable def c24_0 := cI15 f24 0
noncomputable def c24_1 := cI15 f24 1
noncomputable def c24_2 := cI15 f24 2
noncomputable def c24_3 := cI15 f24 3
noncomputable def c24_4 := cI15 f24 4
noncomputable def c24_5 := cI15 f24 5
noncomputable def c24_6 := cI15 f24 6
noncomputable def c24_7 := cI15 f24 7
noncomputable def c24_5_0 := cJ15 c24_5 0
noncomputable def c24_5_0_0 := cJ15 c24_5_0 0
noncomputable def c24_5_0_1 := cJ15 c24_5_0 1
noncomputable def c24_5_0_2 := cJ15 c24_5_0 2
noncomputable def c24_5_0_3 := cJ15 c24_5_0 3
noncomputable def c24_3_0 := cJ15 c24_3 0
noncomputable def c24_3_0_0 := cJ15 c24_3_0 0
noncomputable def c24_3_0_1 := cJ15 c24_3_0 1
noncomputable def c24_3_0_2 := cJ15 c24_3_0 2
noncomputable def c24_3_0_3 := cJ15 c24_3_0 3
def F24_q1 (R : Rt) : EQ := endQ prog f24.results.toList R
def F24_1 (R : Rt) (n3 : Int) (ds : Ds) (w : World) : Prop :=
 runD prog ds w fun w1 =>
 R (.returned (.int .i64 n3)) w1
def F24_k2 (R : Rt) : EP := (fun E ds w => dInt .i64 (E 3) fun n3 => F24_1 R n3 ds w)
def F24_q3 (R : Rt) : EQ := (thenQ (F24_k2 R) (F24_q1 R))
def F24_q4 (R : Rt) : EQ := (blockQ 2 (F24_q3 R))
def F24_q5 (R : Rt) (J1 : (Int × Int) -> World -> Prop) : EQ := (thenQ (fun E _ w => dInt .i64 (E 3) fun n3 => dInt .i64 (E 5) fun n5 => J1 (n3, n5) w) (F24_q4 R))
def F24_2 (R : Rt) (J1 : (Int × Int) -> World -> Prop) (p1 : Option Addr) (n3 n5 : Int) (ds : Ds) (w : World) : Prop :=
 ptrE p1 fun a2 =>
 ∃ l28 : SV, w.cell? (a2.add 2) = some (.slice l28.a l28.len l28.cap) /\
 Br (decide (n5 < (l28.len : Int))) (
 ptrE p1 fun a3 =>
 ∃ l35 : SV, w.cell? (a3.add 2) = some (.slice l35.a l35.len l35.cap) /\
 ∃ a4 : Addr, l35.a = some a4 /\ 0 ≤ n5 /\ n5 < (l35.len : Int) /\
 ∃ l39 : SV, w.cell? ((a4.add (n5.toNat * 2)).add 1) = some (.slice l39.a l39.len l39.cap) /\
 Calls prog 64 #[.slice l39.a l39.len l39.cap] w fun e w5 =>
 ∃ n40 : Int, e = .returned (.int .i64 n40) /\
 J1 ((IntKind.i64.wrap (n3 + (IntKind.i64.wrap ((8 : Int) + n40)))), (IntKind.i64.wrap (n5 + 1))) w5) (
 F24_1 R n3 ds w)
def F24_3 (R : Rt) (p1 : Option Addr) (n3 n5 : Int) (ds : Ds) (w : World) : Prop :=
 loopT (fun (J1 : (Int × Int) -> World -> Prop) (s : Int × Int) (w : World) => F24_2 R J1 p1 s.1 s.2 ds w) (n3, n5) w
abbrev F24_4 (R : Rt) (p1 : Option Addr) (n3 n5 : Int) (ds : Ds) (w : World) : Prop := F24_3 R p1 n3 n5 ds w
def F24_k6 (R : Rt) : EP := (fun E ds w => dPtr (E 1) fun p1 => dInt .i64 (E 3) fun n3 => dInt .i64 (E 5) fun n5 => F24_4 R p1 n3 n5 ds w)
def F24_5 (R : Rt) (p1 : Option Addr) (n3 : Int) (ds : Ds) (w : World) : Prop :=
 F24_4 R p1 n3 0 ds w
def F24_k7 (R : Rt) : EP := (fun E ds w => dPtr (E 1) fun p1 => dInt .i64 (E 3) fun n3 => F24_5 R p1 n3 ds w)
def F24_q8 (R : Rt) : EQ := (thenQ (F24_k7 R) (F24_q1 R))
def F24_q9 (R : Rt) : EQ := (blockQ 0 (F24_q8 R))
def F24_q10 (R : Rt) (J1 : (Int × Int) -> World -> Prop) : EQ := (thenQ (fun E _ w => dInt .i64 (E 3) fun n3 => dInt .i64 (E 4) fun n4 => J1 (n3, n4) w) (F24_q9 R))
def F24_6 (R : Rt) (J1 : (Int × Int) -> World -> Prop) (p1 : Option Addr) (n3 n4 : Int) (ds : Ds) (w : World) : Prop :=
 ptrE p1 fun a6 =>
 ∃ l12 : SV, w.cell? (a6.add 1) = some (.slice l12.a l12.len l12.cap) /\
 Br (decide (n4 < (l12.len : Int))) (
 ptrE p1 fun a7 =>
 ∃ l19 : SV, w.cell? (a7.add 1) = some (.slice l19.a l19.len l19.cap) /\
 ∃ a8 : Addr, l19.a = some a8 /\ 0 ≤ n4 /\ n4 < (l19.len : Int) /\
 ∃ s23 : ByteArray, w.cell? (a8.add (n4.toNat * 4)) = some (.string s23) /\
 J1 ((IntKind.i64.wrap (n3 + (s23.size : Int))), (IntKind.i64.wrap (n4 + 1))) w) (
 F24_5 R p1 n3 ds w)
def F24_7 (R : Rt) (p1 : Option Addr) (n3 n4 : Int) (ds : Ds) (w : World) : Prop :=
 loopT (fun (J1 : (Int × Int) -> World -> Prop) (s : Int × Int) (w : World) => F24_6 R J1 p1 s.1 s.2 ds w) (n3, n4) w
abbrev F24_8 (R : Rt) (p1 : Option Addr) (n3 n4 : Int) (ds : Ds) (w : World) : Prop := F24_7 R p1 n3 n4 ds w
def F24_k11 (R : Rt) : EP := (fun E ds w => dPtr (E 1) fun p1 => dInt .i64 (E 3) fun n3 => dInt .i64 (E 4) fun n4 => F24_8 R p1 n3 n4 ds w)
def F24_9 (R : Rt) (n0_0 : Int) (l0_1 l0_2 : SV) (ds : Ds) (w : World) : Prop :=
 alE (.cells #[.int .i64 n0_0, .slice l0_1.a l0_1.len l0_1.cap, .slice l0_2.a l0_2.len l0_2.cap] 35) w fun r1 w9 =>
 ∃ l7 : SV, w9.cell? ((⟨r1, 0, none⟩ : Addr).add 1) = some (.slice l7.a l7.len l7.cap) /\
 F24_8 R (some (⟨r1, 0, none⟩ : Addr)) (IntKind.i64.wrap ((16 : Int) * (l7.len : Int))) 0 ds w9
theorem c24_l : flat (bodyOf f24) = [c24_0, c24_1, c24_2, c24_3, c24_4, c24_5, c24_6, c24_7] := by kernel_rfl
theorem c24_5_l : flat (innerC c24_5) = [c24_5_0] := by kernel_rfl
theorem c24_5_0_l : flat (innerC c24_5_0) = [c24_5_0_0, c24_5_0_1, c24_5_0_2, c24_5_0_3] := by kernel_rfl
theorem c24_3_l : flat (innerC c24_3) = [c24_3_0] := by kernel_rfl
theorem c24_3_0_l : flat (innerC c24_3_0) = [c24_3_0_0, c24_3_0_1, c24_3_0_2, c24_3_0_3] := by kernel_rfl
theorem F24_1_ok (R : Rt) (n3 : Int) (ds : Ds) (w : World) (E : Env) (e3 : E 3 = .int .i64 n3) (h : F24_1 R n3 ds w) :
    TrL prog f24.ntmps [c24_6, c24_7] (F24_q1 R) E ds w :=
  TrL_leaf (X := F24_1 R n3 ds w) (setAll_cons e3 setAll_nil) (by kernel_rfl) (by kernel_rfl) h
theorem F24_2_ok (R : Rt) (J1 : (Int × Int) -> World -> Prop) (p1 : Option Addr) (n3 n5 : Int) (ds : Ds) (w : World) (E : Env) (e1 : E 1 = .pointer p1) (e3 : E 3 = .int .i64 n3) (e5 : E 5 = .int .i64 n5) (h : F24_2 R J1 p1 n3 n5 ds w) :
    TrL prog f24.ntmps [c24_5_0_0, c24_5_0_1, c24_5_0_2, c24_5_0_3] (F24_q5 R J1) E ds w :=
  TrL_leaf (X := F24_2 R J1 p1 n3 n5 ds w) (setAll_cons e1 (setAll_cons e3 (setAll_cons e5 setAll_nil))) (by kernel_rfl) (by kernel_rfl) h
theorem F24_3_ok (R : Rt) (p1 : Option Addr) (n3 n5 : Int) (ds : Ds) (w : World) (E : Env) (e1 : E 1 = .pointer p1) (e3 : E 3 = .int .i64 n3) (e5 : E 5 = .int .i64 n5) (h : F24_3 R p1 n3 n5 ds w) :
    TrL prog f24.ntmps [c24_5_0] (F24_q4 R) E ds w :=
  TrL_one (Tr_loop' (c := innerC c24_5_0) (σ := Int × Int) (enc := (fun (s : Int × Int) (E : Env) => E 3 = .int .i64 s.1 /\ E 5 = .int .i64 s.2)) (D := (fun E K => dInt .i64 (E 3) fun n3 => dInt .i64 (E 5) fun n5 => K (n3, n5))) (F := (fun (J1 : (Int × Int) -> World -> Prop) (s : Int × Int) (w : World) => F24_2 R J1 p1 s.1 s.2 ds w)) (s0 := (n3, n5)) (by kernel_rfl) c24_5_0_l ⟨e3, e5⟩ (by kernel_rfl) (fun E K hD => by obtain ⟨n3, e3, hD⟩ := dInt_elim hD; obtain ⟨n5, e5, hD⟩ := dInt_elim hD; exact ⟨(n3, n5), ⟨e3, e5⟩, hD⟩)
      (fun J1 s E' w' he ha hF => by
      obtain ⟨e3', e5'⟩ := he
      exact F24_2_ok R J1 p1 s.1 s.2 ds w' E' ((ha 1 (by kernel_rfl)).trans e1) e3' e5' hF) h)
theorem F24_4_ok (R : Rt) (p1 : Option Addr) (n3 n5 : Int) (ds : Ds) (w : World) (E : Env) (e1 : E 1 = .pointer p1) (e3 : E 3 = .int .i64 n3) (e5 : E 5 = .int .i64 n5) (h : F24_4 R p1 n3 n5 ds w) :
    TrL prog f24.ntmps [c24_5, c24_6, c24_7] (F24_q1 R) E ds w :=
  TrL_head (K := (F24_k2 R)) (Tr_block' (c := innerC c24_5) (by kernel_rfl) c24_5_l (F24_3_ok R p1 n3 n5 ds w E e1 e3 e5 h))
    (fun E' ds' w' hD => by
      obtain ⟨n3, e3, hD⟩ := dInt_elim hD; exact F24_1_ok R n3 ds' w' E' e3 hD)
theorem F24_5_ok (R : Rt) (p1 : Option Addr) (n3 : Int) (ds : Ds) (w : World) (E : Env) (e1 : E 1 = .pointer p1) (e3 : E 3 = .int .i64 n3) (h : F24_5 R p1 n3 ds w) :
    TrL prog f24.ntmps [c24_4, c24_5, c24_6, c24_7] (F24_q1 R) E ds w :=
  TrL_piece (pre := [c24_4]) (K := (F24_k6 R)) (X := F24_5 R p1 n3 ds w) (setAll_cons e1 (setAll_cons e3 setAll_nil)) (by kernel_rfl) (by kernel_rfl)
    (fun E' ds' w' hD => by
      obtain ⟨p1, e1, hD⟩ := dPtr_elim hD; obtain ⟨n3, e3, hD⟩ := dInt_elim hD; obtain ⟨n5, e5, hD⟩ := dInt_elim hD; exact F24_4_ok R p1 n3 n5 ds' w' E' e1 e3 e5 hD) h
theorem F24_6_ok (R : Rt) (J1 : (Int × Int) -> World -> Prop) (p1 : Option Addr) (n3 n4 : Int) (ds : Ds) (w : World) (E : Env) (e1 : E 1 = .pointer p1) (e3 : E 3 = .int .i64 n3) (e4 : E 4 = .int .i64 n4) (h : F24_6 R J1 p1 n3 n4 ds w) :
    TrL prog f24.ntmps [c24_3_0_0, c24_3_0_1, c24_3_0_2, c24_3_0_3] (F24_q10 R J1) E ds w :=
  TrL_leaf (X := F24_6 R J1 p1 n3 n4 ds w) (setAll_cons e1 (setAll_cons e3 (setAll_cons e4 setAll_nil))) (by kernel_rfl) (by kernel_rfl) h
theorem F24_7_ok (R : Rt) (p1 : Option Addr) (n3 n4 : Int) (ds : Ds) (w : World) (E : Env) (e1 : E 1 = .pointer p1) (e3 : E 3 = .int .i64 n3) (e4 : E 4 = .int .i64 n4) (h : F24_7 R p1 n3 n4 ds w) :
    TrL prog f24.ntmps [c24_3_0] (F24_q9 R) E ds w :=
  TrL_one (Tr_loop' (c := innerC c24_3_0) (σ := Int × Int) (enc := (fun (s : Int × Int) (E : Env) => E 3 = .int .i64 s.1 /\ E 4 = .int .i64 s.2)) (D := (fun E K => dInt .i64 (E 3) fun n3 => dInt .i64 (E 4) fun n4 => K (n3, n4))) (F := (fun (J1 : (Int × Int) -> World -> Prop) (s : Int × Int) (w : World) => F24_6 R J1 p1 s.1 s.2 ds w)) (s0 := (n3, n4)) (by kernel_rfl) c24_3_0_l ⟨e3, e4⟩ (by kernel_rfl) (fun E K hD => by obtain ⟨n3, e3, hD⟩ := dInt_elim hD; obtain ⟨n4, e4, hD⟩ := dInt_elim hD; exact ⟨(n3, n4), ⟨e3, e4⟩, hD⟩)
      (fun J1 s E' w' he ha hF => by
      obtain ⟨e3', e4'⟩ := he
      exact F24_6_ok R J1 p1 s.1 s.2 ds w' E' ((ha 1 (by kernel_rfl)).trans e1) e3' e4' hF) h)
theorem F24_8_ok (R : Rt) (p1 : Option Addr) (n3 n4 : Int) (ds : Ds) (w : World) (E : Env) (e1 : E 1 = .pointer p1) (e3 : E 3 = .int .i64 n3) (e4 : E 4 = .int .i64 n4) (h : F24_8 R p1 n3 n4 ds w) :
    TrL prog f24.ntmps [c24_3, c24_4, c24_5, c24_6, c24_7] (F24_q1 R) E ds w :=
  TrL_head (K := (F24_k7 R)) (Tr_block' (c := innerC c24_3) (by kernel_rfl) c24_3_l (F24_7_ok R p1 n3 n4 ds w E e1 e3 e4 h))
    (fun E' ds' w' hD => by
      obtain ⟨p1, e1, hD⟩ := dPtr_elim hD; obtain ⟨n3, e3, hD⟩ := dInt_elim hD; exact F24_5_ok R p1 n3 ds' w' E' e1 e3 hD)
theorem F24_9_ok (R : Rt) (n0_0 : Int) (l0_1 l0_2 : SV) (ds : Ds) (w : World) (E : Env) (e0 : E 0 = .agg #[.int .i64 n0_0, .slice l0_1.a l0_1.len l0_1.cap, .slice l0_2.a l0_2.len l0_2.cap]) (h : F24_9 R n0_0 l0_1 l0_2 ds w) :
    TrL prog f24.ntmps [c24_0, c24_1, c24_2, c24_3, c24_4, c24_5, c24_6, c24_7] (F24_q1 R) E ds w :=
  TrL_piece (pre := [c24_0, c24_1, c24_2]) (K := (F24_k11 R)) (X := F24_9 R n0_0 l0_1 l0_2 ds w) (setAll_cons e0 setAll_nil) (by kernel_rfl) (by kernel_rfl)
    (fun E' ds' w' hD => by
      obtain ⟨p1, e1, hD⟩ := dPtr_elim hD; obtain ⟨n3, e3, hD⟩ := dInt_elim hD; obtain ⟨n4, e4, hD⟩ := dInt_elim hD; exact F24_8_ok R p1 n3 n4 ds' w' E' e1 e3 e4 hD) h
theorem F24_calls (n0_0 : Int) (l0_1 l0_2 : SV) (w : World) (R : Rt) (h : F24_9 R n0_0 l0_1 l0_2 [] w) : Calls prog 24 #[.agg #[.int .i64 n0_0, .slice l0_1.a l0_1.len l0_1.cap, .slice l0_2.a l0_2.len l0_2.cap]] w R :=
  calls_of_L (l := [c24_0, c24_1, c24_2, c24_3, c24_4, c24_5, c24_6, c24_7]) func24 (by kernel_rfl) (by rw [ntmps24]; exact Nat.le_of_ble_eq_true (by kernel_rfl)) c24_l
    (F24_9_ok R n0_0 l0_1 l0_2 [] w _ rfl h)
noncomputable def c64_0 := cI15 f64 0
noncomputable def c64_1 := cI15 f64 1
noncomputable def c64_2 := cI15 f64 2
noncomputable def c64_3 := cI15 f64 3
noncomputable def c64_4 := cI15 f64 4
noncomputable def c64_5 := cI15 f64 5
noncomputable def c64_3_0 := cJ15 c64_3 0
noncomputable def c64_3_0_0 := cJ15 c64_3_0 0
noncomputable def c64_3_0_1 := cJ15 c64_3_0 1
noncomputable def c64_3_0_2 := cJ15 c64_3_0 2
noncomputable def c64_3_0_3 := cJ15 c64_3_0 3
def F64_q1 (R : Rt) : EQ := endQ prog f64.results.toList R
def F64_1 (R : Rt) (n3 : Int) (ds : Ds) (w : World) : Prop :=
 runD prog ds w fun w1 =>
 R (.returned (.int .i64 n3)) w1
def F64_k2 (R : Rt) : EP := (fun E ds w => dInt .i64 (E 3) fun n3 => F64_1 R n3 ds w)
def F64_q3 (R : Rt) : EQ := (thenQ (F64_k2 R) (F64_q1 R))
def F64_q4 (R : Rt) : EQ := (blockQ 0 (F64_q3 R))
def F64_q5 (R : Rt) (J1 : (Int × Int) -> World -> Prop) : EQ := (thenQ (fun E _ w => dInt .i64 (E 3) fun n3 => dInt .i64 (E 4) fun n4 => J1 (n3, n4) w) (F64_q4 R))
def F64_2 (R : Rt) (J1 : (Int × Int) -> World -> Prop) (l0 : SV) (n3 n4 : Int) (ds : Ds) (w : World) : Prop :=
 Br (decide (n4 < (l0.len : Int))) (
 ∃ a2 : Addr, l0.a = some a2 /\ 0 ≤ n4 /\ n4 < (l0.len : Int) /\
 ∃ s19 : ByteArray, w.cell? ((a2.add (n4.toNat * 3)).add 2) = some (.string s19) /\
 J1 ((IntKind.i64.wrap (n3 + (s19.size : Int))), (IntKind.i64.wrap (n4 + 1))) w) (
 F64_1 R n3 ds w)
def F64_3 (R : Rt) (l0 : SV) (n3 n4 : Int) (ds : Ds) (w : World) : Prop :=
 loopT (fun (J1 : (Int × Int) -> World -> Prop) (s : Int × Int) (w : World) => F64_2 R J1 l0 s.1 s.2 ds w) (n3, n4) w
abbrev F64_4 (R : Rt) (l0 : SV) (n3 n4 : Int) (ds : Ds) (w : World) : Prop := F64_3 R l0 n3 n4 ds w
def F64_k6 (R : Rt) : EP := (fun E ds w => dSl (E 0) fun l0 => dInt .i64 (E 3) fun n3 => dInt .i64 (E 4) fun n4 => F64_4 R l0 n3 n4 ds w)
def F64_5 (R : Rt) (l0 : SV) (ds : Ds) (w : World) : Prop :=
 F64_4 R l0 (IntKind.i64.wrap ((8 : Int) * (l0.len : Int))) 0 ds w
theorem c64_l : flat (bodyOf f64) = [c64_0, c64_1, c64_2, c64_3, c64_4, c64_5] := by kernel_rfl
theorem c64_3_l : flat (innerC c64_3) = [c64_3_0] := by kernel_rfl
theorem c64_3_0_l : flat (innerC c64_3_0) = [c64_3_0_0, c64_3_0_1, c64_3_0_2, c64_3_0_3] := by kernel_rfl
theorem F64_1_ok (R : Rt) (n3 : Int) (ds : Ds) (w : World) (E : Env) (e3 : E 3 = .int .i64 n3) (h : F64_1 R n3 ds w) :
    TrL prog f64.ntmps [c64_4, c64_5] (F64_q1 R) E ds w :=
  TrL_leaf (X := F64_1 R n3 ds w) (setAll_cons e3 setAll_nil) (by kernel_rfl) (by kernel_rfl) h
theorem F64_2_ok (R : Rt) (J1 : (Int × Int) -> World -> Prop) (l0 : SV) (n3 n4 : Int) (ds : Ds) (w : World) (E : Env) (e0 : E 0 = .slice l0.a l0.len l0.cap) (e3 : E 3 = .int .i64 n3) (e4 : E 4 = .int .i64 n4) (h : F64_2 R J1 l0 n3 n4 ds w) :
    TrL prog f64.ntmps [c64_3_0_0, c64_3_0_1, c64_3_0_2, c64_3_0_3] (F64_q5 R J1) E ds w :=
  TrL_leaf (X := F64_2 R J1 l0 n3 n4 ds w) (setAll_cons e0 (setAll_cons e3 (setAll_cons e4 setAll_nil))) (by kernel_rfl) (by kernel_rfl) h
theorem F64_3_ok (R : Rt) (l0 : SV) (n3 n4 : Int) (ds : Ds) (w : World) (E : Env) (e0 : E 0 = .slice l0.a l0.len l0.cap) (e3 : E 3 = .int .i64 n3) (e4 : E 4 = .int .i64 n4) (h : F64_3 R l0 n3 n4 ds w) :
    TrL prog f64.ntmps [c64_3_0] (F64_q4 R) E ds w :=
  TrL_one (Tr_loop' (c := innerC c64_3_0) (σ := Int × Int) (enc := (fun (s : Int × Int) (E : Env) => E 3 = .int .i64 s.1 /\ E 4 = .int .i64 s.2)) (D := (fun E K => dInt .i64 (E 3) fun n3 => dInt .i64 (E 4) fun n4 => K (n3, n4))) (F := (fun (J1 : (Int × Int) -> World -> Prop) (s : Int × Int) (w : World) => F64_2 R J1 l0 s.1 s.2 ds w)) (s0 := (n3, n4)) (by kernel_rfl) c64_3_0_l ⟨e3, e4⟩ (by kernel_rfl) (fun E K hD => by obtain ⟨n3, e3, hD⟩ := dInt_elim hD; obtain ⟨n4, e4, hD⟩ := dInt_elim hD; exact ⟨(n3, n4), ⟨e3, e4⟩, hD⟩)
      (fun J1 s E' w' he ha hF => by
      obtain ⟨e3', e4'⟩ := he
      exact F64_2_ok R J1 l0 s.1 s.2 ds w' E' ((ha 0 (by kernel_rfl)).trans e0) e3' e4' hF) h)
theorem F64_4_ok (R : Rt) (l0 : SV) (n3 n4 : Int) (ds : Ds) (w : World) (E : Env) (e0 : E 0 = .slice l0.a l0.len l0.cap) (e3 : E 3 = .int .i64 n3) (e4 : E 4 = .int .i64 n4) (h : F64_4 R l0 n3 n4 ds w) :
    TrL prog f64.ntmps [c64_3, c64_4, c64_5] (F64_q1 R) E ds w :=
  TrL_head (K := (F64_k2 R)) (Tr_block' (c := innerC c64_3) (by kernel_rfl) c64_3_l (F64_3_ok R l0 n3 n4 ds w E e0 e3 e4 h))
    (fun E' ds' w' hD => by
      obtain ⟨n3, e3, hD⟩ := dInt_elim hD; exact F64_1_ok R n3 ds' w' E' e3 hD)
theorem F64_5_ok (R : Rt) (l0 : SV) (ds : Ds) (w : World) (E : Env) (e0 : E 0 = .slice l0.a l0.len l0.cap) (h : F64_5 R l0 ds w) :
    TrL prog f64.ntmps [c64_0, c64_1, c64_2, c64_3, c64_4, c64_5] (F64_q1 R) E ds w :=
  TrL_piece (pre := [c64_0, c64_1, c64_2]) (K := (F64_k6 R)) (X := F64_5 R l0 ds w) (setAll_cons e0 setAll_nil) (by kernel_rfl) (by kernel_rfl)
    (fun E' ds' w' hD => by
      obtain ⟨l0, e0, hD⟩ := dSl_elim hD; obtain ⟨n3, e3, hD⟩ := dInt_elim hD; obtain ⟨n4, e4, hD⟩ := dInt_elim hD; exact F64_4_ok R l0 n3 n4 ds' w' E' e0 e3 e4 hD) h
theorem F64_calls (l0 : SV) (w : World) (R : Rt) (h : F64_5 R l0 [] w) : Calls prog 64 #[.slice l0.a l0.len l0.cap] w R :=
  calls_of_L (l := [c64_0, c64_1, c64_2, c64_3, c64_4, c64_5]) func64 (by kernel_rfl) (by rw [ntmps64]; exact Nat.le_of_ble_eq_true (by kernel_rfl)) c64_l
    (F64_5_ok R l0 [] w _ rfl h)
end Go.Proofs.YtecmfdfhpldmmaaGreatDoor

/- Shallow texts of functions, printed by program, each checked by the kernel against the loaded code. No condition. -/
set_option maxRecDepth 100000
set_option linter.unusedVariables false
namespace Go.Proofs.YtecmfdfhpldmmaaGreatDoor
open Go.Sh
open Tryz
end Go.Proofs.YtecmfdfhpldmmaaGreatDoor

/- Shallow texts of functions, printed by program, each checked by the kernel against the loaded code. No condition. -/
set_option maxRecDepth 100000
set_option linter.unusedVariables false
namespace Go.Proofs.YtecmfdfhpldmmaaGreatDoor
open Go.Sh
open Tryz
end Go.Proofs.YtecmfdfhpldmmaaGreatDoor

/- Shallow texts of functions, printed by program, each checked by the kernel against the loaded code. No condition. -/
set_option maxRecDepth 100000
set_option linter.unusedVariables false
namespace Go.Proofs.YtecmfdfhpldmmaaGreatDoor
open Go.Sh
open Tryz
end Go.Proofs.YtecmfdfhpldmmaaGreatDoor

/- Shallow texts of functions, printed by program, each checked by the kernel against the loaded code. No condition. -/
set_option maxRecDepth 100000
set_option linter.unusedVariables false
namespace Go.Proofs.YtecmfdfhpldmmaaGreatDoor
open Go.Sh
open Tryz
@[reducible] noncomputable def cI19 (f : Func) (i : Nat) : Code := itemAt (flat (bodyOf f)) i
noncomputable def c125_0 := cI19 f125 0
noncomputable def c125_1 := cI19 f125 1
noncomputable def c125_2 := cI19 f125 2
def F125_q1 (R : Rt) : EQ := endQ prog f125.results.toList R
def F125_1 (R : Rt) (s0_0 : ByteArray) (n0_1 n0_2 : Int) (b0_3 : Bool) (n1_0 n1_1 : Int) (s1_2 : ByteArray) (ds : Ds) (w : World) : Prop :=
 alE (.cells #[.string s0_0, .int .i64 n0_1, .int .i64 n0_2, .bool b0_3] 23) w fun r2 w1 =>
 alE (.cells #[.int .i64 n1_0, .int .i64 n1_1, .string s1_2] 25) w1 fun r3 w2 =>
 ∃ n6 : Int, w2.cell? ((⟨r3, 0, none⟩ : Addr).add 1) = some (.int .i64 n6) /\
 ∃ n8 : Int, w2.cell? ((⟨r3, 0, none⟩ : Addr).add 1) = some (.int .i64 n8) /\
 0 ≤ (IntKind.i64.wrap (n8 + 1)) /\ (IntKind.i64.wrap (n8 + 1)).toNat ≤ (⟨#[70, 84]⟩ : ByteArray).size /\ 0 ≤ n6 /\ n6.toNat ≤ (IntKind.i64.wrap (n8 + 1)).toNat /\
 runD prog ds w2 fun w3 =>
 R (.returned (.string ((⟨#[70, 84]⟩ : ByteArray).extract n6.toNat ((IntKind.i64.wrap (n8 + 1)).toNat)))) w3
theorem c125_l : flat (bodyOf f125) = [c125_0, c125_1, c125_2] := by kernel_rfl
theorem F125_1_ok (R : Rt) (s0_0 : ByteArray) (n0_1 n0_2 : Int) (b0_3 : Bool) (n1_0 n1_1 : Int) (s1_2 : ByteArray) (ds : Ds) (w : World) (E : Env) (e0 : E 0 = .agg #[.string s0_0, .int .i64 n0_1, .int .i64 n0_2, .bool b0_3]) (e1 : E 1 = .agg #[.int .i64 n1_0, .int .i64 n1_1, .string s1_2]) (h : F125_1 R s0_0 n0_1 n0_2 b0_3 n1_0 n1_1 s1_2 ds w) :
    TrL prog f125.ntmps [c125_0, c125_1, c125_2] (F125_q1 R) E ds w :=
  TrL_leaf (X := F125_1 R s0_0 n0_1 n0_2 b0_3 n1_0 n1_1 s1_2 ds w) (setAll_cons e0 (setAll_cons e1 setAll_nil)) (by kernel_rfl) (by kernel_rfl) h
theorem F125_calls (s0_0 : ByteArray) (n0_1 n0_2 : Int) (b0_3 : Bool) (n1_0 n1_1 : Int) (s1_2 : ByteArray) (w : World) (R : Rt) (h : F125_1 R s0_0 n0_1 n0_2 b0_3 n1_0 n1_1 s1_2 [] w) : Calls prog 125 #[.agg #[.string s0_0, .int .i64 n0_1, .int .i64 n0_2, .bool b0_3], .agg #[.int .i64 n1_0, .int .i64 n1_1, .string s1_2]] w R :=
  calls_of_L (l := [c125_0, c125_1, c125_2]) func125 (by kernel_rfl) (by rw [ntmps125]; exact Nat.le_of_ble_eq_true (by kernel_rfl)) c125_l
    (F125_1_ok R s0_0 n0_1 n0_2 b0_3 n1_0 n1_1 s1_2 [] w _ rfl rfl h)
noncomputable def c127_0 := cI19 f127 0
noncomputable def c127_1 := cI19 f127 1
noncomputable def c127_2 := cI19 f127 2
noncomputable def c127_3 := cI19 f127 3
def F127_q1 (R : Rt) : EQ := endQ prog f127.results.toList R
def F127_1 (R : Rt) (s0_0 : ByteArray) (n0_1 n0_2 : Int) (b0_3 : Bool) (n1_0 n1_1 : Int) (s1_2 : ByteArray) (ds : Ds) (w : World) : Prop :=
 alE (.cells #[.string s0_0, .int .i64 n0_1, .int .i64 n0_2, .bool b0_3] 23) w fun r2 w1 =>
 alE (.cells #[.int .i64 n1_0, .int .i64 n1_1, .string s1_2] 25) w1 fun r3 w2 =>
 ∃ n9 : Int, w2.cell? ((⟨r3, 0, none⟩ : Addr).add 1) = some (.int .i64 n9) /\
 ∃ n11 : Int, w2.cell? ((⟨r2, 0, none⟩ : Addr).add 2) = some (.int .i64 n11) /\
 Calls prog 53 #[.int .i64 n9, .int .i64 n11] w2 fun e w3 =>
 ∃ s12_0 : ByteArray, ∃ n12_1 : Int, e = .returned (.tuple #[.string s12_0, .int .i64 n12_1]) /\
 runD prog ds w3 fun w4 =>
 R (.returned (.string s12_0)) w4
theorem c127_l : flat (bodyOf f127) = [c127_0, c127_1, c127_2, c127_3] := by kernel_rfl
theorem F127_1_ok (R : Rt) (s0_0 : ByteArray) (n0_1 n0_2 : Int) (b0_3 : Bool) (n1_0 n1_1 : Int) (s1_2 : ByteArray) (ds : Ds) (w : World) (E : Env) (e0 : E 0 = .agg #[.string s0_0, .int .i64 n0_1, .int .i64 n0_2, .bool b0_3]) (e1 : E 1 = .agg #[.int .i64 n1_0, .int .i64 n1_1, .string s1_2]) (h : F127_1 R s0_0 n0_1 n0_2 b0_3 n1_0 n1_1 s1_2 ds w) :
    TrL prog f127.ntmps [c127_0, c127_1, c127_2, c127_3] (F127_q1 R) E ds w :=
  TrL_leaf (X := F127_1 R s0_0 n0_1 n0_2 b0_3 n1_0 n1_1 s1_2 ds w) (setAll_cons e0 (setAll_cons e1 setAll_nil)) (by kernel_rfl) (by kernel_rfl) h
theorem F127_calls (s0_0 : ByteArray) (n0_1 n0_2 : Int) (b0_3 : Bool) (n1_0 n1_1 : Int) (s1_2 : ByteArray) (w : World) (R : Rt) (h : F127_1 R s0_0 n0_1 n0_2 b0_3 n1_0 n1_1 s1_2 [] w) : Calls prog 127 #[.agg #[.string s0_0, .int .i64 n0_1, .int .i64 n0_2, .bool b0_3], .agg #[.int .i64 n1_0, .int .i64 n1_1, .string s1_2]] w R :=
  calls_of_L (l := [c127_0, c127_1, c127_2, c127_3]) func127 (by kernel_rfl) (by rw [ntmps127]; exact Nat.le_of_ble_eq_true (by kernel_rfl)) c127_l
    (F127_1_ok R s0_0 n0_1 n0_2 b0_3 n1_0 n1_1 s1_2 [] w _ rfl rfl h)
noncomputable def c129_0 := cI19 f129 0
noncomputable def c129_1 := cI19 f129 1
noncomputable def c129_2 := cI19 f129 2
noncomputable def c129_3 := cI19 f129 3
def F129_q1 (R : Rt) : EQ := endQ prog f129.results.toList R
def F129_1 (R : Rt) (s0_0 : ByteArray) (n0_1 n0_2 : Int) (b0_3 : Bool) (n1_0 n1_1 : Int) (s1_2 : ByteArray) (ds : Ds) (w : World) : Prop :=
 alE (.cells #[.string s0_0, .int .i64 n0_1, .int .i64 n0_2, .bool b0_3] 23) w fun r2 w1 =>
 alE (.cells #[.int .i64 n1_0, .int .i64 n1_1, .string s1_2] 25) w1 fun r3 w2 =>
 ∃ n9 : Int, w2.cell? ((⟨r3, 0, none⟩ : Addr).add 1) = some (.int .i64 n9) /\
 Calls prog 156 #[.int .i64 n9] w2 fun e w3 =>
 ∃ s10_0 : ByteArray, ∃ n10_1 : Int, e = .returned (.tuple #[.string s10_0, .int .i64 n10_1]) /\
 runD prog ds w3 fun w4 =>
 R (.returned (.string s10_0)) w4
theorem c129_l : flat (bodyOf f129) = [c129_0, c129_1, c129_2, c129_3] := by kernel_rfl
theorem F129_1_ok (R : Rt) (s0_0 : ByteArray) (n0_1 n0_2 : Int) (b0_3 : Bool) (n1_0 n1_1 : Int) (s1_2 : ByteArray) (ds : Ds) (w : World) (E : Env) (e0 : E 0 = .agg #[.string s0_0, .int .i64 n0_1, .int .i64 n0_2, .bool b0_3]) (e1 : E 1 = .agg #[.int .i64 n1_0, .int .i64 n1_1, .string s1_2]) (h : F129_1 R s0_0 n0_1 n0_2 b0_3 n1_0 n1_1 s1_2 ds w) :
    TrL prog f129.ntmps [c129_0, c129_1, c129_2, c129_3] (F129_q1 R) E ds w :=
  TrL_leaf (X := F129_1 R s0_0 n0_1 n0_2 b0_3 n1_0 n1_1 s1_2 ds w) (setAll_cons e0 (setAll_cons e1 setAll_nil)) (by kernel_rfl) (by kernel_rfl) h
theorem F129_calls (s0_0 : ByteArray) (n0_1 n0_2 : Int) (b0_3 : Bool) (n1_0 n1_1 : Int) (s1_2 : ByteArray) (w : World) (R : Rt) (h : F129_1 R s0_0 n0_1 n0_2 b0_3 n1_0 n1_1 s1_2 [] w) : Calls prog 129 #[.agg #[.string s0_0, .int .i64 n0_1, .int .i64 n0_2, .bool b0_3], .agg #[.int .i64 n1_0, .int .i64 n1_1, .string s1_2]] w R :=
  calls_of_L (l := [c129_0, c129_1, c129_2, c129_3]) func129 (by kernel_rfl) (by rw [ntmps129]; exact Nat.le_of_ble_eq_true (by kernel_rfl)) c129_l
    (F129_1_ok R s0_0 n0_1 n0_2 b0_3 n1_0 n1_1 s1_2 [] w _ rfl rfl h)
noncomputable def c133_0 := cI19 f133 0
noncomputable def c133_1 := cI19 f133 1
noncomputable def c133_2 := cI19 f133 2
noncomputable def c133_3 := cI19 f133 3
noncomputable def c133_4 := cI19 f133 4
def F133_q1 (R : Rt) : EQ := endQ prog f133.results.toList R
def F133_1 (R : Rt) (s0_0 : ByteArray) (n0_1 n0_2 : Int) (b0_3 : Bool) (n1_0 n1_1 : Int) (s1_2 : ByteArray) (ds : Ds) (w : World) : Prop :=
 alE (.cells #[.string s0_0, .int .i64 n0_1, .int .i64 n0_2, .bool b0_3] 23) w fun r2 w1 =>
 alE (.cells #[.int .i64 n1_0, .int .i64 n1_1, .string s1_2] 25) w1 fun r3 w2 =>
 ∃ n6 : Int, w2.cell? ((⟨r3, 0, none⟩ : Addr).add 1) = some (.int .i64 n6) /\
 Br (n6 == 0) (
 ∃ n9 : Int, w2.cell? ((⟨r2, 0, none⟩ : Addr).add 2) = some (.int .i64 n9) /\
 Calls prog 99 #[.string (⟨#[32]⟩ : ByteArray), .int .i64 n9] w2 fun e w3 =>
 ∃ s10 : ByteArray, e = .returned (.string s10) /\
 runD prog ds w3 fun w4 =>
 R (.returned (.string s10)) w4) (
 ∃ s11_0 : ByteArray, w2.cell? ((⟨r2, 0, none⟩ : Addr).add 0) = some (.string s11_0) /\
 ∃ n11_1 : Int, w2.cell? ((⟨r2, 0, none⟩ : Addr).add 1) = some (.int .i64 n11_1) /\
 ∃ n11_2 : Int, w2.cell? ((⟨r2, 0, none⟩ : Addr).add 2) = some (.int .i64 n11_2) /\
 ∃ b11_3 : Bool, w2.cell? ((⟨r2, 0, none⟩ : Addr).add 3) = some (.bool b11_3) /\
 ∃ n12_0 : Int, w2.cell? ((⟨r3, 0, none⟩ : Addr).add 0) = some (.int .i64 n12_0) /\
 ∃ n12_1 : Int, w2.cell? ((⟨r3, 0, none⟩ : Addr).add 1) = some (.int .i64 n12_1) /\
 ∃ s12_2 : ByteArray, w2.cell? ((⟨r3, 0, none⟩ : Addr).add 2) = some (.string s12_2) /\
 Calls prog 127 #[.agg #[.string s11_0, .int .i64 n11_1, .int .i64 n11_2, .bool b11_3], .agg #[.int .i64 n12_0, .int .i64 n12_1, .string s12_2]] w2 fun e w5 =>
 ∃ s13 : ByteArray, e = .returned (.string s13) /\
 runD prog ds w5 fun w6 =>
 R (.returned (.string s13)) w6)
theorem c133_l : flat (bodyOf f133) = [c133_0, c133_1, c133_2, c133_3, c133_4] := by kernel_rfl
theorem F133_1_ok (R : Rt) (s0_0 : ByteArray) (n0_1 n0_2 : Int) (b0_3 : Bool) (n1_0 n1_1 : Int) (s1_2 : ByteArray) (ds : Ds) (w : World) (E : Env) (e0 : E 0 = .agg #[.string s0_0, .int .i64 n0_1, .int .i64 n0_2, .bool b0_3]) (e1 : E 1 = .agg #[.int .i64 n1_0, .int .i64 n1_1, .string s1_2]) (h : F133_1 R s0_0 n0_1 n0_2 b0_3 n1_0 n1_1 s1_2 ds w) :
    TrL prog f133.ntmps [c133_0, c133_1, c133_2, c133_3, c133_4] (F133_q1 R) E ds w :=
  TrL_leaf (X := F133_1 R s0_0 n0_1 n0_2 b0_3 n1_0 n1_1 s1_2 ds w) (setAll_cons e0 (setAll_cons e1 setAll_nil)) (by kernel_rfl) (by kernel_rfl) h
theorem F133_calls (s0_0 : ByteArray) (n0_1 n0_2 : Int) (b0_3 : Bool) (n1_0 n1_1 : Int) (s1_2 : ByteArray) (w : World) (R : Rt) (h : F133_1 R s0_0 n0_1 n0_2 b0_3 n1_0 n1_1 s1_2 [] w) : Calls prog 133 #[.agg #[.string s0_0, .int .i64 n0_1, .int .i64 n0_2, .bool b0_3], .agg #[.int .i64 n1_0, .int .i64 n1_1, .string s1_2]] w R :=
  calls_of_L (l := [c133_0, c133_1, c133_2, c133_3, c133_4]) func133 (by kernel_rfl) (by rw [ntmps133]; exact Nat.le_of_ble_eq_true (by kernel_rfl)) c133_l
    (F133_1_ok R s0_0 n0_1 n0_2 b0_3 n1_0 n1_1 s1_2 [] w _ rfl rfl h)
end Go.Proofs.YtecmfdfhpldmmaaGreatDoor

/- Shallow texts of functions, printed by program, each checked by the kernel against the loaded code. No condition. -/
set_option maxRecDepth 100000
set_option linter.unusedVariables false
namespace Go.Proofs.YtecmfdfhpldmmaaGreatDoor
open Go.Sh
open Tryz
@[reducible] noncomputable def cI20 (f : Func) (i : Nat) : Code := itemAt (flat (bodyOf f)) i
@[reducible] noncomputable def cJ20 (c : Code) (i : Nat) : Code := itemAt (flat (innerC c)) i
noncomputable def c59_0 := cI20 f59 0
noncomputable def c59_1 := cI20 f59 1
noncomputable def c59_2 := cI20 f59 2
noncomputable def c59_3 := cI20 f59 3
noncomputable def c59_4 := cI20 f59 4
noncomputable def c59_5 := cI20 f59 5
noncomputable def c59_3_0 := cJ20 c59_3 0
noncomputable def c59_3_0_0 := cJ20 c59_3_0 0
noncomputable def c59_3_0_1 := cJ20 c59_3_0 1
noncomputable def c59_3_0_2 := cJ20 c59_3_0 2
noncomputable def c59_3_0_3 := cJ20 c59_3_0 3
def F59_q1 (R : Rt) : EQ := endQ prog f59.results.toList R
def F59_1 (R : Rt) (l3 : SV) (ds : Ds) (w : World) : Prop :=
 alE (.cells #[.int .u8 26] 5) w fun r23 w1 =>
 ∃ l24 : SV, ∃ w2 : World, (Builtin.append_ #[37, 37] 37 #[.slice l3.a l3.len l3.cap, .slice (some ⟨r23, 0, none⟩) 1 1]).run prog w1 = .ok (.slice l24.a l24.len l24.cap) w2 /\
 runD prog ds w2 fun w3 =>
 R (.returned (.slice l24.a l24.len l24.cap)) w3
def F59_k2 (R : Rt) : EP := (fun E ds w => dSl (E 3) fun l3 => F59_1 R l3 ds w)
def F59_q3 (R : Rt) : EQ := (thenQ (F59_k2 R) (F59_q1 R))
def F59_q4 (R : Rt) : EQ := (blockQ 0 (F59_q3 R))
def F59_q5 (R : Rt) (J1 : (SV × Int) -> World -> Prop) : EQ := (thenQ (fun E _ w => dSl (E 3) fun l3 => dInt .i64 (E 11) fun n11 => J1 (l3, n11) w) (F59_q4 R))
def F59_2 (R : Rt) (J1 : (SV × Int) -> World -> Prop) (p1 : Option Addr) (l3 l9 : SV) (n10 n11 : Int) (ds : Ds) (w : World) : Prop :=
 Br (decide (n11 < n10)) (
 ∃ a4 : Addr, l9.a = some a4 /\ 0 ≤ n11 /\ n11 < (l9.len : Int) /\
 ∃ b14_0 : Bool, w.cell? ((a4.add (n11.toNat * 2)).add 0) = some (.bool b14_0) /\
 ∃ l14_1 : SV, w.cell? ((a4.add (n11.toNat * 2)).add 1) = some (.slice l14_1.a l14_1.len l14_1.cap) /\
 alE (.cells #[.bool false, .slice none 0 0] 46) w fun r5 w5 =>
 stA prog 46 (⟨r5, 0, none⟩ : Addr) #[.bool b14_0, .slice l14_1.a l14_1.len l14_1.cap] w5 fun w6 =>
 ptrE p1 fun a7 =>
 ∃ l17 : SV, w6.cell? (a7.add 1) = some (.slice l17.a l17.len l17.cap) /\
 ∃ b18_0 : Bool, w6.cell? ((⟨r5, 0, none⟩ : Addr).add 0) = some (.bool b18_0) /\
 ∃ l18_1 : SV, w6.cell? ((⟨r5, 0, none⟩ : Addr).add 1) = some (.slice l18_1.a l18_1.len l18_1.cap) /\
 Calls prog 63 #[.slice l17.a l17.len l17.cap, .agg #[.bool b18_0, .slice l18_1.a l18_1.len l18_1.cap]] w6 fun e w8 =>
 ∃ l19 : SV, e = .returned (.slice l19.a l19.len l19.cap) /\
 ∃ l20 : SV, ∃ w9 : World, (Builtin.append_ #[37, 37] 37 #[.slice l3.a l3.len l3.cap, .slice l19.a l19.len l19.cap]).run prog w8 = .ok (.slice l20.a l20.len l20.cap) w9 /\
 J1 (l20, (IntKind.i64.wrap (n11 + 1))) w9) (
 F59_1 R l3 ds w)
def F59_3 (R : Rt) (p1 : Option Addr) (l3 l9 : SV) (n10 n11 : Int) (ds : Ds) (w : World) : Prop :=
 loopT (fun (J1 : (SV × Int) -> World -> Prop) (s : SV × Int) (w : World) => F59_2 R J1 p1 s.1 l9 n10 s.2 ds w) (l3, n11) w
abbrev F59_4 (R : Rt) (p1 : Option Addr) (l3 l9 : SV) (n10 n11 : Int) (ds : Ds) (w : World) : Prop := F59_3 R p1 l3 l9 n10 n11 ds w
def F59_k6 (R : Rt) : EP := (fun E ds w => dPtr (E 1) fun p1 => dSl (E 3) fun l3 => dSl (E 9) fun l9 => dInt .i64 (E 10) fun n10 => dInt .i64 (E 11) fun n11 => F59_4 R p1 l3 l9 n10 n11 ds w)
def F59_5 (R : Rt) (n0_0 : Int) (l0_1 l0_2 : SV) (ds : Ds) (w : World) : Prop :=
 alE (.cells #[.int .i64 n0_0, .slice l0_1.a l0_1.len l0_1.cap, .slice l0_2.a l0_2.len l0_2.cap] 35) w fun r1 w10 =>
 ∃ n6_0 : Int, w10.cell? ((⟨r1, 0, none⟩ : Addr).add 0) = some (.int .i64 n6_0) /\
 ∃ l6_1 : SV, w10.cell? ((⟨r1, 0, none⟩ : Addr).add 1) = some (.slice l6_1.a l6_1.len l6_1.cap) /\
 ∃ l6_2 : SV, w10.cell? ((⟨r1, 0, none⟩ : Addr).add 2) = some (.slice l6_2.a l6_2.len l6_2.cap) /\
 Calls prog 62 #[.agg #[.int .i64 n6_0, .slice l6_1.a l6_1.len l6_1.cap, .slice l6_2.a l6_2.len l6_2.cap]] w10 fun e w11 =>
 ∃ l7 : SV, e = .returned (.slice l7.a l7.len l7.cap) /\
 ∃ l9 : SV, w11.cell? ((⟨r1, 0, none⟩ : Addr).add 2) = some (.slice l9.a l9.len l9.cap) /\
 F59_4 R (some (⟨r1, 0, none⟩ : Addr)) l7 l9 (l9.len : Int) 0 ds w11
theorem c59_l : flat (bodyOf f59) = [c59_0, c59_1, c59_2, c59_3, c59_4, c59_5] := by kernel_rfl
theorem c59_3_l : flat (innerC c59_3) = [c59_3_0] := by kernel_rfl
theorem c59_3_0_l : flat (innerC c59_3_0) = [c59_3_0_0, c59_3_0_1, c59_3_0_2, c59_3_0_3] := by kernel_rfl
theorem F59_1_ok (R : Rt) (l3 : SV) (ds : Ds) (w : World) (E : Env) (e3 : E 3 = .slice l3.a l3.len l3.cap) (h : F59_1 R l3 ds w) :
    TrL prog f59.ntmps [c59_4, c59_5] (F59_q1 R) E ds w :=
  TrL_leaf (X := F59_1 R l3 ds w) (setAll_cons e3 setAll_nil) (by kernel_rfl) (by kernel_rfl) h
theorem F59_2_ok (R : Rt) (J1 : (SV × Int) -> World -> Prop) (p1 : Option Addr) (l3 l9 : SV) (n10 n11 : Int) (ds : Ds) (w : World) (E : Env) (e1 : E 1 = .pointer p1) (e3 : E 3 = .slice l3.a l3.len l3.cap) (e9 : E 9 = .slice l9.a l9.len l9.cap) (e10 : E 10 = .int .i64 n10) (e11 : E 11 = .int .i64 n11) (h : F59_2 R J1 p1 l3 l9 n10 n11 ds w) :
    TrL prog f59.ntmps [c59_3_0_0, c59_3_0_1, c59_3_0_2, c59_3_0_3] (F59_q5 R J1) E ds w :=
  TrL_leaf (X := F59_2 R J1 p1 l3 l9 n10 n11 ds w) (setAll_cons e1 (setAll_cons e3 (setAll_cons e9 (setAll_cons e10 (setAll_cons e11 setAll_nil))))) (by kernel_rfl) (by kernel_rfl) h
theorem F59_3_ok (R : Rt) (p1 : Option Addr) (l3 l9 : SV) (n10 n11 : Int) (ds : Ds) (w : World) (E : Env) (e1 : E 1 = .pointer p1) (e3 : E 3 = .slice l3.a l3.len l3.cap) (e9 : E 9 = .slice l9.a l9.len l9.cap) (e10 : E 10 = .int .i64 n10) (e11 : E 11 = .int .i64 n11) (h : F59_3 R p1 l3 l9 n10 n11 ds w) :
    TrL prog f59.ntmps [c59_3_0] (F59_q4 R) E ds w :=
  TrL_one (Tr_loop' (c := innerC c59_3_0) (σ := SV × Int) (enc := (fun (s : SV × Int) (E : Env) => E 3 = .slice s.1.a s.1.len s.1.cap /\ E 11 = .int .i64 s.2)) (D := (fun E K => dSl (E 3) fun l3 => dInt .i64 (E 11) fun n11 => K (l3, n11))) (F := (fun (J1 : (SV × Int) -> World -> Prop) (s : SV × Int) (w : World) => F59_2 R J1 p1 s.1 l9 n10 s.2 ds w)) (s0 := (l3, n11)) (by kernel_rfl) c59_3_0_l ⟨e3, e11⟩ (by kernel_rfl) (fun E K hD => by obtain ⟨l3, e3, hD⟩ := dSl_elim hD; obtain ⟨n11, e11, hD⟩ := dInt_elim hD; exact ⟨(l3, n11), ⟨e3, e11⟩, hD⟩)
      (fun J1 s E' w' he ha hF => by
      obtain ⟨e3', e11'⟩ := he
      exact F59_2_ok R J1 p1 s.1 l9 n10 s.2 ds w' E' ((ha 1 (by kernel_rfl)).trans e1) e3' ((ha 9 (by kernel_rfl)).trans e9) ((ha 10 (by kernel_rfl)).trans e10) e11' hF) h)
theorem F59_4_ok (R : Rt) (p1 : Option Addr) (l3 l9 : SV) (n10 n11 : Int) (ds : Ds) (w : World) (E : Env) (e1 : E 1 = .pointer p1) (e3 : E 3 = .slice l3.a l3.len l3.cap) (e9 : E 9 = .slice l9.a l9.len l9.cap) (e10 : E 10 = .int .i64 n10) (e11 : E 11 = .int .i64 n11) (h : F59_4 R p1 l3 l9 n10 n11 ds w) :
    TrL prog f59.ntmps [c59_3, c59_4, c59_5] (F59_q1 R) E ds w :=
  TrL_head (K := (F59_k2 R)) (Tr_block' (c := innerC c59_3) (by kernel_rfl) c59_3_l (F59_3_ok R p1 l3 l9 n10 n11 ds w E e1 e3 e9 e10 e11 h))
    (fun E' ds' w' hD => by
      obtain ⟨l3, e3, hD⟩ := dSl_elim hD; exact F59_1_ok R l3 ds' w' E' e3 hD)
theorem F59_5_ok (R : Rt) (n0_0 : Int) (l0_1 l0_2 : SV) (ds : Ds) (w : World) (E : Env) (e0 : E 0 = .agg #[.int .i64 n0_0, .slice l0_1.a l0_1.len l0_1.cap, .slice l0_2.a l0_2.len l0_2.cap]) (h : F59_5 R n0_0 l0_1 l0_2 ds w) :
    TrL prog f59.ntmps [c59_0, c59_1, c59_2, c59_3, c59_4, c59_5] (F59_q1 R) E ds w :=
  TrL_piece (pre := [c59_0, c59_1, c59_2]) (K := (F59_k6 R)) (X := F59_5 R n0_0 l0_1 l0_2 ds w) (setAll_cons e0 setAll_nil) (by kernel_rfl) (by kernel_rfl)
    (fun E' ds' w' hD => by
      obtain ⟨p1, e1, hD⟩ := dPtr_elim hD; obtain ⟨l3, e3, hD⟩ := dSl_elim hD; obtain ⟨l9, e9, hD⟩ := dSl_elim hD; obtain ⟨n10, e10, hD⟩ := dInt_elim hD; obtain ⟨n11, e11, hD⟩ := dInt_elim hD; exact F59_4_ok R p1 l3 l9 n10 n11 ds' w' E' e1 e3 e9 e10 e11 hD) h
theorem F59_calls (n0_0 : Int) (l0_1 l0_2 : SV) (w : World) (R : Rt) (h : F59_5 R n0_0 l0_1 l0_2 [] w) : Calls prog 59 #[.agg #[.int .i64 n0_0, .slice l0_1.a l0_1.len l0_1.cap, .slice l0_2.a l0_2.len l0_2.cap]] w R :=
  calls_of_L (l := [c59_0, c59_1, c59_2, c59_3, c59_4, c59_5]) func59 (by kernel_rfl) (by rw [ntmps59]; exact Nat.le_of_ble_eq_true (by kernel_rfl)) c59_l
    (F59_5_ok R n0_0 l0_1 l0_2 [] w _ rfl h)
noncomputable def c17_0 := cI20 f17 0
noncomputable def c17_1 := cI20 f17 1
noncomputable def c17_2 := cI20 f17 2
noncomputable def c17_3 := cI20 f17 3
noncomputable def c17_4 := cI20 f17 4
noncomputable def c17_5 := cI20 f17 5
def F17_q1 (R : Rt) : EQ := endQ prog f17.results.toList R
def F17_1 (R : Rt) (n0_0 : Int) (l0_1 l0_2 : SV) (ds : Ds) (w : World) : Prop :=
 alE (.cells #[.int .i64 n0_0, .slice l0_1.a l0_1.len l0_1.cap, .slice l0_2.a l0_2.len l0_2.cap] 35) w fun r1 w1 =>
 ∃ n5_0 : Int, w1.cell? ((⟨r1, 0, none⟩ : Addr).add 0) = some (.int .i64 n5_0) /\
 ∃ l5_1 : SV, w1.cell? ((⟨r1, 0, none⟩ : Addr).add 1) = some (.slice l5_1.a l5_1.len l5_1.cap) /\
 ∃ l5_2 : SV, w1.cell? ((⟨r1, 0, none⟩ : Addr).add 2) = some (.slice l5_2.a l5_2.len l5_2.cap) /\
 Calls prog 34 #[.agg #[.int .i64 n5_0, .slice l5_1.a l5_1.len l5_1.cap, .slice l5_2.a l5_2.len l5_2.cap]] w1 fun e w2 =>
 ∃ n6 : Int, e = .returned (.int .i64 n6) /\
 Br (n6 != 0) (
 runD prog ds w2 fun w3 =>
 R (.returned (.tuple #[.slice none 0 0, .int .i64 n6])) w3) (
 ∃ n10_0 : Int, w2.cell? ((⟨r1, 0, none⟩ : Addr).add 0) = some (.int .i64 n10_0) /\
 ∃ l10_1 : SV, w2.cell? ((⟨r1, 0, none⟩ : Addr).add 1) = some (.slice l10_1.a l10_1.len l10_1.cap) /\
 ∃ l10_2 : SV, w2.cell? ((⟨r1, 0, none⟩ : Addr).add 2) = some (.slice l10_2.a l10_2.len l10_2.cap) /\
 Calls prog 59 #[.agg #[.int .i64 n10_0, .slice l10_1.a l10_1.len l10_1.cap, .slice l10_2.a l10_2.len l10_2.cap]] w2 fun e w4 =>
 ∃ l11 : SV, e = .returned (.slice l11.a l11.len l11.cap) /\
 runD prog ds w4 fun w5 =>
 R (.returned (.tuple #[.slice l11.a l11.len l11.cap, .int .i64 0])) w5)
theorem c17_l : flat (bodyOf f17) = [c17_0, c17_1, c17_2, c17_3, c17_4, c17_5] := by kernel_rfl
theorem F17_1_ok (R : Rt) (n0_0 : Int) (l0_1 l0_2 : SV) (ds : Ds) (w : World) (E : Env) (e0 : E 0 = .agg #[.int .i64 n0_0, .slice l0_1.a l0_1.len l0_1.cap, .slice l0_2.a l0_2.len l0_2.cap]) (h : F17_1 R n0_0 l0_1 l0_2 ds w) :
    TrL prog f17.ntmps [c17_0, c17_1, c17_2, c17_3, c17_4, c17_5] (F17_q1 R) E ds w :=
  TrL_leaf (X := F17_1 R n0_0 l0_1 l0_2 ds w) (setAll_cons e0 setAll_nil) (by kernel_rfl) (by kernel_rfl) h
theorem F17_calls (n0_0 : Int) (l0_1 l0_2 : SV) (w : World) (R : Rt) (h : F17_1 R n0_0 l0_1 l0_2 [] w) : Calls prog 17 #[.agg #[.int .i64 n0_0, .slice l0_1.a l0_1.len l0_1.cap, .slice l0_2.a l0_2.len l0_2.cap]] w R :=
  calls_of_L (l := [c17_0, c17_1, c17_2, c17_3, c17_4, c17_5]) func17 (by kernel_rfl) (by rw [ntmps17]; exact Nat.le_of_ble_eq_true (by kernel_rfl)) c17_l
    (F17_1_ok R n0_0 l0_1 l0_2 [] w _ rfl h)
noncomputable def c23_0 := cI20 f23 0
noncomputable def c23_1 := cI20 f23 1
noncomputable def c23_2 := cI20 f23 2
def F23_q1 (R : Rt) : EQ := endQ prog f23.results.toList R
def F23_1 (R : Rt) (l0 l1 : SV) (ds : Ds) (w : World) : Prop :=
 ∃ s6 : ByteArray, ∃ w1 : World, (convert 37 9 (.slice l0.a l0.len l0.cap)).run prog w = .ok (.string s6) w1 /\
 ∃ s8 : ByteArray, ∃ w2 : World, (convert 37 9 (.slice l1.a l1.len l1.cap)).run prog w1 = .ok (.string s8) w2 /\
 runD prog ds w2 fun w3 =>
 R (.returned (.bool (s6.toList == s8.toList))) w3
theorem c23_l : flat (bodyOf f23) = [c23_0, c23_1, c23_2] := by kernel_rfl
theorem F23_1_ok (R : Rt) (l0 l1 : SV) (ds : Ds) (w : World) (E : Env) (e0 : E 0 = .slice l0.a l0.len l0.cap) (e1 : E 1 = .slice l1.a l1.len l1.cap) (h : F23_1 R l0 l1 ds w) :
    TrL prog f23.ntmps [c23_0, c23_1, c23_2] (F23_q1 R) E ds w :=
  TrL_leaf (X := F23_1 R l0 l1 ds w) (setAll_cons e0 (setAll_cons e1 setAll_nil)) (by kernel_rfl) (by kernel_rfl) h
theorem F23_calls (l0 l1 : SV) (w : World) (R : Rt) (h : F23_1 R l0 l1 [] w) : Calls prog 23 #[.slice l0.a l0.len l0.cap, .slice l1.a l1.len l1.cap] w R :=
  calls_of_L (l := [c23_0, c23_1, c23_2]) func23 (by kernel_rfl) (by rw [ntmps23]; exact Nat.le_of_ble_eq_true (by kernel_rfl)) c23_l
    (F23_1_ok R l0 l1 [] w _ rfl rfl h)
end Go.Proofs.YtecmfdfhpldmmaaGreatDoor

/- Shallow texts of functions, printed by program, each checked by the kernel against the loaded code. No condition. -/
set_option maxRecDepth 100000
set_option linter.unusedVariables false
namespace Go.Proofs.YtecmfdfhpldmmaaGreatDoor
open Go.Sh
open Tryz
@[reducible] noncomputable def cI21 (f : Func) (i : Nat) : Code := itemAt (flat (bodyOf f)) i
@[reducible] noncomputable def cJ21 (c : Code) (i : Nat) : Code := itemAt (flat (innerC c)) i
noncomputable def c126_0 := cI21 f126 0
noncomputable def c126_1 := cI21 f126 1
noncomputable def c126_2 := cI21 f126 2
noncomputable def c126_3 := cI21 f126 3
noncomputable def c126_4 := cI21 f126 4
noncomputable def c126_5 := cI21 f126 5
def F126_q1 (R : Rt) : EQ := endQ prog f126.results.toList R
def F126_1 (R : Rt) (s0 : ByteArray) (ds : Ds) (w : World) : Prop :=
 alE (.cells #[.int .i64 0, .int .i64 0, .string (⟨#[]⟩ : ByteArray)] 25) w fun r2 w1 =>
 alE (.cells #[.int .i64 0, .int .i64 0, .string (⟨#[]⟩ : ByteArray)] 25) w1 fun r4 w2 =>
 stA prog 25 (⟨r4, 0, none⟩ : Addr) #[.int .i64 1, .int .i64 0, .string (⟨#[]⟩ : ByteArray)] w2 fun w3 =>
 Br (s0.toList == (⟨#[84]⟩ : ByteArray).toList) (
 st1 ((⟨r4, 0, none⟩ : Addr).add 1) (.int .i64 1) w3 fun w4 =>
 ∃ n9_0 : Int, w4.cell? ((⟨r4, 0, none⟩ : Addr).add 0) = some (.int .i64 n9_0) /\
 ∃ n9_1 : Int, w4.cell? ((⟨r4, 0, none⟩ : Addr).add 1) = some (.int .i64 n9_1) /\
 ∃ s9_2 : ByteArray, w4.cell? ((⟨r4, 0, none⟩ : Addr).add 2) = some (.string s9_2) /\
 Br (s0.toList == (⟨#[84]⟩ : ByteArray).toList) (
 stA prog 25 (⟨r2, 0, none⟩ : Addr) #[.int .i64 n9_0, .int .i64 n9_1, .string s9_2] w4 fun w5 =>
 runD prog ds w5 fun w6 =>
 ∃ nR0_0 : Int, w6.cell? ((⟨r2, 0, none⟩ : Addr).add 0) = some (.int .i64 nR0_0) /\
 ∃ nR0_1 : Int, w6.cell? ((⟨r2, 0, none⟩ : Addr).add 1) = some (.int .i64 nR0_1) /\
 ∃ sR0_2 : ByteArray, w6.cell? ((⟨r2, 0, none⟩ : Addr).add 2) = some (.string sR0_2) /\
 R (.returned (.tuple #[.agg #[.int .i64 nR0_0, .int .i64 nR0_1, .string sR0_2], .bool true])) w6) (
 stA prog 25 (⟨r2, 0, none⟩ : Addr) #[.int .i64 n9_0, .int .i64 n9_1, .string s9_2] w4 fun w7 =>
 runD prog ds w7 fun w8 =>
 ∃ nR0_0 : Int, w8.cell? ((⟨r2, 0, none⟩ : Addr).add 0) = some (.int .i64 nR0_0) /\
 ∃ nR0_1 : Int, w8.cell? ((⟨r2, 0, none⟩ : Addr).add 1) = some (.int .i64 nR0_1) /\
 ∃ sR0_2 : ByteArray, w8.cell? ((⟨r2, 0, none⟩ : Addr).add 2) = some (.string sR0_2) /\
 R (.returned (.tuple #[.agg #[.int .i64 nR0_0, .int .i64 nR0_1, .string sR0_2], .bool (s0.toList == (⟨#[70]⟩ : ByteArray).toList)])) w8)) (
 ∃ n9_0 : Int, w3.cell? ((⟨r4, 0, none⟩ : Addr).add 0) = some (.int .i64 n9_0) /\
 ∃ n9_1 : Int, w3.cell? ((⟨r4, 0, none⟩ : Addr).add 1) = some (.int .i64 n9_1) /\
 ∃ s9_2 : ByteArray, w3.cell? ((⟨r4, 0, none⟩ : Addr).add 2) = some (.string s9_2) /\
 Br (s0.toList == (⟨#[84]⟩ : ByteArray).toList) (
 stA prog 25 (⟨r2, 0, none⟩ : Addr) #[.int .i64 n9_0, .int .i64 n9_1, .string s9_2] w3 fun w9 =>
 runD prog ds w9 fun w10 =>
 ∃ nR0_0 : Int, w10.cell? ((⟨r2, 0, none⟩ : Addr).add 0) = some (.int .i64 nR0_0) /\
 ∃ nR0_1 : Int, w10.cell? ((⟨r2, 0, none⟩ : Addr).add 1) = some (.int .i64 nR0_1) /\
 ∃ sR0_2 : ByteArray, w10.cell? ((⟨r2, 0, none⟩ : Addr).add 2) = some (.string sR0_2) /\
 R (.returned (.tuple #[.agg #[.int .i64 nR0_0, .int .i64 nR0_1, .string sR0_2], .bool true])) w10) (
 stA prog 25 (⟨r2, 0, none⟩ : Addr) #[.int .i64 n9_0, .int .i64 n9_1, .string s9_2] w3 fun w11 =>
 runD prog ds w11 fun w12 =>
 ∃ nR0_0 : Int, w12.cell? ((⟨r2, 0, none⟩ : Addr).add 0) = some (.int .i64 nR0_0) /\
 ∃ nR0_1 : Int, w12.cell? ((⟨r2, 0, none⟩ : Addr).add 1) = some (.int .i64 nR0_1) /\
 ∃ sR0_2 : ByteArray, w12.cell? ((⟨r2, 0, none⟩ : Addr).add 2) = some (.string sR0_2) /\
 R (.returned (.tuple #[.agg #[.int .i64 nR0_0, .int .i64 nR0_1, .string sR0_2], .bool (s0.toList == (⟨#[70]⟩ : ByteArray).toList)])) w12))
theorem c126_l : flat (bodyOf f126) = [c126_0, c126_1, c126_2, c126_3, c126_4, c126_5] := by kernel_rfl
theorem F126_1_ok (R : Rt) (s0 : ByteArray) (ds : Ds) (w : World) (E : Env) (e0 : E 0 = .string s0) (h : F126_1 R s0 ds w) :
    TrL prog f126.ntmps [c126_0, c126_1, c126_2, c126_3, c126_4, c126_5] (F126_q1 R) E ds w :=
  TrL_leaf (X := F126_1 R s0 ds w) (setAll_cons e0 setAll_nil) (by kernel_rfl) (by kernel_rfl) h
theorem F126_calls (s0 : ByteArray) (w : World) (R : Rt) (h : F126_1 R s0 [] w) : Calls prog 126 #[.string s0] w R :=
  calls_of_L (l := [c126_0, c126_1, c126_2, c126_3, c126_4, c126_5]) func126 (by kernel_rfl) (by rw [ntmps126]; exact Nat.le_of_ble_eq_true (by kernel_rfl)) c126_l
    (F126_1_ok R s0 [] w _ rfl h)
noncomputable def c128_0 := cI21 f128 0
noncomputable def c128_1 := cI21 f128 1
noncomputable def c128_2 := cI21 f128 2
def F128_q1 (R : Rt) : EQ := endQ prog f128.results.toList R
def F128_1 (R : Rt) (s0 : ByteArray) (ds : Ds) (w : World) : Prop :=
 alE (.cells #[.int .i64 0, .int .i64 0, .string (⟨#[]⟩ : ByteArray)] 25) w fun r2 w1 =>
 Calls prog 151 #[.string s0] w1 fun e w2 =>
 ∃ n5 : Int, e = .returned (.int .i64 n5) /\
 Calls prog 135 #[.string s0, .string (⟨#[32]⟩ : ByteArray)] w2 fun e w3 =>
 ∃ s8 : ByteArray, e = .returned (.string s8) /\
 stA prog 25 (⟨r2, 0, none⟩ : Addr) #[.int .i64 2, .int .i64 n5, .string (⟨#[]⟩ : ByteArray)] w3 fun w4 =>
 runD prog ds w4 fun w5 =>
 ∃ nR0_0 : Int, w5.cell? ((⟨r2, 0, none⟩ : Addr).add 0) = some (.int .i64 nR0_0) /\
 ∃ nR0_1 : Int, w5.cell? ((⟨r2, 0, none⟩ : Addr).add 1) = some (.int .i64 nR0_1) /\
 ∃ sR0_2 : ByteArray, w5.cell? ((⟨r2, 0, none⟩ : Addr).add 2) = some (.string sR0_2) /\
 R (.returned (.tuple #[.agg #[.int .i64 nR0_0, .int .i64 nR0_1, .string sR0_2], .bool (!(s8.toList == (⟨#[]⟩ : ByteArray).toList))])) w5
theorem c128_l : flat (bodyOf f128) = [c128_0, c128_1, c128_2] := by kernel_rfl
theorem F128_1_ok (R : Rt) (s0 : ByteArray) (ds : Ds) (w : World) (E : Env) (e0 : E 0 = .string s0) (h : F128_1 R s0 ds w) :
    TrL prog f128.ntmps [c128_0, c128_1, c128_2] (F128_q1 R) E ds w :=
  TrL_leaf (X := F128_1 R s0 ds w) (setAll_cons e0 setAll_nil) (by kernel_rfl) (by kernel_rfl) h
theorem F128_calls (s0 : ByteArray) (w : World) (R : Rt) (h : F128_1 R s0 [] w) : Calls prog 128 #[.string s0] w R :=
  calls_of_L (l := [c128_0, c128_1, c128_2]) func128 (by kernel_rfl) (by rw [ntmps128]; exact Nat.le_of_ble_eq_true (by kernel_rfl)) c128_l
    (F128_1_ok R s0 [] w _ rfl h)
noncomputable def c130_0 := cI21 f130 0
noncomputable def c130_1 := cI21 f130 1
noncomputable def c130_2 := cI21 f130 2
noncomputable def c130_3 := cI21 f130 3
def F130_q1 (R : Rt) : EQ := endQ prog f130.results.toList R
def F130_1 (R : Rt) (s0 : ByteArray) (ds : Ds) (w : World) : Prop :=
 alE (.cells #[.int .i64 0, .int .i64 0, .string (⟨#[]⟩ : ByteArray)] 25) w fun r2 w1 =>
 Calls prog 152 #[.string s0] w1 fun e w2 =>
 ∃ n8_0 : Int, ∃ b8_1 : Bool, e = .returned (.tuple #[.int .i64 n8_0, .bool b8_1]) /\
 stA prog 25 (⟨r2, 0, none⟩ : Addr) #[.int .i64 3, .int .i64 n8_0, .string (⟨#[]⟩ : ByteArray)] w2 fun w3 =>
 runD prog ds w3 fun w4 =>
 ∃ nR0_0 : Int, w4.cell? ((⟨r2, 0, none⟩ : Addr).add 0) = some (.int .i64 nR0_0) /\
 ∃ nR0_1 : Int, w4.cell? ((⟨r2, 0, none⟩ : Addr).add 1) = some (.int .i64 nR0_1) /\
 ∃ sR0_2 : ByteArray, w4.cell? ((⟨r2, 0, none⟩ : Addr).add 2) = some (.string sR0_2) /\
 R (.returned (.tuple #[.agg #[.int .i64 nR0_0, .int .i64 nR0_1, .string sR0_2], .bool b8_1])) w4
theorem c130_l : flat (bodyOf f130) = [c130_0, c130_1, c130_2, c130_3] := by kernel_rfl
theorem F130_1_ok (R : Rt) (s0 : ByteArray) (ds : Ds) (w : World) (E : Env) (e0 : E 0 = .string s0) (h : F130_1 R s0 ds w) :
    TrL prog f130.ntmps [c130_0, c130_1, c130_2, c130_3] (F130_q1 R) E ds w :=
  TrL_leaf (X := F130_1 R s0 ds w) (setAll_cons e0 setAll_nil) (by kernel_rfl) (by kernel_rfl) h
theorem F130_calls (s0 : ByteArray) (w : World) (R : Rt) (h : F130_1 R s0 [] w) : Calls prog 130 #[.string s0] w R :=
  calls_of_L (l := [c130_0, c130_1, c130_2, c130_3]) func130 (by kernel_rfl) (by rw [ntmps130]; exact Nat.le_of_ble_eq_true (by kernel_rfl)) c130_l
    (F130_1_ok R s0 [] w _ rfl h)
noncomputable def c132_0 := cI21 f132 0
noncomputable def c132_1 := cI21 f132 1
noncomputable def c132_2 := cI21 f132 2
def F132_q1 (R : Rt) : EQ := endQ prog f132.results.toList R
def F132_1 (R : Rt) (s0 : ByteArray) (ds : Ds) (w : World) : Prop :=
 alE (.cells #[.int .i64 0, .int .i64 0, .string (⟨#[]⟩ : ByteArray)] 25) w fun r2 w1 =>
 Calls prog 51 #[.string s0, .string (⟨#[32]⟩ : ByteArray)] w1 fun e w2 =>
 ∃ s5 : ByteArray, e = .returned (.string s5) /\
 stA prog 25 (⟨r2, 0, none⟩ : Addr) #[.int .i64 4, .int .i64 0, .string s5] w2 fun w3 =>
 runD prog ds w3 fun w4 =>
 ∃ nR0_0 : Int, w4.cell? ((⟨r2, 0, none⟩ : Addr).add 0) = some (.int .i64 nR0_0) /\
 ∃ nR0_1 : Int, w4.cell? ((⟨r2, 0, none⟩ : Addr).add 1) = some (.int .i64 nR0_1) /\
 ∃ sR0_2 : ByteArray, w4.cell? ((⟨r2, 0, none⟩ : Addr).add 2) = some (.string sR0_2) /\
 R (.returned (.tuple #[.agg #[.int .i64 nR0_0, .int .i64 nR0_1, .string sR0_2], .bool true])) w4
theorem c132_l : flat (bodyOf f132) = [c132_0, c132_1, c132_2] := by kernel_rfl
theorem F132_1_ok (R : Rt) (s0 : ByteArray) (ds : Ds) (w : World) (E : Env) (e0 : E 0 = .string s0) (h : F132_1 R s0 ds w) :
    TrL prog f132.ntmps [c132_0, c132_1, c132_2] (F132_q1 R) E ds w :=
  TrL_leaf (X := F132_1 R s0 ds w) (setAll_cons e0 setAll_nil) (by kernel_rfl) (by kernel_rfl) h
theorem F132_calls (s0 : ByteArray) (w : World) (R : Rt) (h : F132_1 R s0 [] w) : Calls prog 132 #[.string s0] w R :=
  calls_of_L (l := [c132_0, c132_1, c132_2]) func132 (by kernel_rfl) (by rw [ntmps132]; exact Nat.le_of_ble_eq_true (by kernel_rfl)) c132_l
    (F132_1_ok R s0 [] w _ rfl h)
noncomputable def c134_0 := cI21 f134 0
noncomputable def c134_1 := cI21 f134 1
noncomputable def c134_2 := cI21 f134 2
def F134_q1 (R : Rt) : EQ := endQ prog f134.results.toList R
def F134_1 (R : Rt) (s0 : ByteArray) (ds : Ds) (w : World) : Prop :=
 alE (.cells #[.int .i64 0, .int .i64 0, .string (⟨#[]⟩ : ByteArray)] 25) w fun r2 w1 =>
 Calls prog 151 #[.string s0] w1 fun e w2 =>
 ∃ n5 : Int, e = .returned (.int .i64 n5) /\
 stA prog 25 (⟨r2, 0, none⟩ : Addr) #[.int .i64 2, .int .i64 n5, .string (⟨#[]⟩ : ByteArray)] w2 fun w3 =>
 runD prog ds w3 fun w4 =>
 ∃ nR0_0 : Int, w4.cell? ((⟨r2, 0, none⟩ : Addr).add 0) = some (.int .i64 nR0_0) /\
 ∃ nR0_1 : Int, w4.cell? ((⟨r2, 0, none⟩ : Addr).add 1) = some (.int .i64 nR0_1) /\
 ∃ sR0_2 : ByteArray, w4.cell? ((⟨r2, 0, none⟩ : Addr).add 2) = some (.string sR0_2) /\
 R (.returned (.tuple #[.agg #[.int .i64 nR0_0, .int .i64 nR0_1, .string sR0_2], .bool true])) w4
theorem c134_l : flat (bodyOf f134) = [c134_0, c134_1, c134_2] := by kernel_rfl
theorem F134_1_ok (R : Rt) (s0 : ByteArray) (ds : Ds) (w : World) (E : Env) (e0 : E 0 = .string s0) (h : F134_1 R s0 ds w) :
    TrL prog f134.ntmps [c134_0, c134_1, c134_2] (F134_q1 R) E ds w :=
  TrL_leaf (X := F134_1 R s0 ds w) (setAll_cons e0 setAll_nil) (by kernel_rfl) (by kernel_rfl) h
theorem F134_calls (s0 : ByteArray) (w : World) (R : Rt) (h : F134_1 R s0 [] w) : Calls prog 134 #[.string s0] w R :=
  calls_of_L (l := [c134_0, c134_1, c134_2]) func134 (by kernel_rfl) (by rw [ntmps134]; exact Nat.le_of_ble_eq_true (by kernel_rfl)) c134_l
    (F134_1_ok R s0 [] w _ rfl h)
noncomputable def c152_0 := cI21 f152 0
noncomputable def c152_1 := cI21 f152 1
noncomputable def c152_2 := cI21 f152 2
noncomputable def c152_3 := cI21 f152 3
noncomputable def c152_4 := cI21 f152 4
noncomputable def c152_5 := cI21 f152 5
noncomputable def c152_6 := cI21 f152 6
noncomputable def c152_7 := cI21 f152 7
def F152_q1 (R : Rt) : EQ := endQ prog f152.results.toList R
def F152_1 (R : Rt) (s0 : ByteArray) (ds : Ds) (w : World) : Prop :=
 Br (s0.toList == (⟨#[32, 32, 32, 32, 32, 32, 32, 32]⟩ : ByteArray).toList) (
 runD prog ds w fun w1 =>
 R (.returned (.tuple #[.int .i64 0, .bool true])) w1) (
 Br ((s0.size : Int) != 8) (
 runD prog ds w fun w2 =>
 R (.returned (.tuple #[.int .i64 0, .bool false])) w2) (
 Calls prog 135 #[.string s0, .string (⟨#[48, 49, 50, 51, 52, 53, 54, 55, 56, 57]⟩ : ByteArray)] w fun e w3 =>
 ∃ s13 : ByteArray, e = .returned (.string s13) /\
 Br (!(s13.toList == (⟨#[]⟩ : ByteArray).toList)) (
 runD prog ds w3 fun w4 =>
 R (.returned (.tuple #[.int .i64 0, .bool false])) w4) (
 dwE w3 fun w5 =>
 0 ≤ (4 : Int) /\ (4 : Int).toNat ≤ s0.size /\ 0 ≤ (4 : Int).toNat /\
 0 ≤ (6 : Int) /\ (6 : Int).toNat ≤ s0.size /\ 0 ≤ (4 : Int) /\ (4 : Int).toNat ≤ (6 : Int).toNat /\
 s0.size ≤ s0.size /\ 0 ≤ (6 : Int) /\ (6 : Int).toNat ≤ s0.size /\
 Calls prog 151 #[.string (s0.extract 0 ((4 : Int).toNat))] w5 fun e w6 =>
 ∃ n19 : Int, e = .returned (.int .i64 n19) /\
 Calls prog 151 #[.string (s0.extract ((4 : Int).toNat) ((6 : Int).toNat))] w6 fun e w7 =>
 ∃ n22 : Int, e = .returned (.int .i64 n22) /\
 Calls prog 151 #[.string (s0.extract ((6 : Int).toNat) s0.size)] w7 fun e w8 =>
 ∃ n25 : Int, e = .returned (.int .i64 n25) /\
 Calls prog 169 #[.int .i64 n19, .int .i64 n22, .int .i64 n25] w8 fun e w9 =>
 ∃ n26_0 : Int, ∃ n26_1 : Int, e = .returned (.tuple #[.int .i64 n26_0, .int .i64 n26_1]) /\
 runD prog ds w9 fun w10 =>
 R (.returned (.tuple #[.int .i64 n26_0, .bool (n26_1 == 0)])) w10)))
theorem c152_l : flat (bodyOf f152) = [c152_0, c152_1, c152_2, c152_3, c152_4, c152_5, c152_6, c152_7] := by kernel_rfl
theorem F152_1_ok (R : Rt) (s0 : ByteArray) (ds : Ds) (w : World) (E : Env) (e0 : E 0 = .string s0) (h : F152_1 R s0 ds w) :
    TrL prog f152.ntmps [c152_0, c152_1, c152_2, c152_3, c152_4, c152_5, c152_6, c152_7] (F152_q1 R) E ds w :=
  TrL_leaf (X := F152_1 R s0 ds w) (setAll_cons e0 setAll_nil) (by kernel_rfl) (by kernel_rfl) h
theorem F152_calls (s0 : ByteArray) (w : World) (R : Rt) (h : F152_1 R s0 [] w) : Calls prog 152 #[.string s0] w R :=
  calls_of_L (l := [c152_0, c152_1, c152_2, c152_3, c152_4, c152_5, c152_6, c152_7]) func152 (by kernel_rfl) (by rw [ntmps152]; exact Nat.le_of_ble_eq_true (by kernel_rfl)) c152_l
    (F152_1_ok R s0 [] w _ rfl h)
noncomputable def c151_0 := cI21 f151 0
noncomputable def c151_1 := cI21 f151 1
noncomputable def c151_2 := cI21 f151 2
noncomputable def c151_3 := cI21 f151 3
noncomputable def c151_4 := cI21 f151 4
noncomputable def c151_5 := cI21 f151 5
noncomputable def c151_6 := cI21 f151 6
noncomputable def c151_7 := cI21 f151 7
noncomputable def c151_8 := cI21 f151 8
noncomputable def c151_9 := cI21 f151 9
noncomputable def c151_7_0 := cJ21 c151_7 0
noncomputable def c151_7_0_0 := cJ21 c151_7_0 0
noncomputable def c151_7_0_1 := cJ21 c151_7_0 1
noncomputable def c151_7_0_2 := cJ21 c151_7_0 2
noncomputable def c151_7_0_3 := cJ21 c151_7_0 3
def F151_q1 (R : Rt) : EQ := endQ prog f151.results.toList R
def F151_1 (R : Rt) (n3 n4 : Int) (ds : Ds) (w : World) : Prop :=
 runD prog ds w fun w1 =>
 R (.returned (.int .i64 (IntKind.i64.wrap (n3 * n4)))) w1
def F151_k2 (R : Rt) : EP := (fun E ds w => dInt .i64 (E 3) fun n3 => dInt .i64 (E 4) fun n4 => F151_1 R n3 n4 ds w)
def F151_q3 (R : Rt) : EQ := (thenQ (F151_k2 R) (F151_q1 R))
def F151_q4 (R : Rt) : EQ := (blockQ 0 (F151_q3 R))
def F151_q5 (R : Rt) (J1 : (Int × Int) -> World -> Prop) : EQ := (thenQ (fun E _ w => dInt .i64 (E 4) fun n4 => dInt .i64 (E 27) fun n27 => J1 (n4, n27) w) (F151_q4 R))
def F151_2 (R : Rt) (J1 : (Int × Int) -> World -> Prop) (s0 : ByteArray) (n3 n4 n26 n27 : Int) (ds : Ds) (w : World) : Prop :=
 Br (decide (n27 < n26)) (
 ∃ b32 : UInt8, 0 ≤ n27 /\ s0[n27.toNat]? = some b32 /\
 Br (decide ((b32.toNat : Int) < 48)) (
 F151_1 R n3 n4 ds w) (
 ∃ b37 : UInt8, 0 ≤ n27 /\ s0[n27.toNat]? = some b37 /\
 Br (decide ((b37.toNat : Int) > 57)) (
 F151_1 R n3 n4 ds w) (
 ∃ b44 : UInt8, 0 ≤ n27 /\ s0[n27.toNat]? = some b44 /\
 ∃ n48 : Int, ∃ w2 : World, (Builtin.min_ #[3, 3] 3 #[.int .i64 (IntKind.i64.wrap ((IntKind.i64.wrap (n4 * 10)) + (IntKind.i64.wrap (IntKind.u8.wrap ((b44.toNat : Int) - 48))))), .int .i64 1000000000000000]).run prog w = .ok (.int .i64 n48) w2 /\
 J1 (n48, (IntKind.i64.wrap (n27 + 1))) w2))) (
 F151_1 R n3 n4 ds w)
def F151_3 (R : Rt) (s0 : ByteArray) (n3 n4 n26 n27 : Int) (ds : Ds) (w : World) : Prop :=
 loopT (fun (J1 : (Int × Int) -> World -> Prop) (s : Int × Int) (w : World) => F151_2 R J1 s0 n3 s.1 n26 s.2 ds w) (n4, n27) w
abbrev F151_4 (R : Rt) (s0 : ByteArray) (n3 n4 n26 n27 : Int) (ds : Ds) (w : World) : Prop := F151_3 R s0 n3 n4 n26 n27 ds w
def F151_k6 (R : Rt) : EP := (fun E ds w => dStr (E 0) fun s0 => dInt .i64 (E 3) fun n3 => dInt .i64 (E 4) fun n4 => dInt .i64 (E 26) fun n26 => dInt .i64 (E 27) fun n27 => F151_4 R s0 n3 n4 n26 n27 ds w)
def F151_5 (R : Rt) (s0 : ByteArray) (n3 : Int) (ds : Ds) (w : World) : Prop :=
 F151_4 R s0 n3 0 (s0.size : Int) 0 ds w
def F151_k7 (R : Rt) : EP := (fun E ds w => dStr (E 0) fun s0 => dInt .i64 (E 3) fun n3 => F151_5 R s0 n3 ds w)
def F151_6 (R : Rt) (s0 : ByteArray) (ds : Ds) (w : World) : Prop :=
 Calls prog 168 #[.string s0, .string (⟨#[32]⟩ : ByteArray)] w fun e w3 =>
 ∃ s7 : ByteArray, e = .returned (.string s7) /\
 Br (!(s7.toList == (⟨#[]⟩ : ByteArray).toList)) (
 ∃ b12 : UInt8, 0 ≤ (0 : Int) /\ s7[(0 : Int).toNat]? = some b12 /\
 Br ((b12.toNat : Int) == 45) (
 ∃ b21 : UInt8, 0 ≤ (0 : Int) /\ s7[(0 : Int).toNat]? = some b21 /\
 Br ((b21.toNat : Int) == 45) (
 s7.size ≤ s7.size /\ 0 ≤ (1 : Int) /\ (1 : Int).toNat ≤ s7.size /\
 F151_5 R (s7.extract ((1 : Int).toNat) s7.size) (-1) ds w3) (
 s7.size ≤ s7.size /\ 0 ≤ (1 : Int) /\ (1 : Int).toNat ≤ s7.size /\
 F151_5 R (s7.extract ((1 : Int).toNat) s7.size) 1 ds w3)) (
 ∃ b16 : UInt8, 0 ≤ (0 : Int) /\ s7[(0 : Int).toNat]? = some b16 /\
 Br ((b16.toNat : Int) == 43) (
 ∃ b21 : UInt8, 0 ≤ (0 : Int) /\ s7[(0 : Int).toNat]? = some b21 /\
 Br ((b21.toNat : Int) == 45) (
 s7.size ≤ s7.size /\ 0 ≤ (1 : Int) /\ (1 : Int).toNat ≤ s7.size /\
 F151_5 R (s7.extract ((1 : Int).toNat) s7.size) (-1) ds w3) (
 s7.size ≤ s7.size /\ 0 ≤ (1 : Int) /\ (1 : Int).toNat ≤ s7.size /\
 F151_5 R (s7.extract ((1 : Int).toNat) s7.size) 1 ds w3)) (
 F151_5 R s7 1 ds w3))) (
 F151_5 R s7 1 ds w3)
theorem c151_l : flat (bodyOf f151) = [c151_0, c151_1, c151_2, c151_3, c151_4, c151_5, c151_6, c151_7, c151_8, c151_9] := by kernel_rfl
theorem c151_7_l : flat (innerC c151_7) = [c151_7_0] := by kernel_rfl
theorem c151_7_0_l : flat (innerC c151_7_0) = [c151_7_0_0, c151_7_0_1, c151_7_0_2, c151_7_0_3] := by kernel_rfl
theorem F151_1_ok (R : Rt) (n3 n4 : Int) (ds : Ds) (w : World) (E : Env) (e3 : E 3 = .int .i64 n3) (e4 : E 4 = .int .i64 n4) (h : F151_1 R n3 n4 ds w) :
    TrL prog f151.ntmps [c151_8, c151_9] (F151_q1 R) E ds w :=
  TrL_leaf (X := F151_1 R n3 n4 ds w) (setAll_cons e3 (setAll_cons e4 setAll_nil)) (by kernel_rfl) (by kernel_rfl) h
theorem F151_2_ok (R : Rt) (J1 : (Int × Int) -> World -> Prop) (s0 : ByteArray) (n3 n4 n26 n27 : Int) (ds : Ds) (w : World) (E : Env) (e0 : E 0 = .string s0) (e3 : E 3 = .int .i64 n3) (e4 : E 4 = .int .i64 n4) (e26 : E 26 = .int .i64 n26) (e27 : E 27 = .int .i64 n27) (h : F151_2 R J1 s0 n3 n4 n26 n27 ds w) :
    TrL prog f151.ntmps [c151_7_0_0, c151_7_0_1, c151_7_0_2, c151_7_0_3] (F151_q5 R J1) E ds w :=
  TrL_leaf (X := F151_2 R J1 s0 n3 n4 n26 n27 ds w) (setAll_cons e0 (setAll_cons e3 (setAll_cons e4 (setAll_cons e26 (setAll_cons e27 setAll_nil))))) (by kernel_rfl) (by kernel_rfl) h
theorem F151_3_ok (R : Rt) (s0 : ByteArray) (n3 n4 n26 n27 : Int) (ds : Ds) (w : World) (E : Env) (e0 : E 0 = .string s0) (e3 : E 3 = .int .i64 n3) (e4 : E 4 = .int .i64 n4) (e26 : E 26 = .int .i64 n26) (e27 : E 27 = .int .i64 n27) (h : F151_3 R s0 n3 n4 n26 n27 ds w) :
    TrL prog f151.ntmps [c151_7_0] (F151_q4 R) E ds w :=
  TrL_one (Tr_loop' (c := innerC c151_7_0) (σ := Int × Int) (enc := (fun (s : Int × Int) (E : Env) => E 4 = .int .i64 s.1 /\ E 27 = .int .i64 s.2)) (D := (fun E K => dInt .i64 (E 4) fun n4 => dInt .i64 (E 27) fun n27 => K (n4, n27))) (F := (fun (J1 : (Int × Int) -> World -> Prop) (s : Int × Int) (w : World) => F151_2 R J1 s0 n3 s.1 n26 s.2 ds w)) (s0 := (n4, n27)) (by kernel_rfl) c151_7_0_l ⟨e4, e27⟩ (by kernel_rfl) (fun E K hD => by obtain ⟨n4, e4, hD⟩ := dInt_elim hD; obtain ⟨n27, e27, hD⟩ := dInt_elim hD; exact ⟨(n4, n27), ⟨e4, e27⟩, hD⟩)
      (fun J1 s E' w' he ha hF => by
      obtain ⟨e4', e27'⟩ := he
      exact F151_2_ok R J1 s0 n3 s.1 n26 s.2 ds w' E' ((ha 0 (by kernel_rfl)).trans e0) ((ha 3 (by kernel_rfl)).trans e3) e4' ((ha 26 (by kernel_rfl)).trans e26) e27' hF) h)
theorem F151_4_ok (R : Rt) (s0 : ByteArray) (n3 n4 n26 n27 : Int) (ds : Ds) (w : World) (E : Env) (e0 : E 0 = .string s0) (e3 : E 3 = .int .i64 n3) (e4 : E 4 = .int .i64 n4) (e26 : E 26 = .int .i64 n26) (e27 : E 27 = .int .i64 n27) (h : F151_4 R s0 n3 n4 n26 n27 ds w) :
    TrL prog f151.ntmps [c151_7, c151_8, c151_9] (F151_q1 R) E ds w :=
  TrL_head (K := (F151_k2 R)) (Tr_block' (c := innerC c151_7) (by kernel_rfl) c151_7_l (F151_3_ok R s0 n3 n4 n26 n27 ds w E e0 e3 e4 e26 e27 h))
    (fun E' ds' w' hD => by
      obtain ⟨n3, e3, hD⟩ := dInt_elim hD; obtain ⟨n4, e4, hD⟩ := dInt_elim hD; exact F151_1_ok R n3 n4 ds' w' E' e3 e4 hD)
theorem F151_5_ok (R : Rt) (s0 : ByteArray) (n3 : Int) (ds : Ds) (w : World) (E : Env) (e0 : E 0 = .string s0) (e3 : E 3 = .int .i64 n3) (h : F151_5 R s0 n3 ds w) :
    TrL prog f151.ntmps [c151_5, c151_6, c151_7, c151_8, c151_9] (F151_q1 R) E ds w :=
  TrL_piece (pre := [c151_5, c151_6]) (K := (F151_k6 R)) (X := F151_5 R s0 n3 ds w) (setAll_cons e0 (setAll_cons e3 setAll_nil)) (by kernel_rfl) (by kernel_rfl)
    (fun E' ds' w' hD => by
      obtain ⟨s0, e0, hD⟩ := dStr_elim hD; obtain ⟨n3, e3, hD⟩ := dInt_elim hD; obtain ⟨n4, e4, hD⟩ := dInt_elim hD; obtain ⟨n26, e26, hD⟩ := dInt_elim hD; obtain ⟨n27, e27, hD⟩ := dInt_elim hD; exact F151_4_ok R s0 n3 n4 n26 n27 ds' w' E' e0 e3 e4 e26 e27 hD) h
theorem F151_6_ok (R : Rt) (s0 : ByteArray) (ds : Ds) (w : World) (E : Env) (e0 : E 0 = .string s0) (h : F151_6 R s0 ds w) :
    TrL prog f151.ntmps [c151_0, c151_1, c151_2, c151_3, c151_4, c151_5, c151_6, c151_7, c151_8, c151_9] (F151_q1 R) E ds w :=
  TrL_piece (pre := [c151_0, c151_1, c151_2, c151_3, c151_4]) (K := (F151_k7 R)) (X := F151_6 R s0 ds w) (setAll_cons e0 setAll_nil) (by kernel_rfl) (by kernel_rfl)
    (fun E' ds' w' hD => by
      obtain ⟨s0, e0, hD⟩ := dStr_elim hD; obtain ⟨n3, e3, hD⟩ := dInt_elim hD; exact F151_5_ok R s0 n3 ds' w' E' e0 e3 hD) h
theorem F151_calls (s0 : ByteArray) (w : World) (R : Rt) (h : F151_6 R s0 [] w) : Calls prog 151 #[.string s0] w R :=
  calls_of_L (l := [c151_0, c151_1, c151_2, c151_3, c151_4, c151_5, c151_6, c151_7, c151_8, c151_9]) func151 (by kernel_rfl) (by rw [ntmps151]; exact Nat.le_of_ble_eq_true (by kernel_rfl)) c151_l
    (F151_6_ok R s0 [] w _ rfl h)
end Go.Proofs.YtecmfdfhpldmmaaGreatDoor

/- Shallow texts of functions, printed by program, each checked by the kernel against the loaded code. No condition. -/
set_option maxRecDepth 100000
set_option linter.unusedVariables false
namespace Go.Proofs.YtecmfdfhpldmmaaGreatDoor
open Go.Sh
open Tryz
end Go.Proofs.YtecmfdfhpldmmaaGreatDoor

/- Shallow texts of functions, printed by program, each checked by the kernel against the loaded code. No condition. -/
set_option maxRecDepth 100000
set_option linter.unusedVariables false
namespace Go.Proofs.YtecmfdfhpldmmaaGreatDoor
open Go.Sh
open Tryz
end Go.Proofs.YtecmfdfhpldmmaaGreatDoor

/- Shallow texts of functions, printed by program, each checked by the kernel against the loaded code. No condition. -/
set_option maxRecDepth 100000
set_option linter.unusedVariables false
namespace Go.Proofs.YtecmfdfhpldmmaaGreatDoor
open Go.Sh
open Tryz
@[reducible] noncomputable def cI24 (f : Func) (i : Nat) : Code := itemAt (flat (bodyOf f)) i
@[reducible] noncomputable def cJ24 (c : Code) (i : Nat) : Code := itemAt (flat (innerC c)) i
noncomputable def c41_0 := cI24 f41 0
noncomputable def c41_1 := cI24 f41 1
noncomputable def c41_2 := cI24 f41 2
noncomputable def c41_3 := cI24 f41 3
noncomputable def c41_4 := cI24 f41 4
noncomputable def c41_5 := cI24 f41 5
def F41_q1 (R : Rt) : EQ := endQ prog f41.results.toList R
def F41_1 (R : Rt) (l0 : SV) (ds : Ds) (w : World) : Prop :=
 alE (.cells #[.int .i64 0, .slice none 0 0, .slice none 0 0] 35) w fun r2 w1 =>
 Calls prog 80 #[.slice l0.a l0.len l0.cap] w1 fun e w2 =>
 ∃ n8_0_0 : Int, ∃ l8_0_1 : SV, ∃ l8_0_2 : SV, ∃ b8_1 : Bool, e = .returned (.tuple #[.agg #[.int .i64 n8_0_0, .slice l8_0_1.a l8_0_1.len l8_0_1.cap, .slice l8_0_2.a l8_0_2.len l8_0_2.cap], .bool b8_1]) /\
 alE (.cells #[.int .i64 0, .slice none 0 0, .slice none 0 0] 35) w2 fun r4 w3 =>
 stA prog 35 (⟨r4, 0, none⟩ : Addr) #[.int .i64 n8_0_0, .slice l8_0_1.a l8_0_1.len l8_0_1.cap, .slice l8_0_2.a l8_0_2.len l8_0_2.cap] w3 fun w4 =>
 Br (!b8_1) (
 stA prog 35 (⟨r2, 0, none⟩ : Addr) #[.int .i64 0, .slice none 0 0, .slice none 0 0] w4 fun w5 =>
 runD prog ds w5 fun w6 =>
 ∃ nR0_0 : Int, w6.cell? ((⟨r2, 0, none⟩ : Addr).add 0) = some (.int .i64 nR0_0) /\
 ∃ lR0_1 : SV, w6.cell? ((⟨r2, 0, none⟩ : Addr).add 1) = some (.slice lR0_1.a lR0_1.len lR0_1.cap) /\
 ∃ lR0_2 : SV, w6.cell? ((⟨r2, 0, none⟩ : Addr).add 2) = some (.slice lR0_2.a lR0_2.len lR0_2.cap) /\
 R (.returned (.tuple #[.agg #[.int .i64 nR0_0, .slice lR0_1.a lR0_1.len lR0_1.cap, .slice lR0_2.a lR0_2.len lR0_2.cap], .int .i64 11])) w6) (
 ∃ n14_0 : Int, w4.cell? ((⟨r4, 0, none⟩ : Addr).add 0) = some (.int .i64 n14_0) /\
 ∃ l14_1 : SV, w4.cell? ((⟨r4, 0, none⟩ : Addr).add 1) = some (.slice l14_1.a l14_1.len l14_1.cap) /\
 ∃ l14_2 : SV, w4.cell? ((⟨r4, 0, none⟩ : Addr).add 2) = some (.slice l14_2.a l14_2.len l14_2.cap) /\
 Calls prog 34 #[.agg #[.int .i64 n14_0, .slice l14_1.a l14_1.len l14_1.cap, .slice l14_2.a l14_2.len l14_2.cap]] w4 fun e w7 =>
 ∃ n15 : Int, e = .returned (.int .i64 n15) /\
 Br (n15 != 0) (
 stA prog 35 (⟨r2, 0, none⟩ : Addr) #[.int .i64 0, .slice none 0 0, .slice none 0 0] w7 fun w8 =>
 runD prog ds w8 fun w9 =>
 ∃ nR0_0 : Int, w9.cell? ((⟨r2, 0, none⟩ : Addr).add 0) = some (.int .i64 nR0_0) /\
 ∃ lR0_1 : SV, w9.cell? ((⟨r2, 0, none⟩ : Addr).add 1) = some (.slice lR0_1.a lR0_1.len lR0_1.cap) /\
 ∃ lR0_2 : SV, w9.cell? ((⟨r2, 0, none⟩ : Addr).add 2) = some (.slice lR0_2.a lR0_2.len lR0_2.cap) /\
 R (.returned (.tuple #[.agg #[.int .i64 nR0_0, .slice lR0_1.a lR0_1.len lR0_1.cap, .slice lR0_2.a lR0_2.len lR0_2.cap], .int .i64 11])) w9) (
 ∃ n19_0 : Int, w7.cell? ((⟨r4, 0, none⟩ : Addr).add 0) = some (.int .i64 n19_0) /\
 ∃ l19_1 : SV, w7.cell? ((⟨r4, 0, none⟩ : Addr).add 1) = some (.slice l19_1.a l19_1.len l19_1.cap) /\
 ∃ l19_2 : SV, w7.cell? ((⟨r4, 0, none⟩ : Addr).add 2) = some (.slice l19_2.a l19_2.len l19_2.cap) /\
 Calls prog 59 #[.agg #[.int .i64 n19_0, .slice l19_1.a l19_1.len l19_1.cap, .slice l19_2.a l19_2.len l19_2.cap]] w7 fun e w10 =>
 ∃ l20 : SV, e = .returned (.slice l20.a l20.len l20.cap) /\
 Calls prog 81 #[.slice l20.a l20.len l20.cap, .slice l0.a l0.len l0.cap] w10 fun e w11 =>
 ∃ b22 : Bool, e = .returned (.bool b22) /\
 Br (!b22) (
 stA prog 35 (⟨r2, 0, none⟩ : Addr) #[.int .i64 0, .slice none 0 0, .slice none 0 0] w11 fun w12 =>
 runD prog ds w12 fun w13 =>
 ∃ nR0_0 : Int, w13.cell? ((⟨r2, 0, none⟩ : Addr).add 0) = some (.int .i64 nR0_0) /\
 ∃ lR0_1 : SV, w13.cell? ((⟨r2, 0, none⟩ : Addr).add 1) = some (.slice lR0_1.a lR0_1.len lR0_1.cap) /\
 ∃ lR0_2 : SV, w13.cell? ((⟨r2, 0, none⟩ : Addr).add 2) = some (.slice lR0_2.a lR0_2.len lR0_2.cap) /\
 R (.returned (.tuple #[.agg #[.int .i64 nR0_0, .slice lR0_1.a lR0_1.len lR0_1.cap, .slice lR0_2.a lR0_2.len lR0_2.cap], .int .i64 11])) w13) (
 ∃ n26_0 : Int, w11.cell? ((⟨r4, 0, none⟩ : Addr).add 0) = some (.int .i64 n26_0) /\
 ∃ l26_1 : SV, w11.cell? ((⟨r4, 0, none⟩ : Addr).add 1) = some (.slice l26_1.a l26_1.len l26_1.cap) /\
 ∃ l26_2 : SV, w11.cell? ((⟨r4, 0, none⟩ : Addr).add 2) = some (.slice l26_2.a l26_2.len l26_2.cap) /\
 stA prog 35 (⟨r2, 0, none⟩ : Addr) #[.int .i64 n26_0, .slice l26_1.a l26_1.len l26_1.cap, .slice l26_2.a l26_2.len l26_2.cap] w11 fun w14 =>
 runD prog ds w14 fun w15 =>
 ∃ nR0_0 : Int, w15.cell? ((⟨r2, 0, none⟩ : Addr).add 0) = some (.int .i64 nR0_0) /\
 ∃ lR0_1 : SV, w15.cell? ((⟨r2, 0, none⟩ : Addr).add 1) = some (.slice lR0_1.a lR0_1.len lR0_1.cap) /\
 ∃ lR0_2 : SV, w15.cell? ((⟨r2, 0, none⟩ : Addr).add 2) = some (.slice lR0_2.a lR0_2.len lR0_2.cap) /\
 R (.returned (.tuple #[.agg #[.int .i64 nR0_0, .slice lR0_1.a lR0_1.len lR0_1.cap, .slice lR0_2.a lR0_2.len lR0_2.cap], .int .i64 0])) w15)))
theorem c41_l : flat (bodyOf f41) = [c41_0, c41_1, c41_2, c41_3, c41_4, c41_5] := by kernel_rfl
theorem F41_1_ok (R : Rt) (l0 : SV) (ds : Ds) (w : World) (E : Env) (e0 : E 0 = .slice l0.a l0.len l0.cap) (h : F41_1 R l0 ds w) :
    TrL prog f41.ntmps [c41_0, c41_1, c41_2, c41_3, c41_4, c41_5] (F41_q1 R) E ds w :=
  TrL_leaf (X := F41_1 R l0 ds w) (setAll_cons e0 setAll_nil) (by kernel_rfl) (by kernel_rfl) h
theorem F41_calls (l0 : SV) (w : World) (R : Rt) (h : F41_1 R l0 [] w) : Calls prog 41 #[.slice l0.a l0.len l0.cap] w R :=
  calls_of_L (l := [c41_0, c41_1, c41_2, c41_3, c41_4, c41_5]) func41 (by kernel_rfl) (by rw [ntmps41]; exact Nat.le_of_ble_eq_true (by kernel_rfl)) c41_l
    (F41_1_ok R l0 [] w _ rfl h)
noncomputable def c80_0 := cI24 f80 0
noncomputable def c80_1 := cI24 f80 1
noncomputable def c80_2 := cI24 f80 2
noncomputable def c80_3 := cI24 f80 3
noncomputable def c80_4 := cI24 f80 4
noncomputable def c80_5 := cI24 f80 5
noncomputable def c80_6 := cI24 f80 6
noncomputable def c80_7 := cI24 f80 7
noncomputable def c80_8 := cI24 f80 8
noncomputable def c80_9 := cI24 f80 9
noncomputable def c80_10 := cI24 f80 10
noncomputable def c80_11 := cI24 f80 11
noncomputable def c80_12 := cI24 f80 12
noncomputable def c80_13 := cI24 f80 13
noncomputable def c80_14 := cI24 f80 14
noncomputable def c80_15 := cI24 f80 15
noncomputable def c80_16 := cI24 f80 16
noncomputable def c80_17 := cI24 f80 17
noncomputable def c80_18 := cI24 f80 18
noncomputable def c80_16_0 := cJ24 c80_16 0
noncomputable def c80_16_0_0 := cJ24 c80_16_0 0
noncomputable def c80_16_0_1 := cJ24 c80_16_0 1
noncomputable def c80_16_0_2 := cJ24 c80_16_0 2
noncomputable def c80_16_0_3 := cJ24 c80_16_0 3
noncomputable def c80_9_0 := cJ24 c80_9 0
noncomputable def c80_9_0_0 := cJ24 c80_9_0 0
noncomputable def c80_9_0_1 := cJ24 c80_9_0 1
noncomputable def c80_9_0_2 := cJ24 c80_9_0 2
noncomputable def c80_9_0_3 := cJ24 c80_9_0 3
def F80_q1 (R : Rt) : EQ := endQ prog f80.results.toList R
def F80_1 (R : Rt) (p2 p4 : Option Addr) (ds : Ds) (w : World) : Prop :=
 ptrE p4 fun a1 =>
 ∃ n122_0 : Int, w.cell? (a1.add 0) = some (.int .i64 n122_0) /\
 ∃ l122_1 : SV, w.cell? (a1.add 1) = some (.slice l122_1.a l122_1.len l122_1.cap) /\
 ∃ l122_2 : SV, w.cell? (a1.add 2) = some (.slice l122_2.a l122_2.len l122_2.cap) /\
 ptrE p2 fun a2 =>
 stA prog 35 a2 #[.int .i64 n122_0, .slice l122_1.a l122_1.len l122_1.cap, .slice l122_2.a l122_2.len l122_2.cap] w fun w3 =>
 runD prog ds w3 fun w4 =>
 ptrE p2 fun a5 =>
 ∃ nR0_0 : Int, w4.cell? (a5.add 0) = some (.int .i64 nR0_0) /\
 ∃ lR0_1 : SV, w4.cell? (a5.add 1) = some (.slice lR0_1.a lR0_1.len lR0_1.cap) /\
 ∃ lR0_2 : SV, w4.cell? (a5.add 2) = some (.slice lR0_2.a lR0_2.len lR0_2.cap) /\
 R (.returned (.tuple #[.agg #[.int .i64 nR0_0, .slice lR0_1.a lR0_1.len lR0_1.cap, .slice lR0_2.a lR0_2.len lR0_2.cap], .bool true])) w4
def F80_k2 (R : Rt) : EP := (fun E ds w => dPtr (E 2) fun p2 => dPtr (E 4) fun p4 => F80_1 R p2 p4 ds w)
def F80_q3 (R : Rt) : EQ := (thenQ (F80_k2 R) (F80_q1 R))
def F80_q4 (R : Rt) : EQ := (blockQ 2 (F80_q3 R))
def F80_q5 (R : Rt) (J1 : (Int) -> World -> Prop) : EQ := (thenQ (fun E _ w => dInt .i64 (E 90) fun n90 => J1 n90 w) (F80_q4 R))
def F80_2 (R : Rt) (J1 : (Int) -> World -> Prop) (l0 : SV) (p2 p4 : Option Addr) (n6 n8 n89 n90 : Int) (ds : Ds) (w : World) : Prop :=
 Br (decide (n90 < n89)) (
 dwE w fun w6 =>
 ∃ S1 : World -> Prop, S1 w6 /\
 ptrE p4 fun a7 =>
 ∃ l95 : SV, (∀ w', S1 w' -> w'.cell? (a7.add 1) = some (.slice l95.a l95.len l95.cap)) /\
 0 ≤ (IntKind.i64.wrap (n6 + (IntKind.i64.wrap (n8 * (IntKind.i64.wrap (n90 + 1)))))) /\ (IntKind.i64.wrap (n6 + (IntKind.i64.wrap (n8 * (IntKind.i64.wrap (n90 + 1)))))).toNat ≤ l0.cap /\ 0 ≤ (IntKind.i64.wrap (n6 + (IntKind.i64.wrap (n8 * n90)))) /\ (IntKind.i64.wrap (n6 + (IntKind.i64.wrap (n8 * n90)))).toNat ≤ (IntKind.i64.wrap (n6 + (IntKind.i64.wrap (n8 * (IntKind.i64.wrap (n90 + 1)))))).toNat /\
 (
 Calls prog 115 #[.slice l95.a l95.len l95.cap, .slice (if l0.cap = (IntKind.i64.wrap (n6 + (IntKind.i64.wrap (n8 * n90)))).toNat then l0.a else l0.a.map (fun x => x.add ((IntKind.i64.wrap (n6 + (IntKind.i64.wrap (n8 * n90)))).toNat * 1))) ((IntKind.i64.wrap (n6 + (IntKind.i64.wrap (n8 * (IntKind.i64.wrap (n90 + 1)))))).toNat - (IntKind.i64.wrap (n6 + (IntKind.i64.wrap (n8 * n90)))).toNat) (l0.cap - (IntKind.i64.wrap (n6 + (IntKind.i64.wrap (n8 * n90)))).toNat)] w6 fun e w8 =>
 ∃ b109_0_0 : Bool, ∃ l109_0_1 : SV, ∃ b109_1 : Bool, e = .returned (.tuple #[.agg #[.bool b109_0_0, .slice l109_0_1.a l109_0_1.len l109_0_1.cap], .bool b109_1]) /\
 alE (.cells #[.bool false, .slice none 0 0] 46) w8 fun r11 w9 =>
 stA prog 46 (⟨r11, 0, none⟩ : Addr) #[.bool b109_0_0, .slice l109_0_1.a l109_0_1.len l109_0_1.cap] w9 fun w10 =>
 Br (!b109_1) (
 ptrE p4 fun a11 =>
 ∃ n114_0 : Int, w10.cell? (a11.add 0) = some (.int .i64 n114_0) /\
 ∃ l114_1 : SV, w10.cell? (a11.add 1) = some (.slice l114_1.a l114_1.len l114_1.cap) /\
 ∃ l114_2 : SV, w10.cell? (a11.add 2) = some (.slice l114_2.a l114_2.len l114_2.cap) /\
 ptrE p2 fun a12 =>
 stA prog 35 a12 #[.int .i64 n114_0, .slice l114_1.a l114_1.len l114_1.cap, .slice l114_2.a l114_2.len l114_2.cap] w10 fun w13 =>
 runD prog ds w13 fun w14 =>
 ptrE p2 fun a15 =>
 ∃ nR0_0 : Int, w14.cell? (a15.add 0) = some (.int .i64 nR0_0) /\
 ∃ lR0_1 : SV, w14.cell? (a15.add 1) = some (.slice lR0_1.a lR0_1.len lR0_1.cap) /\
 ∃ lR0_2 : SV, w14.cell? (a15.add 2) = some (.slice lR0_2.a lR0_2.len lR0_2.cap) /\
 R (.returned (.tuple #[.agg #[.int .i64 nR0_0, .slice lR0_1.a lR0_1.len lR0_1.cap, .slice lR0_2.a lR0_2.len lR0_2.cap], .bool false])) w14) (
 ptrE p4 fun a16 =>
 ∃ l116 : SV, w10.cell? (a16.add 2) = some (.slice l116.a l116.len l116.cap) /\
 ∃ b117_0 : Bool, w10.cell? ((⟨r11, 0, none⟩ : Addr).add 0) = some (.bool b117_0) /\
 ∃ l117_1 : SV, w10.cell? ((⟨r11, 0, none⟩ : Addr).add 1) = some (.slice l117_1.a l117_1.len l117_1.cap) /\
 alE (.cells #[.bool b117_0, .slice l117_1.a l117_1.len l117_1.cap] 46) w10 fun r118 w17 =>
 ∃ l119 : SV, ∃ w18 : World, (Builtin.append_ #[33, 33] 33 #[.slice l116.a l116.len l116.cap, .slice (some ⟨r118, 0, none⟩) 1 1]).run prog w17 = .ok (.slice l119.a l119.len l119.cap) w18 /\
 ptrE p4 fun a19 =>
 st1 (a19.add 2) (.slice l119.a l119.len l119.cap) w18 fun w20 =>
 J1 (IntKind.i64.wrap (n90 + 1)) w20)) /\ (
 alE (.cells #[.bool false, .slice none 0 0] 46) w6 fun r11 w21 =>
 S1 w21 /\
 Calls prog 115 #[.slice l95.a l95.len l95.cap, .slice (if l0.cap = (IntKind.i64.wrap (n6 + (IntKind.i64.wrap (n8 * n90)))).toNat then l0.a else l0.a.map (fun x => x.add ((IntKind.i64.wrap (n6 + (IntKind.i64.wrap (n8 * n90)))).toNat * 1))) ((IntKind.i64.wrap (n6 + (IntKind.i64.wrap (n8 * (IntKind.i64.wrap (n90 + 1)))))).toNat - (IntKind.i64.wrap (n6 + (IntKind.i64.wrap (n8 * n90)))).toNat) (l0.cap - (IntKind.i64.wrap (n6 + (IntKind.i64.wrap (n8 * n90)))).toNat)] w21 fun e w22 =>
 ∃ b109_0_0 : Bool, ∃ l109_0_1 : SV, ∃ b109_1 : Bool, e = .returned (.tuple #[.agg #[.bool b109_0_0, .slice l109_0_1.a l109_0_1.len l109_0_1.cap], .bool b109_1]) /\
 stA prog 46 (⟨r11, 0, none⟩ : Addr) #[.bool b109_0_0, .slice l109_0_1.a l109_0_1.len l109_0_1.cap] w22 fun w23 =>
 Br (!b109_1) (
 ptrE p4 fun a24 =>
 ∃ n114_0 : Int, w23.cell? (a24.add 0) = some (.int .i64 n114_0) /\
 ∃ l114_1 : SV, w23.cell? (a24.add 1) = some (.slice l114_1.a l114_1.len l114_1.cap) /\
 ∃ l114_2 : SV, w23.cell? (a24.add 2) = some (.slice l114_2.a l114_2.len l114_2.cap) /\
 ptrE p2 fun a25 =>
 stA prog 35 a25 #[.int .i64 n114_0, .slice l114_1.a l114_1.len l114_1.cap, .slice l114_2.a l114_2.len l114_2.cap] w23 fun w26 =>
 runD prog ds w26 fun w27 =>
 ptrE p2 fun a28 =>
 ∃ nR0_0 : Int, w27.cell? (a28.add 0) = some (.int .i64 nR0_0) /\
 ∃ lR0_1 : SV, w27.cell? (a28.add 1) = some (.slice lR0_1.a lR0_1.len lR0_1.cap) /\
 ∃ lR0_2 : SV, w27.cell? (a28.add 2) = some (.slice lR0_2.a lR0_2.len lR0_2.cap) /\
 R (.returned (.tuple #[.agg #[.int .i64 nR0_0, .slice lR0_1.a lR0_1.len lR0_1.cap, .slice lR0_2.a lR0_2.len lR0_2.cap], .bool false])) w27) (
 ptrE p4 fun a29 =>
 ∃ l116 : SV, w23.cell? (a29.add 2) = some (.slice l116.a l116.len l116.cap) /\
 ∃ b117_0 : Bool, w23.cell? ((⟨r11, 0, none⟩ : Addr).add 0) = some (.bool b117_0) /\
 ∃ l117_1 : SV, w23.cell? ((⟨r11, 0, none⟩ : Addr).add 1) = some (.slice l117_1.a l117_1.len l117_1.cap) /\
 alE (.cells #[.bool b117_0, .slice l117_1.a l117_1.len l117_1.cap] 46) w23 fun r118 w30 =>
 ∃ l119 : SV, ∃ w31 : World, (Builtin.append_ #[33, 33] 33 #[.slice l116.a l116.len l116.cap, .slice (some ⟨r118, 0, none⟩) 1 1]).run prog w30 = .ok (.slice l119.a l119.len l119.cap) w31 /\
 ptrE p4 fun a32 =>
 st1 (a32.add 2) (.slice l119.a l119.len l119.cap) w31 fun w33 =>
 J1 (IntKind.i64.wrap (n90 + 1)) w33))) (
 F80_1 R p2 p4 ds w)
def F80_3 (R : Rt) (l0 : SV) (p2 p4 : Option Addr) (n6 n8 n89 n90 : Int) (ds : Ds) (w : World) : Prop :=
 loopT (fun (J1 : (Int) -> World -> Prop) (s : Int) (w : World) => F80_2 R J1 l0 p2 p4 n6 n8 n89 s ds w) n90 w
abbrev F80_4 (R : Rt) (l0 : SV) (p2 p4 : Option Addr) (n6 n8 n89 n90 : Int) (ds : Ds) (w : World) : Prop := F80_3 R l0 p2 p4 n6 n8 n89 n90 ds w
def F80_k6 (R : Rt) : EP := (fun E ds w => dSl (E 0) fun l0 => dPtr (E 2) fun p2 => dPtr (E 4) fun p4 => dInt .i64 (E 6) fun n6 => dInt .i64 (E 8) fun n8 => dInt .i64 (E 89) fun n89 => dInt .i64 (E 90) fun n90 => F80_4 R l0 p2 p4 n6 n8 n89 n90 ds w)
def F80_5 (R : Rt) (l0 : SV) (p2 p4 : Option Addr) (n6 : Int) (ds : Ds) (w : World) : Prop :=
 ptrE p4 fun a34 =>
 ∃ l65 : SV, w.cell? (a34.add 1) = some (.slice l65.a l65.len l65.cap) /\
 Calls prog 36 #[.slice l65.a l65.len l65.cap] w fun e w35 =>
 ∃ n66 : Int, e = .returned (.int .i64 n66) /\
 Br (n66 != 0) (
 ptrE p4 fun a36 =>
 ∃ n68_0 : Int, w35.cell? (a36.add 0) = some (.int .i64 n68_0) /\
 ∃ l68_1 : SV, w35.cell? (a36.add 1) = some (.slice l68_1.a l68_1.len l68_1.cap) /\
 ∃ l68_2 : SV, w35.cell? (a36.add 2) = some (.slice l68_2.a l68_2.len l68_2.cap) /\
 ptrE p2 fun a37 =>
 stA prog 35 a37 #[.int .i64 n68_0, .slice l68_1.a l68_1.len l68_1.cap, .slice l68_2.a l68_2.len l68_2.cap] w35 fun w38 =>
 runD prog ds w38 fun w39 =>
 ptrE p2 fun a40 =>
 ∃ nR0_0 : Int, w39.cell? (a40.add 0) = some (.int .i64 nR0_0) /\
 ∃ lR0_1 : SV, w39.cell? (a40.add 1) = some (.slice lR0_1.a lR0_1.len lR0_1.cap) /\
 ∃ lR0_2 : SV, w39.cell? (a40.add 2) = some (.slice lR0_2.a lR0_2.len lR0_2.cap) /\
 R (.returned (.tuple #[.agg #[.int .i64 nR0_0, .slice lR0_1.a lR0_1.len lR0_1.cap, .slice lR0_2.a lR0_2.len lR0_2.cap], .bool false])) w39) (
 dwE w35 fun w41 =>
 ptrE p4 fun a42 =>
 ∃ l70 : SV, w41.cell? (a42.add 1) = some (.slice l70.a l70.len l70.cap) /\
 0 ≤ (6 : Int) /\ (6 : Int).toNat ≤ l0.cap /\ 0 ≤ (2 : Int) /\ (2 : Int).toNat ≤ (6 : Int).toNat /\
 Calls prog 69 #[.slice l70.a l70.len l70.cap] w41 fun e w43 =>
 ∃ n71 : Int, e = .returned (.int .i64 n71) /\
 Calls prog 114 #[.slice (if l0.cap = (2 : Int).toNat then l0.a else l0.a.map (fun x => x.add ((2 : Int).toNat * 1))) ((6 : Int).toNat - (2 : Int).toNat) (l0.cap - (2 : Int).toNat)] w43 fun e w44 =>
 ∃ n74 : Int, e = .returned (.int .i64 n74) /\
 Br (decide (n74 > 300)) (
 ptrE p4 fun a45 =>
 ∃ n88_0 : Int, w44.cell? (a45.add 0) = some (.int .i64 n88_0) /\
 ∃ l88_1 : SV, w44.cell? (a45.add 1) = some (.slice l88_1.a l88_1.len l88_1.cap) /\
 ∃ l88_2 : SV, w44.cell? (a45.add 2) = some (.slice l88_2.a l88_2.len l88_2.cap) /\
 ptrE p2 fun a46 =>
 stA prog 35 a46 #[.int .i64 n88_0, .slice l88_1.a l88_1.len l88_1.cap, .slice l88_2.a l88_2.len l88_2.cap] w44 fun w47 =>
 runD prog ds w47 fun w48 =>
 ptrE p2 fun a49 =>
 ∃ nR0_0 : Int, w48.cell? (a49.add 0) = some (.int .i64 nR0_0) /\
 ∃ lR0_1 : SV, w48.cell? (a49.add 1) = some (.slice lR0_1.a lR0_1.len lR0_1.cap) /\
 ∃ lR0_2 : SV, w48.cell? (a49.add 2) = some (.slice lR0_2.a lR0_2.len lR0_2.cap) /\
 R (.returned (.tuple #[.agg #[.int .i64 nR0_0, .slice lR0_1.a lR0_1.len lR0_1.cap, .slice lR0_2.a lR0_2.len lR0_2.cap], .bool false])) w48) (
 Br ((l0.len : Int) != (IntKind.i64.wrap ((IntKind.i64.wrap (n6 + (IntKind.i64.wrap (n71 * n74)))) + 1))) (
 ptrE p4 fun a50 =>
 ∃ n88_0 : Int, w44.cell? (a50.add 0) = some (.int .i64 n88_0) /\
 ∃ l88_1 : SV, w44.cell? (a50.add 1) = some (.slice l88_1.a l88_1.len l88_1.cap) /\
 ∃ l88_2 : SV, w44.cell? (a50.add 2) = some (.slice l88_2.a l88_2.len l88_2.cap) /\
 ptrE p2 fun a51 =>
 stA prog 35 a51 #[.int .i64 n88_0, .slice l88_1.a l88_1.len l88_1.cap, .slice l88_2.a l88_2.len l88_2.cap] w44 fun w52 =>
 runD prog ds w52 fun w53 =>
 ptrE p2 fun a54 =>
 ∃ nR0_0 : Int, w53.cell? (a54.add 0) = some (.int .i64 nR0_0) /\
 ∃ lR0_1 : SV, w53.cell? (a54.add 1) = some (.slice lR0_1.a lR0_1.len lR0_1.cap) /\
 ∃ lR0_2 : SV, w53.cell? (a54.add 2) = some (.slice lR0_2.a lR0_2.len lR0_2.cap) /\
 R (.returned (.tuple #[.agg #[.int .i64 nR0_0, .slice lR0_1.a lR0_1.len lR0_1.cap, .slice lR0_2.a lR0_2.len lR0_2.cap], .bool false])) w53) (
 F80_4 R l0 p2 p4 n6 n71 n74 0 ds w44)))
def F80_k7 (R : Rt) : EP := (fun E ds w => dSl (E 0) fun l0 => dPtr (E 2) fun p2 => dPtr (E 4) fun p4 => dInt .i64 (E 6) fun n6 => F80_5 R l0 p2 p4 n6 ds w)
def F80_q8 (R : Rt) : EQ := (thenQ (F80_k7 R) (F80_q1 R))
def F80_q9 (R : Rt) : EQ := (blockQ 0 (F80_q8 R))
def F80_q10 (R : Rt) (J1 : (Int) -> World -> Prop) : EQ := (thenQ (fun E _ w => dInt .i64 (E 43) fun n43 => J1 n43 w) (F80_q9 R))
def F80_6 (R : Rt) (J1 : (Int) -> World -> Prop) (l0 : SV) (p2 p4 : Option Addr) (n6 n42 n43 : Int) (ds : Ds) (w : World) : Prop :=
 Br (decide (n43 < n42)) (
 dwE w fun w55 =>
 ∃ S3 : World -> Prop, S3 w55 /\
 ptrE p4 fun a56 =>
 ∃ l47 : SV, (∀ w', S3 w' -> w'.cell? (a56.add 1) = some (.slice l47.a l47.len l47.cap)) /\
 ∃ l58 : SV, ∃ w57 : World, (Instr.sliceAt 37 (.slice l0.a l0.len l0.cap) (some (.int .i64 (IntKind.i64.wrap ((12 : Int) + (IntKind.i64.wrap ((16 : Int) * n43)))))) (some (.int .i64 (IntKind.i64.wrap ((28 : Int) + (IntKind.i64.wrap ((16 : Int) * n43)))))) (some (.int .i64 (IntKind.i64.wrap ((28 : Int) + (IntKind.i64.wrap ((16 : Int) * n43))))))).run prog w55 = .ok (.slice l58.a l58.len l58.cap) w57 /\
 S3 w57 /\
 Calls prog 113 #[.slice l58.a l58.len l58.cap] w57 fun e w58 =>
 ∃ s59_0 : ByteArray, ∃ n59_1 : Int, ∃ n59_2 : Int, ∃ b59_3 : Bool, e = .returned (.agg #[.string s59_0, .int .i64 n59_1, .int .i64 n59_2, .bool b59_3]) /\
 S3 w58 /\
 alE (.cells #[.string s59_0, .int .i64 n59_1, .int .i64 n59_2, .bool b59_3] 23) w58 fun r60 w59 =>
 S3 w59 /\
 ∃ l61 : SV, ∃ w60 : World, (Builtin.append_ #[32, 32] 32 #[.slice l47.a l47.len l47.cap, .slice (some ⟨r60, 0, none⟩) 1 1]).run prog w59 = .ok (.slice l61.a l61.len l61.cap) w60 /\
 ptrE p4 fun a61 =>
 st1 (a61.add 1) (.slice l61.a l61.len l61.cap) w60 fun w62 =>
 J1 (IntKind.i64.wrap (n43 + 1)) w62) (
 F80_5 R l0 p2 p4 n6 ds w)
def F80_7 (R : Rt) (l0 : SV) (p2 p4 : Option Addr) (n6 n42 n43 : Int) (ds : Ds) (w : World) : Prop :=
 loopT (fun (J1 : (Int) -> World -> Prop) (s : Int) (w : World) => F80_6 R J1 l0 p2 p4 n6 n42 s ds w) n43 w
abbrev F80_8 (R : Rt) (l0 : SV) (p2 p4 : Option Addr) (n6 n42 n43 : Int) (ds : Ds) (w : World) : Prop := F80_7 R l0 p2 p4 n6 n42 n43 ds w
def F80_k11 (R : Rt) : EP := (fun E ds w => dSl (E 0) fun l0 => dPtr (E 2) fun p2 => dPtr (E 4) fun p4 => dInt .i64 (E 6) fun n6 => dInt .i64 (E 42) fun n42 => dInt .i64 (E 43) fun n43 => F80_8 R l0 p2 p4 n6 n42 n43 ds w)
def F80_9 (R : Rt) (l0 : SV) (ds : Ds) (w : World) : Prop :=
 alE (.cells #[.int .i64 0, .slice none 0 0, .slice none 0 0] 35) w fun r2 w63 =>
 alE (.cells #[.int .i64 0, .slice none 0 0, .slice none 0 0] 35) w63 fun r4 w64 =>
 Br (decide ((l0.len : Int) < 14)) (
 ∃ n22_0 : Int, w64.cell? ((⟨r4, 0, none⟩ : Addr).add 0) = some (.int .i64 n22_0) /\
 ∃ l22_1 : SV, w64.cell? ((⟨r4, 0, none⟩ : Addr).add 1) = some (.slice l22_1.a l22_1.len l22_1.cap) /\
 ∃ l22_2 : SV, w64.cell? ((⟨r4, 0, none⟩ : Addr).add 2) = some (.slice l22_2.a l22_2.len l22_2.cap) /\
 stA prog 35 (⟨r2, 0, none⟩ : Addr) #[.int .i64 n22_0, .slice l22_1.a l22_1.len l22_1.cap, .slice l22_2.a l22_2.len l22_2.cap] w64 fun w65 =>
 runD prog ds w65 fun w66 =>
 ∃ nR0_0 : Int, w66.cell? ((⟨r2, 0, none⟩ : Addr).add 0) = some (.int .i64 nR0_0) /\
 ∃ lR0_1 : SV, w66.cell? ((⟨r2, 0, none⟩ : Addr).add 1) = some (.slice lR0_1.a lR0_1.len lR0_1.cap) /\
 ∃ lR0_2 : SV, w66.cell? ((⟨r2, 0, none⟩ : Addr).add 2) = some (.slice lR0_2.a lR0_2.len lR0_2.cap) /\
 R (.returned (.tuple #[.agg #[.int .i64 nR0_0, .slice lR0_1.a lR0_1.len lR0_1.cap, .slice lR0_2.a lR0_2.len lR0_2.cap], .bool false])) w66) (
 ∃ a67 : Addr, l0.a = some a67 /\ 0 ≤ (0 : Int) /\ (0 : Int) < (l0.len : Int) /\
 ∃ n19 : Int, w64.cell? (a67.add ((0 : Int).toNat * 1)) = some (.int .u8 n19) /\
 Br (n19 != 67) (
 ∃ n22_0 : Int, w64.cell? ((⟨r4, 0, none⟩ : Addr).add 0) = some (.int .i64 n22_0) /\
 ∃ l22_1 : SV, w64.cell? ((⟨r4, 0, none⟩ : Addr).add 1) = some (.slice l22_1.a l22_1.len l22_1.cap) /\
 ∃ l22_2 : SV, w64.cell? ((⟨r4, 0, none⟩ : Addr).add 2) = some (.slice l22_2.a l22_2.len l22_2.cap) /\
 stA prog 35 (⟨r2, 0, none⟩ : Addr) #[.int .i64 n22_0, .slice l22_1.a l22_1.len l22_1.cap, .slice l22_2.a l22_2.len l22_2.cap] w64 fun w68 =>
 runD prog ds w68 fun w69 =>
 ∃ nR0_0 : Int, w69.cell? ((⟨r2, 0, none⟩ : Addr).add 0) = some (.int .i64 nR0_0) /\
 ∃ lR0_1 : SV, w69.cell? ((⟨r2, 0, none⟩ : Addr).add 1) = some (.slice lR0_1.a lR0_1.len lR0_1.cap) /\
 ∃ lR0_2 : SV, w69.cell? ((⟨r2, 0, none⟩ : Addr).add 2) = some (.slice lR0_2.a lR0_2.len lR0_2.cap) /\
 R (.returned (.tuple #[.agg #[.int .i64 nR0_0, .slice lR0_1.a lR0_1.len lR0_1.cap, .slice lR0_2.a lR0_2.len lR0_2.cap], .bool false])) w69) (
 ∃ a70 : Addr, l0.a = some a70 /\ 0 ≤ (1 : Int) /\ (1 : Int) < (l0.len : Int) /\
 ∃ n25 : Int, w64.cell? (a70.add ((1 : Int).toNat * 1)) = some (.int .u8 n25) /\
 st1 (⟨r4, 0, none⟩ : Addr) (.int .i64 (IntKind.i64.wrap n25)) w64 fun w71 =>
 dwE w71 fun w72 =>
 ∃ S4 : World -> Prop, S4 w72 /\
 ∃ a73 : Addr, l0.a = some a73 /\ 0 ≤ (10 : Int) /\ (10 : Int) < (l0.len : Int) /\
 ∃ n30 : Int, (∀ w', S4 w' -> w'.cell? (a73.add ((10 : Int).toNat * 1)) = some (.int .u8 n30)) /\
 ∃ a74 : Addr, l0.a = some a74 /\ 0 ≤ (10 : Int) /\ (10 : Int) < (l0.len : Int) /\
 ∃ n34 : Int, (∀ w', S4 w' -> w'.cell? (a74.add ((10 : Int).toNat * 1)) = some (.int .u8 n34)) /\
 Calls prog 110 #[.int .i64 (IntKind.i64.wrap n34)] w72 fun e w75 =>
 ∃ n36 : Int, e = .returned (.int .i64 n36) /\
 S4 w75 /\
 Br (decide (n36 > (l0.len : Int))) (
 ∃ n41_0 : Int, w75.cell? ((⟨r4, 0, none⟩ : Addr).add 0) = some (.int .i64 n41_0) /\
 ∃ l41_1 : SV, w75.cell? ((⟨r4, 0, none⟩ : Addr).add 1) = some (.slice l41_1.a l41_1.len l41_1.cap) /\
 ∃ l41_2 : SV, w75.cell? ((⟨r4, 0, none⟩ : Addr).add 2) = some (.slice l41_2.a l41_2.len l41_2.cap) /\
 stA prog 35 (⟨r2, 0, none⟩ : Addr) #[.int .i64 n41_0, .slice l41_1.a l41_1.len l41_1.cap, .slice l41_2.a l41_2.len l41_2.cap] w75 fun w76 =>
 runD prog ds w76 fun w77 =>
 ∃ nR0_0 : Int, w77.cell? ((⟨r2, 0, none⟩ : Addr).add 0) = some (.int .i64 nR0_0) /\
 ∃ lR0_1 : SV, w77.cell? ((⟨r2, 0, none⟩ : Addr).add 1) = some (.slice lR0_1.a lR0_1.len lR0_1.cap) /\
 ∃ lR0_2 : SV, w77.cell? ((⟨r2, 0, none⟩ : Addr).add 2) = some (.slice lR0_2.a lR0_2.len lR0_2.cap) /\
 R (.returned (.tuple #[.agg #[.int .i64 nR0_0, .slice lR0_1.a lR0_1.len lR0_1.cap, .slice lR0_2.a lR0_2.len lR0_2.cap], .bool false])) w77) (
 F80_8 R l0 (some (⟨r2, 0, none⟩ : Addr)) (some (⟨r4, 0, none⟩ : Addr)) n36 (IntKind.i64.wrap n30) 0 ds w75)))
theorem c80_l : flat (bodyOf f80) = [c80_0, c80_1, c80_2, c80_3, c80_4, c80_5, c80_6, c80_7, c80_8, c80_9, c80_10, c80_11, c80_12, c80_13, c80_14, c80_15, c80_16, c80_17, c80_18] := by kernel_rfl
theorem c80_16_l : flat (innerC c80_16) = [c80_16_0] := by kernel_rfl
theorem c80_16_0_l : flat (innerC c80_16_0) = [c80_16_0_0, c80_16_0_1, c80_16_0_2, c80_16_0_3] := by kernel_rfl
theorem c80_9_l : flat (innerC c80_9) = [c80_9_0] := by kernel_rfl
theorem c80_9_0_l : flat (innerC c80_9_0) = [c80_9_0_0, c80_9_0_1, c80_9_0_2, c80_9_0_3] := by kernel_rfl
theorem F80_1_ok (R : Rt) (p2 p4 : Option Addr) (ds : Ds) (w : World) (E : Env) (e2 : E 2 = .pointer p2) (e4 : E 4 = .pointer p4) (h : F80_1 R p2 p4 ds w) :
    TrL prog f80.ntmps [c80_17, c80_18] (F80_q1 R) E ds w :=
  TrL_leaf (X := F80_1 R p2 p4 ds w) (setAll_cons e2 (setAll_cons e4 setAll_nil)) (by kernel_rfl) (by kernel_rfl) h
theorem F80_2_ok (R : Rt) (J1 : (Int) -> World -> Prop) (l0 : SV) (p2 p4 : Option Addr) (n6 n8 n89 n90 : Int) (ds : Ds) (w : World) (E : Env) (e0 : E 0 = .slice l0.a l0.len l0.cap) (e2 : E 2 = .pointer p2) (e4 : E 4 = .pointer p4) (e6 : E 6 = .int .i64 n6) (e8 : E 8 = .int .i64 n8) (e89 : E 89 = .int .i64 n89) (e90 : E 90 = .int .i64 n90) (h : F80_2 R J1 l0 p2 p4 n6 n8 n89 n90 ds w) :
    TrL prog f80.ntmps [c80_16_0_0, c80_16_0_1, c80_16_0_2, c80_16_0_3] (F80_q5 R J1) E ds w :=
  TrL_leaf (X := F80_2 R J1 l0 p2 p4 n6 n8 n89 n90 ds w) (setAll_cons e0 (setAll_cons e2 (setAll_cons e4 (setAll_cons e6 (setAll_cons e8 (setAll_cons e89 (setAll_cons e90 setAll_nil))))))) (by kernel_rfl) (by kernel_rfl) h
theorem F80_3_ok (R : Rt) (l0 : SV) (p2 p4 : Option Addr) (n6 n8 n89 n90 : Int) (ds : Ds) (w : World) (E : Env) (e0 : E 0 = .slice l0.a l0.len l0.cap) (e2 : E 2 = .pointer p2) (e4 : E 4 = .pointer p4) (e6 : E 6 = .int .i64 n6) (e8 : E 8 = .int .i64 n8) (e89 : E 89 = .int .i64 n89) (e90 : E 90 = .int .i64 n90) (h : F80_3 R l0 p2 p4 n6 n8 n89 n90 ds w) :
    TrL prog f80.ntmps [c80_16_0] (F80_q4 R) E ds w :=
  TrL_one (Tr_loop' (c := innerC c80_16_0) (σ := Int) (enc := (fun (s : Int) (E : Env) => E 90 = .int .i64 s)) (D := (fun E K => dInt .i64 (E 90) fun n90 => K n90)) (F := (fun (J1 : (Int) -> World -> Prop) (s : Int) (w : World) => F80_2 R J1 l0 p2 p4 n6 n8 n89 s ds w)) (s0 := n90) (by kernel_rfl) c80_16_0_l e90 (by kernel_rfl) (fun E K hD => by obtain ⟨n90, e90, hD⟩ := dInt_elim hD; exact ⟨n90, e90, hD⟩)
      (fun J1 s E' w' he ha hF => by
      have e90' := he
      exact F80_2_ok R J1 l0 p2 p4 n6 n8 n89 s ds w' E' ((ha 0 (by kernel_rfl)).trans e0) ((ha 2 (by kernel_rfl)).trans e2) ((ha 4 (by kernel_rfl)).trans e4) ((ha 6 (by kernel_rfl)).trans e6) ((ha 8 (by kernel_rfl)).trans e8) ((ha 89 (by kernel_rfl)).trans e89) e90' hF) h)
theorem F80_4_ok (R : Rt) (l0 : SV) (p2 p4 : Option Addr) (n6 n8 n89 n90 : Int) (ds : Ds) (w : World) (E : Env) (e0 : E 0 = .slice l0.a l0.len l0.cap) (e2 : E 2 = .pointer p2) (e4 : E 4 = .pointer p4) (e6 : E 6 = .int .i64 n6) (e8 : E 8 = .int .i64 n8) (e89 : E 89 = .int .i64 n89) (e90 : E 90 = .int .i64 n90) (h : F80_4 R l0 p2 p4 n6 n8 n89 n90 ds w) :
    TrL prog f80.ntmps [c80_16, c80_17, c80_18] (F80_q1 R) E ds w :=
  TrL_head (K := (F80_k2 R)) (Tr_block' (c := innerC c80_16) (by kernel_rfl) c80_16_l (F80_3_ok R l0 p2 p4 n6 n8 n89 n90 ds w E e0 e2 e4 e6 e8 e89 e90 h))
    (fun E' ds' w' hD => by
      obtain ⟨p2, e2, hD⟩ := dPtr_elim hD; obtain ⟨p4, e4, hD⟩ := dPtr_elim hD; exact F80_1_ok R p2 p4 ds' w' E' e2 e4 hD)
theorem F80_5_ok (R : Rt) (l0 : SV) (p2 p4 : Option Addr) (n6 : Int) (ds : Ds) (w : World) (E : Env) (e0 : E 0 = .slice l0.a l0.len l0.cap) (e2 : E 2 = .pointer p2) (e4 : E 4 = .pointer p4) (e6 : E 6 = .int .i64 n6) (h : F80_5 R l0 p2 p4 n6 ds w) :
    TrL prog f80.ntmps [c80_10, c80_11, c80_12, c80_13, c80_14, c80_15, c80_16, c80_17, c80_18] (F80_q1 R) E ds w :=
  TrL_piece (pre := [c80_10, c80_11, c80_12, c80_13, c80_14, c80_15]) (K := (F80_k6 R)) (X := F80_5 R l0 p2 p4 n6 ds w) (setAll_cons e0 (setAll_cons e2 (setAll_cons e4 (setAll_cons e6 setAll_nil)))) (by kernel_rfl) (by kernel_rfl)
    (fun E' ds' w' hD => by
      obtain ⟨l0, e0, hD⟩ := dSl_elim hD; obtain ⟨p2, e2, hD⟩ := dPtr_elim hD; obtain ⟨p4, e4, hD⟩ := dPtr_elim hD; obtain ⟨n6, e6, hD⟩ := dInt_elim hD; obtain ⟨n8, e8, hD⟩ := dInt_elim hD; obtain ⟨n89, e89, hD⟩ := dInt_elim hD; obtain ⟨n90, e90, hD⟩ := dInt_elim hD; exact F80_4_ok R l0 p2 p4 n6 n8 n89 n90 ds' w' E' e0 e2 e4 e6 e8 e89 e90 hD) h
theorem F80_6_ok (R : Rt) (J1 : (Int) -> World -> Prop) (l0 : SV) (p2 p4 : Option Addr) (n6 n42 n43 : Int) (ds : Ds) (w : World) (E : Env) (e0 : E 0 = .slice l0.a l0.len l0.cap) (e2 : E 2 = .pointer p2) (e4 : E 4 = .pointer p4) (e6 : E 6 = .int .i64 n6) (e42 : E 42 = .int .i64 n42) (e43 : E 43 = .int .i64 n43) (h : F80_6 R J1 l0 p2 p4 n6 n42 n43 ds w) :
    TrL prog f80.ntmps [c80_9_0_0, c80_9_0_1, c80_9_0_2, c80_9_0_3] (F80_q10 R J1) E ds w :=
  TrL_leaf (X := F80_6 R J1 l0 p2 p4 n6 n42 n43 ds w) (setAll_cons e0 (setAll_cons e2 (setAll_cons e4 (setAll_cons e6 (setAll_cons e42 (setAll_cons e43 setAll_nil)))))) (by kernel_rfl) (by kernel_rfl) h
theorem F80_7_ok (R : Rt) (l0 : SV) (p2 p4 : Option Addr) (n6 n42 n43 : Int) (ds : Ds) (w : World) (E : Env) (e0 : E 0 = .slice l0.a l0.len l0.cap) (e2 : E 2 = .pointer p2) (e4 : E 4 = .pointer p4) (e6 : E 6 = .int .i64 n6) (e42 : E 42 = .int .i64 n42) (e43 : E 43 = .int .i64 n43) (h : F80_7 R l0 p2 p4 n6 n42 n43 ds w) :
    TrL prog f80.ntmps [c80_9_0] (F80_q9 R) E ds w :=
  TrL_one (Tr_loop' (c := innerC c80_9_0) (σ := Int) (enc := (fun (s : Int) (E : Env) => E 43 = .int .i64 s)) (D := (fun E K => dInt .i64 (E 43) fun n43 => K n43)) (F := (fun (J1 : (Int) -> World -> Prop) (s : Int) (w : World) => F80_6 R J1 l0 p2 p4 n6 n42 s ds w)) (s0 := n43) (by kernel_rfl) c80_9_0_l e43 (by kernel_rfl) (fun E K hD => by obtain ⟨n43, e43, hD⟩ := dInt_elim hD; exact ⟨n43, e43, hD⟩)
      (fun J1 s E' w' he ha hF => by
      have e43' := he
      exact F80_6_ok R J1 l0 p2 p4 n6 n42 s ds w' E' ((ha 0 (by kernel_rfl)).trans e0) ((ha 2 (by kernel_rfl)).trans e2) ((ha 4 (by kernel_rfl)).trans e4) ((ha 6 (by kernel_rfl)).trans e6) ((ha 42 (by kernel_rfl)).trans e42) e43' hF) h)
theorem F80_8_ok (R : Rt) (l0 : SV) (p2 p4 : Option Addr) (n6 n42 n43 : Int) (ds : Ds) (w : World) (E : Env) (e0 : E 0 = .slice l0.a l0.len l0.cap) (e2 : E 2 = .pointer p2) (e4 : E 4 = .pointer p4) (e6 : E 6 = .int .i64 n6) (e42 : E 42 = .int .i64 n42) (e43 : E 43 = .int .i64 n43) (h : F80_8 R l0 p2 p4 n6 n42 n43 ds w) :
    TrL prog f80.ntmps [c80_9, c80_10, c80_11, c80_12, c80_13, c80_14, c80_15, c80_16, c80_17, c80_18] (F80_q1 R) E ds w :=
  TrL_head (K := (F80_k7 R)) (Tr_block' (c := innerC c80_9) (by kernel_rfl) c80_9_l (F80_7_ok R l0 p2 p4 n6 n42 n43 ds w E e0 e2 e4 e6 e42 e43 h))
    (fun E' ds' w' hD => by
      obtain ⟨l0, e0, hD⟩ := dSl_elim hD; obtain ⟨p2, e2, hD⟩ := dPtr_elim hD; obtain ⟨p4, e4, hD⟩ := dPtr_elim hD; obtain ⟨n6, e6, hD⟩ := dInt_elim hD; exact F80_5_ok R l0 p2 p4 n6 ds' w' E' e0 e2 e4 e6 hD)
theorem F80_9_ok (R : Rt) (l0 : SV) (ds : Ds) (w : World) (E : Env) (e0 : E 0 = .slice l0.a l0.len l0.cap) (h : F80_9 R l0 ds w) :
    TrL prog f80.ntmps [c80_0, c80_1, c80_2, c80_3, c80_4, c80_5, c80_6, c80_7, c80_8, c80_9, c80_10, c80_11, c80_12, c80_13, c80_14, c80_15, c80_16, c80_17, c80_18] (F80_q1 R) E ds w :=
  TrL_piece (pre := [c80_0, c80_1, c80_2, c80_3, c80_4, c80_5, c80_6, c80_7, c80_8]) (K := (F80_k11 R)) (X := F80_9 R l0 ds w) (setAll_cons e0 setAll_nil) (by kernel_rfl) (by kernel_rfl)
    (fun E' ds' w' hD => by
      obtain ⟨l0, e0, hD⟩ := dSl_elim hD; obtain ⟨p2, e2, hD⟩ := dPtr_elim hD; obtain ⟨p4, e4, hD⟩ := dPtr_elim hD; obtain ⟨n6, e6, hD⟩ := dInt_elim hD; obtain ⟨n42, e42, hD⟩ := dInt_elim hD; obtain ⟨n43, e43, hD⟩ := dInt_elim hD; exact F80_8_ok R l0 p2 p4 n6 n42 n43 ds' w' E' e0 e2 e4 e6 e42 e43 hD) h
theorem F80_calls (l0 : SV) (w : World) (R : Rt) (h : F80_9 R l0 [] w) : Calls prog 80 #[.slice l0.a l0.len l0.cap] w R :=
  calls_of_L (l := [c80_0, c80_1, c80_2, c80_3, c80_4, c80_5, c80_6, c80_7, c80_8, c80_9, c80_10, c80_11, c80_12, c80_13, c80_14, c80_15, c80_16, c80_17, c80_18]) func80 (by kernel_rfl) (by rw [ntmps80]; exact Nat.le_of_ble_eq_true (by kernel_rfl)) c80_l
    (F80_9_ok R l0 [] w _ rfl h)
noncomputable def c113_0 := cI24 f113 0
noncomputable def c113_1 := cI24 f113 1
noncomputable def c113_2 := cI24 f113 2
noncomputable def c113_3 := cI24 f113 3
noncomputable def c113_4 := cI24 f113 4
noncomputable def c113_5 := cI24 f113 5
noncomputable def c113_3_0 := cJ24 c113_3 0
noncomputable def c113_3_0_0 := cJ24 c113_3_0 0
noncomputable def c113_3_0_1 := cJ24 c113_3_0 1
noncomputable def c113_3_0_2 := cJ24 c113_3_0 2
def F113_q1 (R : Rt) : EQ := endQ prog f113.results.toList R
def F113_1 (R : Rt) (p2 p3 : Option Addr) (ds : Ds) (w : World) : Prop :=
 ptrE p3 fun a1 =>
 ∃ s34_0 : ByteArray, w.cell? (a1.add 0) = some (.string s34_0) /\
 ∃ n34_1 : Int, w.cell? (a1.add 1) = some (.int .i64 n34_1) /\
 ∃ n34_2 : Int, w.cell? (a1.add 2) = some (.int .i64 n34_2) /\
 ∃ b34_3 : Bool, w.cell? (a1.add 3) = some (.bool b34_3) /\
 ptrE p2 fun a2 =>
 stA prog 23 a2 #[.string s34_0, .int .i64 n34_1, .int .i64 n34_2, .bool b34_3] w fun w3 =>
 runD prog ds w3 fun w4 =>
 ptrE p2 fun a5 =>
 ∃ sR0_0 : ByteArray, w4.cell? (a5.add 0) = some (.string sR0_0) /\
 ∃ nR0_1 : Int, w4.cell? (a5.add 1) = some (.int .i64 nR0_1) /\
 ∃ nR0_2 : Int, w4.cell? (a5.add 2) = some (.int .i64 nR0_2) /\
 ∃ bR0_3 : Bool, w4.cell? (a5.add 3) = some (.bool bR0_3) /\
 R (.returned (.agg #[.string sR0_0, .int .i64 nR0_1, .int .i64 nR0_2, .bool bR0_3])) w4
def F113_k2 (R : Rt) : EP := (fun E ds w => dPtr (E 2) fun p2 => dPtr (E 3) fun p3 => F113_1 R p2 p3 ds w)
def F113_q3 (R : Rt) : EQ := (thenQ (F113_k2 R) (F113_q1 R))
def F113_q4 (R : Rt) : EQ := (blockQ 0 (F113_q3 R))
def F113_q5 (R : Rt) (J1 : (Unit) -> World -> Prop) : EQ := (thenQ (fun E _ w => J1 () w) (F113_q4 R))
def F113_2 (R : Rt) (J1 : (Unit) -> World -> Prop) (l0 : SV) (p2 p3 p20 : Option Addr) (ds : Ds) (w : World) : Prop :=
 (∃ w6 : World, (Instr.next (.pointer p20) false 0).run prog w = .ok (.tuple #[.bool false]) w6 /\
 F113_1 R p2 p3 ds w6) ∨ (∃ k21 v21 : Value, ∃ w7 : World, (Instr.next (.pointer p20) false 0).run prog w = .ok (.tuple #[.bool true, k21, v21]) w7 /\
 ∃ k23 v23 : Value, ∃ w8 : World, (Instr.entry (.pointer p20)).run prog w7 = .ok (.tuple #[k23, v23]) w8 /\
 dInt .i64 k23 fun n24 =>
 dAgg v23 fun q25 =>
 dHd q25 fun x25_0 q25_0 =>
 dInt .u8 x25_0 fun n25_0 =>
 dHd q25_0 fun x25_1 q25_1 =>
 dInt .i64 x25_1 fun n25_1 =>
 dHd q25_1 fun x25_2 q25_2 =>
 dInt .i64 x25_2 fun n25_2 =>
 dHd q25_2 fun x25_3 q25_3 =>
 dHd q25_3 fun x25_4 q25_4 =>
 dNil q25_4 (
 alE (.cells #[.int .u8 0, .int .i64 0, .int .i64 0, .nilFunc, .nilFunc] 102) w8 fun r5 w9 =>
 stA prog 102 (⟨r5, 0, none⟩ : Addr) #[.int .u8 n25_0, .int .i64 n25_1, .int .i64 n25_2, x25_3, x25_4] w9 fun w10 =>
 dwE w10 fun w11 =>
 ∃ n27 : Int, w11.cell? (⟨r5, 0, none⟩ : Addr) = some (.int .u8 n27) /\
 ∃ a12 : Addr, l0.a = some a12 /\ 0 ≤ (10 : Int) /\ (10 : Int) < (l0.len : Int) /\
 ∃ n30 : Int, w11.cell? (a12.add ((10 : Int).toNat * 1)) = some (.int .u8 n30) /\
 Br (n27 == n30) (
 ptrE p3 fun a13 =>
 st1 (a13.add 1) (.int .i64 n24) w11 fun w14 =>
 J1 () w14) (
 J1 () w11)))
def F113_3 (R : Rt) (l0 : SV) (p2 p3 p20 : Option Addr) (ds : Ds) (w : World) : Prop :=
 loopT (fun (J1 : (Unit) -> World -> Prop) (_ : Unit) (w : World) => F113_2 R J1 l0 p2 p3 p20 ds w) () w
abbrev F113_4 (R : Rt) (l0 : SV) (p2 p3 p20 : Option Addr) (ds : Ds) (w : World) : Prop := F113_3 R l0 p2 p3 p20 ds w
def F113_k6 (R : Rt) : EP := (fun E ds w => dSl (E 0) fun l0 => dPtr (E 2) fun p2 => dPtr (E 3) fun p3 => dPtr (E 20) fun p20 => F113_4 R l0 p2 p3 p20 ds w)
def F113_5 (R : Rt) (l0 : SV) (ds : Ds) (w : World) : Prop :=
 alE (.cells #[.string (⟨#[]⟩ : ByteArray), .int .i64 0, .int .i64 0, .bool false] 23) w fun r2 w15 =>
 dwE w15 fun w16 =>
 ∃ S2 : World -> Prop, S2 w16 /\
 0 ≤ (10 : Int) /\ (10 : Int).toNat ≤ l0.cap /\ 0 ≤ (10 : Int).toNat /\
 ∃ a17 : Addr, l0.a = some a17 /\ 0 ≤ (11 : Int) /\ (11 : Int) < (l0.len : Int) /\
 ∃ n12 : Int, (∀ w', S2 w' -> w'.cell? (a17.add ((11 : Int).toNat * 1)) = some (.int .u8 n12)) /\
 ∃ a18 : Addr, l0.a = some a18 /\ 0 ≤ (12 : Int) /\ (12 : Int) < (l0.len : Int) /\
 ∃ n16 : Int, (∀ w', S2 w' -> w'.cell? (a18.add ((12 : Int).toNat * 1)) = some (.int .u8 n16)) /\
 (
 ∃ s8 : ByteArray, ∃ w19 : World, (convert 37 9 (.slice (if l0.cap = 0 then l0.a else l0.a.map (fun x => x.add (0 * 1))) ((10 : Int).toNat - 0) (l0.cap - 0))).run prog w16 = .ok (.string s8) w19 /\
 S2 w19 /\
 (
 Calls prog 51 #[.string s8, .string (⟨#[0]⟩ : ByteArray)] w19 fun e w20 =>
 ∃ s9 : ByteArray, e = .returned (.string s9) /\
 S2 w20 /\
 alE (.cells #[.string (⟨#[]⟩ : ByteArray), .int .i64 0, .int .i64 0, .bool false] 23) w20 fun r3 w21 =>
 S2 w21 /\
 stA prog 23 (⟨r3, 0, none⟩ : Addr) #[.string s9, .int .i64 0, .int .i64 (IntKind.i64.wrap n12), .bool (n16 == 1)] w21 fun w22 =>
 Calls prog 89 #[] w22 fun e w23 =>
 ∃ m19 : Option Nat, e = .returned (.map m19) /\
 ∃ p20 : Option Addr, ∃ w24 : World, (Instr.range 104 (.map m19)).run prog w23 = .ok (.pointer p20) w24 /\
 F113_4 R l0 (some (⟨r2, 0, none⟩ : Addr)) (some (⟨r3, 0, none⟩ : Addr)) p20 ds w24) /\ (
 alE (.cells #[.string (⟨#[]⟩ : ByteArray), .int .i64 0, .int .i64 0, .bool false] 23) w19 fun r3 w25 =>
 S2 w25 /\
 Calls prog 51 #[.string s8, .string (⟨#[0]⟩ : ByteArray)] w25 fun e w26 =>
 ∃ s9 : ByteArray, e = .returned (.string s9) /\
 S2 w26 /\
 stA prog 23 (⟨r3, 0, none⟩ : Addr) #[.string s9, .int .i64 0, .int .i64 (IntKind.i64.wrap n12), .bool (n16 == 1)] w26 fun w27 =>
 Calls prog 89 #[] w27 fun e w28 =>
 ∃ m19 : Option Nat, e = .returned (.map m19) /\
 ∃ p20 : Option Addr, ∃ w29 : World, (Instr.range 104 (.map m19)).run prog w28 = .ok (.pointer p20) w29 /\
 F113_4 R l0 (some (⟨r2, 0, none⟩ : Addr)) (some (⟨r3, 0, none⟩ : Addr)) p20 ds w29)) /\ (
 alE (.cells #[.string (⟨#[]⟩ : ByteArray), .int .i64 0, .int .i64 0, .bool false] 23) w16 fun r3 w30 =>
 S2 w30 /\
 ∃ s8 : ByteArray, ∃ w31 : World, (convert 37 9 (.slice (if l0.cap = 0 then l0.a else l0.a.map (fun x => x.add (0 * 1))) ((10 : Int).toNat - 0) (l0.cap - 0))).run prog w30 = .ok (.string s8) w31 /\
 S2 w31 /\
 Calls prog 51 #[.string s8, .string (⟨#[0]⟩ : ByteArray)] w31 fun e w32 =>
 ∃ s9 : ByteArray, e = .returned (.string s9) /\
 S2 w32 /\
 stA prog 23 (⟨r3, 0, none⟩ : Addr) #[.string s9, .int .i64 0, .int .i64 (IntKind.i64.wrap n12), .bool (n16 == 1)] w32 fun w33 =>
 Calls prog 89 #[] w33 fun e w34 =>
 ∃ m19 : Option Nat, e = .returned (.map m19) /\
 ∃ p20 : Option Addr, ∃ w35 : World, (Instr.range 104 (.map m19)).run prog w34 = .ok (.pointer p20) w35 /\
 F113_4 R l0 (some (⟨r2, 0, none⟩ : Addr)) (some (⟨r3, 0, none⟩ : Addr)) p20 ds w35)
theorem c113_l : flat (bodyOf f113) = [c113_0, c113_1, c113_2, c113_3, c113_4, c113_5] := by kernel_rfl
theorem c113_3_l : flat (innerC c113_3) = [c113_3_0] := by kernel_rfl
theorem c113_3_0_l : flat (innerC c113_3_0) = [c113_3_0_0, c113_3_0_1, c113_3_0_2] := by kernel_rfl
theorem F113_1_ok (R : Rt) (p2 p3 : Option Addr) (ds : Ds) (w : World) (E : Env) (e2 : E 2 = .pointer p2) (e3 : E 3 = .pointer p3) (h : F113_1 R p2 p3 ds w) :
    TrL prog f113.ntmps [c113_4, c113_5] (F113_q1 R) E ds w :=
  TrL_leaf (X := F113_1 R p2 p3 ds w) (setAll_cons e2 (setAll_cons e3 setAll_nil)) (by kernel_rfl) (by kernel_rfl) h
theorem F113_2_ok (R : Rt) (J1 : (Unit) -> World -> Prop) (l0 : SV) (p2 p3 p20 : Option Addr) (ds : Ds) (w : World) (E : Env) (e0 : E 0 = .slice l0.a l0.len l0.cap) (e2 : E 2 = .pointer p2) (e3 : E 3 = .pointer p3) (e20 : E 20 = .pointer p20) (h : F113_2 R J1 l0 p2 p3 p20 ds w) :
    TrL prog f113.ntmps [c113_3_0_0, c113_3_0_1, c113_3_0_2] (F113_q5 R J1) E ds w :=
  TrL_leaf (X := F113_2 R J1 l0 p2 p3 p20 ds w) (setAll_cons e0 (setAll_cons e2 (setAll_cons e3 (setAll_cons e20 setAll_nil)))) (by kernel_rfl) (by kernel_rfl) h
theorem F113_3_ok (R : Rt) (l0 : SV) (p2 p3 p20 : Option Addr) (ds : Ds) (w : World) (E : Env) (e0 : E 0 = .slice l0.a l0.len l0.cap) (e2 : E 2 = .pointer p2) (e3 : E 3 = .pointer p3) (e20 : E 20 = .pointer p20) (h : F113_3 R l0 p2 p3 p20 ds w) :
    TrL prog f113.ntmps [c113_3_0] (F113_q4 R) E ds w :=
  TrL_one (Tr_loop' (c := innerC c113_3_0) (σ := Unit) (enc := (fun (_ : Unit) (_ : Env) => True)) (D := (fun E K => K ())) (F := (fun (J1 : (Unit) -> World -> Prop) (_ : Unit) (w : World) => F113_2 R J1 l0 p2 p3 p20 ds w)) (s0 := ()) (by kernel_rfl) c113_3_0_l trivial (by kernel_rfl) (fun E K hD => by exact ⟨(), trivial, hD⟩)
      (fun J1 _ E' w' he ha hF => by
      skip
      exact F113_2_ok R J1 l0 p2 p3 p20 ds w' E' ((ha 0 (by kernel_rfl)).trans e0) ((ha 2 (by kernel_rfl)).trans e2) ((ha 3 (by kernel_rfl)).trans e3) ((ha 20 (by kernel_rfl)).trans e20) hF) h)
theorem F113_4_ok (R : Rt) (l0 : SV) (p2 p3 p20 : Option Addr) (ds : Ds) (w : World) (E : Env) (e0 : E 0 = .slice l0.a l0.len l0.cap) (e2 : E 2 = .pointer p2) (e3 : E 3 = .pointer p3) (e20 : E 20 = .pointer p20) (h : F113_4 R l0 p2 p3 p20 ds w) :
    TrL prog f113.ntmps [c113_3, c113_4, c113_5] (F113_q1 R) E ds w :=
  TrL_head (K := (F113_k2 R)) (Tr_block' (c := innerC c113_3) (by kernel_rfl) c113_3_l (F113_3_ok R l0 p2 p3 p20 ds w E e0 e2 e3 e20 h))
    (fun E' ds' w' hD => by
      obtain ⟨p2, e2, hD⟩ := dPtr_elim hD; obtain ⟨p3, e3, hD⟩ := dPtr_elim hD; exact F113_1_ok R p2 p3 ds' w' E' e2 e3 hD)
theorem F113_5_ok (R : Rt) (l0 : SV) (ds : Ds) (w : World) (E : Env) (e0 : E 0 = .slice l0.a l0.len l0.cap) (h : F113_5 R l0 ds w) :
    TrL prog f113.ntmps [c113_0, c113_1, c113_2, c113_3, c113_4, c113_5] (F113_q1 R) E ds w :=
  TrL_piece (pre := [c113_0, c113_1, c113_2]) (K := (F113_k6 R)) (X := F113_5 R l0 ds w) (setAll_cons e0 setAll_nil) (by kernel_rfl) (by kernel_rfl)
    (fun E' ds' w' hD => by
      obtain ⟨l0, e0, hD⟩ := dSl_elim hD; obtain ⟨p2, e2, hD⟩ := dPtr_elim hD; obtain ⟨p3, e3, hD⟩ := dPtr_elim hD; obtain ⟨p20, e20, hD⟩ := dPtr_elim hD; exact F113_4_ok R l0 p2 p3 p20 ds' w' E' e0 e2 e3 e20 hD) h
theorem F113_calls (l0 : SV) (w : World) (R : Rt) (h : F113_5 R l0 [] w) : Calls prog 113 #[.slice l0.a l0.len l0.cap] w R :=
  calls_of_L (l := [c113_0, c113_1, c113_2, c113_3, c113_4, c113_5]) func113 (by kernel_rfl) (by rw [ntmps113]; exact Nat.le_of_ble_eq_true (by kernel_rfl)) c113_l
    (F113_5_ok R l0 [] w _ rfl h)
noncomputable def c114_0 := cI24 f114 0
noncomputable def c114_1 := cI24 f114 1
noncomputable def c114_2 := cI24 f114 2
noncomputable def c114_3 := cI24 f114 3
noncomputable def c114_4 := cI24 f114 4
noncomputable def c114_5 := cI24 f114 5
noncomputable def c114_3_0 := cJ24 c114_3 0
noncomputable def c114_3_0_0 := cJ24 c114_3_0 0
noncomputable def c114_3_0_1 := cJ24 c114_3_0 1
noncomputable def c114_3_0_2 := cJ24 c114_3_0 2
noncomputable def c114_3_0_3 := cJ24 c114_3_0 3
def F114_q1 (R : Rt) : EQ := endQ prog f114.results.toList R
def F114_1 (R : Rt) (n3 : Int) (ds : Ds) (w : World) : Prop :=
 runD prog ds w fun w1 =>
 R (.returned (.int .i64 n3)) w1
def F114_k2 (R : Rt) : EP := (fun E ds w => dInt .i64 (E 3) fun n3 => F114_1 R n3 ds w)
def F114_q3 (R : Rt) : EQ := (thenQ (F114_k2 R) (F114_q1 R))
def F114_q4 (R : Rt) : EQ := (blockQ 0 (F114_q3 R))
def F114_q5 (R : Rt) (J1 : (Int × Int) -> World -> Prop) : EQ := (thenQ (fun E _ w => dInt .i64 (E 3) fun n3 => dInt .i64 (E 4) fun n4 => J1 (n3, n4) w) (F114_q4 R))
def F114_2 (R : Rt) (J1 : (Int × Int) -> World -> Prop) (l0 : SV) (n3 n4 : Int) (ds : Ds) (w : World) : Prop :=
 Br (decide (n4 ≥ 0)) (
 0 ≤ (8 : Int) /\
 ∃ a2 : Addr, l0.a = some a2 /\ 0 ≤ n4 /\ n4 < (l0.len : Int) /\
 ∃ n17 : Int, w.cell? (a2.add (n4.toNat * 1)) = some (.int .u8 n17) /\
 J1 ((IntKind.i64.wrap ((BitVec.ofInt 64 (IntKind.i64.wrap (n3 * 2 ^ 8)) ||| BitVec.ofInt 64 (IntKind.i64.wrap n17)).toNat : Nat)), (IntKind.i64.wrap (n4 - 1))) w) (
 F114_1 R n3 ds w)
def F114_3 (R : Rt) (l0 : SV) (n3 n4 : Int) (ds : Ds) (w : World) : Prop :=
 loopT (fun (J1 : (Int × Int) -> World -> Prop) (s : Int × Int) (w : World) => F114_2 R J1 l0 s.1 s.2 ds w) (n3, n4) w
abbrev F114_4 (R : Rt) (l0 : SV) (n3 n4 : Int) (ds : Ds) (w : World) : Prop := F114_3 R l0 n3 n4 ds w
def F114_k6 (R : Rt) : EP := (fun E ds w => dSl (E 0) fun l0 => dInt .i64 (E 3) fun n3 => dInt .i64 (E 4) fun n4 => F114_4 R l0 n3 n4 ds w)
def F114_5 (R : Rt) (l0 : SV) (ds : Ds) (w : World) : Prop :=
 F114_4 R l0 0 (IntKind.i64.wrap ((l0.len : Int) - 1)) ds w
theorem c114_l : flat (bodyOf f114) = [c114_0, c114_1, c114_2, c114_3, c114_4, c114_5] := by kernel_rfl
theorem c114_3_l : flat (innerC c114_3) = [c114_3_0] := by kernel_rfl
theorem c114_3_0_l : flat (innerC c114_3_0) = [c114_3_0_0, c114_3_0_1, c114_3_0_2, c114_3_0_3] := by kernel_rfl
theorem F114_1_ok (R : Rt) (n3 : Int) (ds : Ds) (w : World) (E : Env) (e3 : E 3 = .int .i64 n3) (h : F114_1 R n3 ds w) :
    TrL prog f114.ntmps [c114_4, c114_5] (F114_q1 R) E ds w :=
  TrL_leaf (X := F114_1 R n3 ds w) (setAll_cons e3 setAll_nil) (by kernel_rfl) (by kernel_rfl) h
theorem F114_2_ok (R : Rt) (J1 : (Int × Int) -> World -> Prop) (l0 : SV) (n3 n4 : Int) (ds : Ds) (w : World) (E : Env) (e0 : E 0 = .slice l0.a l0.len l0.cap) (e3 : E 3 = .int .i64 n3) (e4 : E 4 = .int .i64 n4) (h : F114_2 R J1 l0 n3 n4 ds w) :
    TrL prog f114.ntmps [c114_3_0_0, c114_3_0_1, c114_3_0_2, c114_3_0_3] (F114_q5 R J1) E ds w :=
  TrL_leaf (X := F114_2 R J1 l0 n3 n4 ds w) (setAll_cons e0 (setAll_cons e3 (setAll_cons e4 setAll_nil))) (by kernel_rfl) (by kernel_rfl) h
theorem F114_3_ok (R : Rt) (l0 : SV) (n3 n4 : Int) (ds : Ds) (w : World) (E : Env) (e0 : E 0 = .slice l0.a l0.len l0.cap) (e3 : E 3 = .int .i64 n3) (e4 : E 4 = .int .i64 n4) (h : F114_3 R l0 n3 n4 ds w) :
    TrL prog f114.ntmps [c114_3_0] (F114_q4 R) E ds w :=
  TrL_one (Tr_loop' (c := innerC c114_3_0) (σ := Int × Int) (enc := (fun (s : Int × Int) (E : Env) => E 3 = .int .i64 s.1 /\ E 4 = .int .i64 s.2)) (D := (fun E K => dInt .i64 (E 3) fun n3 => dInt .i64 (E 4) fun n4 => K (n3, n4))) (F := (fun (J1 : (Int × Int) -> World -> Prop) (s : Int × Int) (w : World) => F114_2 R J1 l0 s.1 s.2 ds w)) (s0 := (n3, n4)) (by kernel_rfl) c114_3_0_l ⟨e3, e4⟩ (by kernel_rfl) (fun E K hD => by obtain ⟨n3, e3, hD⟩ := dInt_elim hD; obtain ⟨n4, e4, hD⟩ := dInt_elim hD; exact ⟨(n3, n4), ⟨e3, e4⟩, hD⟩)
      (fun J1 s E' w' he ha hF => by
      obtain ⟨e3', e4'⟩ := he
      exact F114_2_ok R J1 l0 s.1 s.2 ds w' E' ((ha 0 (by kernel_rfl)).trans e0) e3' e4' hF) h)
theorem F114_4_ok (R : Rt) (l0 : SV) (n3 n4 : Int) (ds : Ds) (w : World) (E : Env) (e0 : E 0 = .slice l0.a l0.len l0.cap) (e3 : E 3 = .int .i64 n3) (e4 : E 4 = .int .i64 n4) (h : F114_4 R l0 n3 n4 ds w) :
    TrL prog f114.ntmps [c114_3, c114_4, c114_5] (F114_q1 R) E ds w :=
  TrL_head (K := (F114_k2 R)) (Tr_block' (c := innerC c114_3) (by kernel_rfl) c114_3_l (F114_3_ok R l0 n3 n4 ds w E e0 e3 e4 h))
    (fun E' ds' w' hD => by
      obtain ⟨n3, e3, hD⟩ := dInt_elim hD; exact F114_1_ok R n3 ds' w' E' e3 hD)
theorem F114_5_ok (R : Rt) (l0 : SV) (ds : Ds) (w : World) (E : Env) (e0 : E 0 = .slice l0.a l0.len l0.cap) (h : F114_5 R l0 ds w) :
    TrL prog f114.ntmps [c114_0, c114_1, c114_2, c114_3, c114_4, c114_5] (F114_q1 R) E ds w :=
  TrL_piece (pre := [c114_0, c114_1, c114_2]) (K := (F114_k6 R)) (X := F114_5 R l0 ds w) (setAll_cons e0 setAll_nil) (by kernel_rfl) (by kernel_rfl)
    (fun E' ds' w' hD => by
      obtain ⟨l0, e0, hD⟩ := dSl_elim hD; obtain ⟨n3, e3, hD⟩ := dInt_elim hD; obtain ⟨n4, e4, hD⟩ := dInt_elim hD; exact F114_4_ok R l0 n3 n4 ds' w' E' e0 e3 e4 hD) h
theorem F114_calls (l0 : SV) (w : World) (R : Rt) (h : F114_5 R l0 [] w) : Calls prog 114 #[.slice l0.a l0.len l0.cap] w R :=
  calls_of_L (l := [c114_0, c114_1, c114_2, c114_3, c114_4, c114_5]) func114 (by kernel_rfl) (by rw [ntmps114]; exact Nat.le_of_ble_eq_true (by kernel_rfl)) c114_l
    (F114_5_ok R l0 [] w _ rfl h)
noncomputable def c115_0 := cI24 f115 0
noncomputable def c115_1 := cI24 f115 1
noncomputable def c115_2 := cI24 f115 2
noncomputable def c115_3 := cI24 f115 3
noncomputable def c115_4 := cI24 f115 4
noncomputable def c115_5 := cI24 f115 5
noncomputable def c115_6 := cI24 f115 6
noncomputable def c115_4_0 := cJ24 c115_4 0
noncomputable def c115_4_0_0 := cJ24 c115_4_0 0
noncomputable def c115_4_0_1 := cJ24 c115_4_0 1
noncomputable def c115_4_0_2 := cJ24 c115_4_0 2
noncomputable def c115_4_0_3 := cJ24 c115_4_0 3
def F115_q1 (R : Rt) : EQ := endQ prog f115.results.toList R
def F115_1 (R : Rt) (p4 p6 : Option Addr) (b9 : Bool) (ds : Ds) (w : World) : Prop :=
 ptrE p6 fun a1 =>
 ∃ b89_0 : Bool, w.cell? (a1.add 0) = some (.bool b89_0) /\
 ∃ l89_1 : SV, w.cell? (a1.add 1) = some (.slice l89_1.a l89_1.len l89_1.cap) /\
 ptrE p4 fun a2 =>
 stA prog 46 a2 #[.bool b89_0, .slice l89_1.a l89_1.len l89_1.cap] w fun w3 =>
 runD prog ds w3 fun w4 =>
 ptrE p4 fun a5 =>
 ∃ bR0_0 : Bool, w4.cell? (a5.add 0) = some (.bool bR0_0) /\
 ∃ lR0_1 : SV, w4.cell? (a5.add 1) = some (.slice lR0_1.a lR0_1.len lR0_1.cap) /\
 R (.returned (.tuple #[.agg #[.bool bR0_0, .slice lR0_1.a lR0_1.len lR0_1.cap], .bool b9])) w4
def F115_k2 (R : Rt) : EP := (fun E ds w => dPtr (E 4) fun p4 => dPtr (E 6) fun p6 => dBl (E 9) fun b9 => F115_1 R p4 p6 b9 ds w)
def F115_q3 (R : Rt) : EQ := (thenQ (F115_k2 R) (F115_q1 R))
def F115_q4 (R : Rt) : EQ := (blockQ 0 (F115_q3 R))
def F115_q5 (R : Rt) (J1 : (Int × Int × Bool × Int) -> World -> Prop) : EQ := (thenQ (fun E _ w => dInt .i64 (E 7) fun n7 => dInt .i64 (E 8) fun n8 => dBl (E 9) fun b9 => dInt .i64 (E 26) fun n26 => J1 (n7, n8, b9, n26) w) (F115_q4 R))
def F115_2 (R : Rt) (J1 : (Int × Int × Bool × Int) -> World -> Prop) (l1 : SV) (p4 p6 : Option Addr) (n7 n8 : Int) (b9 : Bool) (l24 : SV) (n25 n26 : Int) (ds : Ds) (w : World) : Prop :=
 J1 (n7, n8, b9, (IntKind.i64.wrap (n26 + 1))) w
def F115_k6 (R : Rt) (J1 : (Int × Int × Bool × Int) -> World -> Prop) : EP := (fun E ds w => dSl (E 1) fun l1 => dPtr (E 4) fun p4 => dPtr (E 6) fun p6 => dInt .i64 (E 7) fun n7 => dInt .i64 (E 8) fun n8 => dBl (E 9) fun b9 => dSl (E 24) fun l24 => dInt .i64 (E 25) fun n25 => dInt .i64 (E 26) fun n26 => F115_2 R J1 l1 p4 p6 n7 n8 b9 l24 n25 n26 ds w)
def F115_3 (R : Rt) (J1 : (Int × Int × Bool × Int) -> World -> Prop) (l1 : SV) (p4 p6 : Option Addr) (n7 n8 : Int) (b9 : Bool) (l24 : SV) (n25 n26 : Int) (ds : Ds) (w : World) : Prop :=
 ∃ a6 : Addr, l24.a = some a6 /\ 0 ≤ n26 /\ n26 < (l24.len : Int) /\
 ∃ s29_0 : ByteArray, w.cell? ((a6.add (n26.toNat * 4)).add 0) = some (.string s29_0) /\
 ∃ n29_1 : Int, w.cell? ((a6.add (n26.toNat * 4)).add 1) = some (.int .i64 n29_1) /\
 ∃ n29_2 : Int, w.cell? ((a6.add (n26.toNat * 4)).add 2) = some (.int .i64 n29_2) /\
 ∃ b29_3 : Bool, w.cell? ((a6.add (n26.toNat * 4)).add 3) = some (.bool b29_3) /\
 alE (.cells #[.string (⟨#[]⟩ : ByteArray), .int .i64 0, .int .i64 0, .bool false] 23) w fun r11 w7 =>
 stA prog 23 (⟨r11, 0, none⟩ : Addr) #[.string s29_0, .int .i64 n29_1, .int .i64 n29_2, .bool b29_3] w7 fun w8 =>
 ∃ n34 : Int, w8.cell? ((⟨r11, 0, none⟩ : Addr).add 2) = some (.int .i64 n34) /\
 ∃ n38 : Int, w8.cell? ((⟨r11, 0, none⟩ : Addr).add 2) = some (.int .i64 n38) /\
 ∃ l40 : SV, ∃ w9 : World, (Instr.sliceAt 37 (.slice l1.a l1.len l1.cap) (some (.int .i64 n7)) (some (.int .i64 (IntKind.i64.wrap (n7 + n34)))) (some (.int .i64 (IntKind.i64.wrap (n7 + n38))))).run prog w8 = .ok (.slice l40.a l40.len l40.cap) w9 /\
 ∃ n43 : Int, w9.cell? ((⟨r11, 0, none⟩ : Addr).add 2) = some (.int .i64 n43) /\
 ∃ b46 : Bool, w9.cell? ((⟨r11, 0, none⟩ : Addr).add 3) = some (.bool b46) /\
 Br b46 (
 IntKind.i64 = IntKind.i64 /\ (8 : Int) ≠ 0 /\
 ∃ a10 : Addr, l1.a = some a10 /\ 0 ≤ (IntKind.i64.wrap ((1 : Int) + (IntKind.i64.wrap (n8.tdiv 8)))) /\ (IntKind.i64.wrap ((1 : Int) + (IntKind.i64.wrap (n8.tdiv 8)))) < (l1.len : Int) /\
 ∃ n52 : Int, w9.cell? (a10.add ((IntKind.i64.wrap ((1 : Int) + (IntKind.i64.wrap (n8.tdiv 8)))).toNat * 1)) = some (.int .u8 n52) /\
 IntKind.i64 = IntKind.i64 /\ (8 : Int) ≠ 0 /\
 0 ≤ (n8.tmod 8) /\
 Br ((IntKind.u8.wrap ((BitVec.ofInt 8 (n52.fdiv (2 ^ (min (n8.tmod 8).toNat 8))) &&& BitVec.ofInt 8 1).toNat : Nat)) == 1) (
 ptrE p6 fun a11 =>
 ∃ l62 : SV, w9.cell? (a11.add 1) = some (.slice l62.a l62.len l62.cap) /\
 alE (.cells #[.int .i64 0, .int .i64 0, .string (⟨#[]⟩ : ByteArray)] 25) w9 fun r64 w12 =>
 ∃ l65 : SV, ∃ w13 : World, (Builtin.append_ #[44, 44] 44 #[.slice l62.a l62.len l62.cap, .slice (some ⟨r64, 0, none⟩) 1 1]).run prog w12 = .ok (.slice l65.a l65.len l65.cap) w13 /\
 ptrE p6 fun a14 =>
 st1 (a14.add 1) (.slice l65.a l65.len l65.cap) w13 fun w15 =>
 F115_2 R J1 l1 p4 p6 (IntKind.i64.wrap (n7 + n43)) (IntKind.i64.wrap (n8 + 1)) b9 l24 n25 n26 ds w15) (
 dwE w9 fun w16 =>
 ∃ S1 : World -> Prop, S1 w16 /\
 ∃ n70 : Int, (∀ w', S1 w' -> w'.cell? ((⟨r11, 0, none⟩ : Addr).add 1) = some (.int .i64 n70)) /\
 (
 Calls prog 89 #[] w16 fun e w17 =>
 ∃ m68 : Option Nat, e = .returned (.map m68) /\
 ∃ S2 : World -> Prop, S2 w17 /\ (∀ u, S2 u -> S1 u) /\
 ∃ n71_0 : Int, ∃ n71_1 : Int, ∃ n71_2 : Int, ∃ v71_3 : Value, ∃ v71_4 : Value, (∀ w', S2 w' -> (Instr.lookup 104 (.map m68) (.int .i64 n70) false).run prog w' = .ok (.agg #[.int .u8 n71_0, .int .i64 n71_1, .int .i64 n71_2, v71_3, v71_4]) w') /\
 (
 ∃ s74 : ByteArray, ∃ w18 : World, (convert 37 9 (.slice l40.a l40.len l40.cap)).run prog w17 = .ok (.string s74) w18 /\
 ∃ S3 : World -> Prop, S3 w18 /\ (∀ u, S3 u -> S2 u) /\
 (
 fnE v71_4 fun f75 first75 cap75 =>
 hasBody prog f75 = true /\ Calls prog f75 (first75.toList ++ (([.string s74] : List Value) ++ cap75.toList)).toArray w18 fun e w19 =>
 ∃ n75_0_0 : Int, ∃ n75_0_1 : Int, ∃ s75_0_2 : ByteArray, ∃ b75_1 : Bool, e = .returned (.tuple #[.agg #[.int .i64 n75_0_0, .int .i64 n75_0_1, .string s75_0_2], .bool b75_1]) /\
 alE (.cells #[.int .i64 0, .int .i64 0, .string (⟨#[]⟩ : ByteArray)] 25) w19 fun r14 w20 =>
 stA prog 25 (⟨r14, 0, none⟩ : Addr) #[.int .i64 n75_0_0, .int .i64 n75_0_1, .string s75_0_2] w20 fun w21 =>
 Br b9 (
 ptrE p6 fun a22 =>
 ∃ l83 : SV, w21.cell? (a22.add 1) = some (.slice l83.a l83.len l83.cap) /\
 ∃ n84_0 : Int, w21.cell? ((⟨r14, 0, none⟩ : Addr).add 0) = some (.int .i64 n84_0) /\
 ∃ n84_1 : Int, w21.cell? ((⟨r14, 0, none⟩ : Addr).add 1) = some (.int .i64 n84_1) /\
 ∃ s84_2 : ByteArray, w21.cell? ((⟨r14, 0, none⟩ : Addr).add 2) = some (.string s84_2) /\
 alE (.cells #[.int .i64 n84_0, .int .i64 n84_1, .string s84_2] 25) w21 fun r85 w23 =>
 ∃ l86 : SV, ∃ w24 : World, (Builtin.append_ #[44, 44] 44 #[.slice l83.a l83.len l83.cap, .slice (some ⟨r85, 0, none⟩) 1 1]).run prog w23 = .ok (.slice l86.a l86.len l86.cap) w24 /\
 ptrE p6 fun a25 =>
 st1 (a25.add 1) (.slice l86.a l86.len l86.cap) w24 fun w26 =>
 F115_2 R J1 l1 p4 p6 (IntKind.i64.wrap (n7 + n43)) (IntKind.i64.wrap (n8 + 1)) b75_1 l24 n25 n26 ds w26) (
 ptrE p6 fun a27 =>
 ∃ l83 : SV, w21.cell? (a27.add 1) = some (.slice l83.a l83.len l83.cap) /\
 ∃ n84_0 : Int, w21.cell? ((⟨r14, 0, none⟩ : Addr).add 0) = some (.int .i64 n84_0) /\
 ∃ n84_1 : Int, w21.cell? ((⟨r14, 0, none⟩ : Addr).add 1) = some (.int .i64 n84_1) /\
 ∃ s84_2 : ByteArray, w21.cell? ((⟨r14, 0, none⟩ : Addr).add 2) = some (.string s84_2) /\
 alE (.cells #[.int .i64 n84_0, .int .i64 n84_1, .string s84_2] 25) w21 fun r85 w28 =>
 ∃ l86 : SV, ∃ w29 : World, (Builtin.append_ #[44, 44] 44 #[.slice l83.a l83.len l83.cap, .slice (some ⟨r85, 0, none⟩) 1 1]).run prog w28 = .ok (.slice l86.a l86.len l86.cap) w29 /\
 ptrE p6 fun a30 =>
 st1 (a30.add 1) (.slice l86.a l86.len l86.cap) w29 fun w31 =>
 F115_2 R J1 l1 p4 p6 (IntKind.i64.wrap (n7 + n43)) (IntKind.i64.wrap (n8 + 1)) false l24 n25 n26 ds w31)) /\ (
 alE (.cells #[.int .i64 0, .int .i64 0, .string (⟨#[]⟩ : ByteArray)] 25) w18 fun r14 w32 =>
 ∃ S4 : World -> Prop, S4 w32 /\ (∀ u, S4 u -> S3 u) /\
 fnE v71_4 fun f75 first75 cap75 =>
 hasBody prog f75 = true /\ Calls prog f75 (first75.toList ++ (([.string s74] : List Value) ++ cap75.toList)).toArray w32 fun e w33 =>
 ∃ n75_0_0 : Int, ∃ n75_0_1 : Int, ∃ s75_0_2 : ByteArray, ∃ b75_1 : Bool, e = .returned (.tuple #[.agg #[.int .i64 n75_0_0, .int .i64 n75_0_1, .string s75_0_2], .bool b75_1]) /\
 stA prog 25 (⟨r14, 0, none⟩ : Addr) #[.int .i64 n75_0_0, .int .i64 n75_0_1, .string s75_0_2] w33 fun w34 =>
 Br b9 (
 ptrE p6 fun a35 =>
 ∃ l83 : SV, w34.cell? (a35.add 1) = some (.slice l83.a l83.len l83.cap) /\
 ∃ n84_0 : Int, w34.cell? ((⟨r14, 0, none⟩ : Addr).add 0) = some (.int .i64 n84_0) /\
 ∃ n84_1 : Int, w34.cell? ((⟨r14, 0, none⟩ : Addr).add 1) = some (.int .i64 n84_1) /\
 ∃ s84_2 : ByteArray, w34.cell? ((⟨r14, 0, none⟩ : Addr).add 2) = some (.string s84_2) /\
 alE (.cells #[.int .i64 n84_0, .int .i64 n84_1, .string s84_2] 25) w34 fun r85 w36 =>
 ∃ l86 : SV, ∃ w37 : World, (Builtin.append_ #[44, 44] 44 #[.slice l83.a l83.len l83.cap, .slice (some ⟨r85, 0, none⟩) 1 1]).run prog w36 = .ok (.slice l86.a l86.len l86.cap) w37 /\
 ptrE p6 fun a38 =>
 st1 (a38.add 1) (.slice l86.a l86.len l86.cap) w37 fun w39 =>
 F115_2 R J1 l1 p4 p6 (IntKind.i64.wrap (n7 + n43)) (IntKind.i64.wrap (n8 + 1)) b75_1 l24 n25 n26 ds w39) (
 ptrE p6 fun a40 =>
 ∃ l83 : SV, w34.cell? (a40.add 1) = some (.slice l83.a l83.len l83.cap) /\
 ∃ n84_0 : Int, w34.cell? ((⟨r14, 0, none⟩ : Addr).add 0) = some (.int .i64 n84_0) /\
 ∃ n84_1 : Int, w34.cell? ((⟨r14, 0, none⟩ : Addr).add 1) = some (.int .i64 n84_1) /\
 ∃ s84_2 : ByteArray, w34.cell? ((⟨r14, 0, none⟩ : Addr).add 2) = some (.string s84_2) /\
 alE (.cells #[.int .i64 n84_0, .int .i64 n84_1, .string s84_2] 25) w34 fun r85 w41 =>
 ∃ l86 : SV, ∃ w42 : World, (Builtin.append_ #[44, 44] 44 #[.slice l83.a l83.len l83.cap, .slice (some ⟨r85, 0, none⟩) 1 1]).run prog w41 = .ok (.slice l86.a l86.len l86.cap) w42 /\
 ptrE p6 fun a43 =>
 st1 (a43.add 1) (.slice l86.a l86.len l86.cap) w42 fun w44 =>
 F115_2 R J1 l1 p4 p6 (IntKind.i64.wrap (n7 + n43)) (IntKind.i64.wrap (n8 + 1)) false l24 n25 n26 ds w44))) /\ (
 alE (.cells #[.int .i64 0, .int .i64 0, .string (⟨#[]⟩ : ByteArray)] 25) w17 fun r14 w45 =>
 ∃ S5 : World -> Prop, S5 w45 /\ (∀ u, S5 u -> S2 u) /\
 ∃ s74 : ByteArray, ∃ w46 : World, (convert 37 9 (.slice l40.a l40.len l40.cap)).run prog w45 = .ok (.string s74) w46 /\
 ∃ S6 : World -> Prop, S6 w46 /\ (∀ u, S6 u -> S5 u) /\
 fnE v71_4 fun f75 first75 cap75 =>
 hasBody prog f75 = true /\ Calls prog f75 (first75.toList ++ (([.string s74] : List Value) ++ cap75.toList)).toArray w46 fun e w47 =>
 ∃ n75_0_0 : Int, ∃ n75_0_1 : Int, ∃ s75_0_2 : ByteArray, ∃ b75_1 : Bool, e = .returned (.tuple #[.agg #[.int .i64 n75_0_0, .int .i64 n75_0_1, .string s75_0_2], .bool b75_1]) /\
 stA prog 25 (⟨r14, 0, none⟩ : Addr) #[.int .i64 n75_0_0, .int .i64 n75_0_1, .string s75_0_2] w47 fun w48 =>
 Br b9 (
 ptrE p6 fun a49 =>
 ∃ l83 : SV, w48.cell? (a49.add 1) = some (.slice l83.a l83.len l83.cap) /\
 ∃ n84_0 : Int, w48.cell? ((⟨r14, 0, none⟩ : Addr).add 0) = some (.int .i64 n84_0) /\
 ∃ n84_1 : Int, w48.cell? ((⟨r14, 0, none⟩ : Addr).add 1) = some (.int .i64 n84_1) /\
 ∃ s84_2 : ByteArray, w48.cell? ((⟨r14, 0, none⟩ : Addr).add 2) = some (.string s84_2) /\
 alE (.cells #[.int .i64 n84_0, .int .i64 n84_1, .string s84_2] 25) w48 fun r85 w50 =>
 ∃ l86 : SV, ∃ w51 : World, (Builtin.append_ #[44, 44] 44 #[.slice l83.a l83.len l83.cap, .slice (some ⟨r85, 0, none⟩) 1 1]).run prog w50 = .ok (.slice l86.a l86.len l86.cap) w51 /\
 ptrE p6 fun a52 =>
 st1 (a52.add 1) (.slice l86.a l86.len l86.cap) w51 fun w53 =>
 F115_2 R J1 l1 p4 p6 (IntKind.i64.wrap (n7 + n43)) (IntKind.i64.wrap (n8 + 1)) b75_1 l24 n25 n26 ds w53) (
 ptrE p6 fun a54 =>
 ∃ l83 : SV, w48.cell? (a54.add 1) = some (.slice l83.a l83.len l83.cap) /\
 ∃ n84_0 : Int, w48.cell? ((⟨r14, 0, none⟩ : Addr).add 0) = some (.int .i64 n84_0) /\
 ∃ n84_1 : Int, w48.cell? ((⟨r14, 0, none⟩ : Addr).add 1) = some (.int .i64 n84_1) /\
 ∃ s84_2 : ByteArray, w48.cell? ((⟨r14, 0, none⟩ : Addr).add 2) = some (.string s84_2) /\
 alE (.cells #[.int .i64 n84_0, .int .i64 n84_1, .string s84_2] 25) w48 fun r85 w55 =>
 ∃ l86 : SV, ∃ w56 : World, (Builtin.append_ #[44, 44] 44 #[.slice l83.a l83.len l83.cap, .slice (some ⟨r85, 0, none⟩) 1 1]).run prog w55 = .ok (.slice l86.a l86.len l86.cap) w56 /\
 ptrE p6 fun a57 =>
 st1 (a57.add 1) (.slice l86.a l86.len l86.cap) w56 fun w58 =>
 F115_2 R J1 l1 p4 p6 (IntKind.i64.wrap (n7 + n43)) (IntKind.i64.wrap (n8 + 1)) false l24 n25 n26 ds w58))) /\ (
 (
 ∃ s74 : ByteArray, ∃ w59 : World, (convert 37 9 (.slice l40.a l40.len l40.cap)).run prog w16 = .ok (.string s74) w59 /\
 ∃ S7 : World -> Prop, S7 w59 /\ (∀ u, S7 u -> S1 u) /\
 (
 Calls prog 89 #[] w59 fun e w60 =>
 ∃ m68 : Option Nat, e = .returned (.map m68) /\
 ∃ S8 : World -> Prop, S8 w60 /\ (∀ u, S8 u -> S7 u) /\
 ∃ n71_0 : Int, ∃ n71_1 : Int, ∃ n71_2 : Int, ∃ v71_3 : Value, ∃ v71_4 : Value, (∀ w', S8 w' -> (Instr.lookup 104 (.map m68) (.int .i64 n70) false).run prog w' = .ok (.agg #[.int .u8 n71_0, .int .i64 n71_1, .int .i64 n71_2, v71_3, v71_4]) w') /\
 (
 fnE v71_4 fun f75 first75 cap75 =>
 hasBody prog f75 = true /\ Calls prog f75 (first75.toList ++ (([.string s74] : List Value) ++ cap75.toList)).toArray w60 fun e w61 =>
 ∃ n75_0_0 : Int, ∃ n75_0_1 : Int, ∃ s75_0_2 : ByteArray, ∃ b75_1 : Bool, e = .returned (.tuple #[.agg #[.int .i64 n75_0_0, .int .i64 n75_0_1, .string s75_0_2], .bool b75_1]) /\
 alE (.cells #[.int .i64 0, .int .i64 0, .string (⟨#[]⟩ : ByteArray)] 25) w61 fun r14 w62 =>
 stA prog 25 (⟨r14, 0, none⟩ : Addr) #[.int .i64 n75_0_0, .int .i64 n75_0_1, .string s75_0_2] w62 fun w63 =>
 Br b9 (
 ptrE p6 fun a64 =>
 ∃ l83 : SV, w63.cell? (a64.add 1) = some (.slice l83.a l83.len l83.cap) /\
 ∃ n84_0 : Int, w63.cell? ((⟨r14, 0, none⟩ : Addr).add 0) = some (.int .i64 n84_0) /\
 ∃ n84_1 : Int, w63.cell? ((⟨r14, 0, none⟩ : Addr).add 1) = some (.int .i64 n84_1) /\
 ∃ s84_2 : ByteArray, w63.cell? ((⟨r14, 0, none⟩ : Addr).add 2) = some (.string s84_2) /\
 alE (.cells #[.int .i64 n84_0, .int .i64 n84_1, .string s84_2] 25) w63 fun r85 w65 =>
 ∃ l86 : SV, ∃ w66 : World, (Builtin.append_ #[44, 44] 44 #[.slice l83.a l83.len l83.cap, .slice (some ⟨r85, 0, none⟩) 1 1]).run prog w65 = .ok (.slice l86.a l86.len l86.cap) w66 /\
 ptrE p6 fun a67 =>
 st1 (a67.add 1) (.slice l86.a l86.len l86.cap) w66 fun w68 =>
 F115_2 R J1 l1 p4 p6 (IntKind.i64.wrap (n7 + n43)) (IntKind.i64.wrap (n8 + 1)) b75_1 l24 n25 n26 ds w68) (
 ptrE p6 fun a69 =>
 ∃ l83 : SV, w63.cell? (a69.add 1) = some (.slice l83.a l83.len l83.cap) /\
 ∃ n84_0 : Int, w63.cell? ((⟨r14, 0, none⟩ : Addr).add 0) = some (.int .i64 n84_0) /\
 ∃ n84_1 : Int, w63.cell? ((⟨r14, 0, none⟩ : Addr).add 1) = some (.int .i64 n84_1) /\
 ∃ s84_2 : ByteArray, w63.cell? ((⟨r14, 0, none⟩ : Addr).add 2) = some (.string s84_2) /\
 alE (.cells #[.int .i64 n84_0, .int .i64 n84_1, .string s84_2] 25) w63 fun r85 w70 =>
 ∃ l86 : SV, ∃ w71 : World, (Builtin.append_ #[44, 44] 44 #[.slice l83.a l83.len l83.cap, .slice (some ⟨r85, 0, none⟩) 1 1]).run prog w70 = .ok (.slice l86.a l86.len l86.cap) w71 /\
 ptrE p6 fun a72 =>
 st1 (a72.add 1) (.slice l86.a l86.len l86.cap) w71 fun w73 =>
 F115_2 R J1 l1 p4 p6 (IntKind.i64.wrap (n7 + n43)) (IntKind.i64.wrap (n8 + 1)) false l24 n25 n26 ds w73)) /\ (
 alE (.cells #[.int .i64 0, .int .i64 0, .string (⟨#[]⟩ : ByteArray)] 25) w60 fun r14 w74 =>
 ∃ S9 : World -> Prop, S9 w74 /\ (∀ u, S9 u -> S8 u) /\
 fnE v71_4 fun f75 first75 cap75 =>
 hasBody prog f75 = true /\ Calls prog f75 (first75.toList ++ (([.string s74] : List Value) ++ cap75.toList)).toArray w74 fun e w75 =>
 ∃ n75_0_0 : Int, ∃ n75_0_1 : Int, ∃ s75_0_2 : ByteArray, ∃ b75_1 : Bool, e = .returned (.tuple #[.agg #[.int .i64 n75_0_0, .int .i64 n75_0_1, .string s75_0_2], .bool b75_1]) /\
 stA prog 25 (⟨r14, 0, none⟩ : Addr) #[.int .i64 n75_0_0, .int .i64 n75_0_1, .string s75_0_2] w75 fun w76 =>
 Br b9 (
 ptrE p6 fun a77 =>
 ∃ l83 : SV, w76.cell? (a77.add 1) = some (.slice l83.a l83.len l83.cap) /\
 ∃ n84_0 : Int, w76.cell? ((⟨r14, 0, none⟩ : Addr).add 0) = some (.int .i64 n84_0) /\
 ∃ n84_1 : Int, w76.cell? ((⟨r14, 0, none⟩ : Addr).add 1) = some (.int .i64 n84_1) /\
 ∃ s84_2 : ByteArray, w76.cell? ((⟨r14, 0, none⟩ : Addr).add 2) = some (.string s84_2) /\
 alE (.cells #[.int .i64 n84_0, .int .i64 n84_1, .string s84_2] 25) w76 fun r85 w78 =>
 ∃ l86 : SV, ∃ w79 : World, (Builtin.append_ #[44, 44] 44 #[.slice l83.a l83.len l83.cap, .slice (some ⟨r85, 0, none⟩) 1 1]).run prog w78 = .ok (.slice l86.a l86.len l86.cap) w79 /\
 ptrE p6 fun a80 =>
 st1 (a80.add 1) (.slice l86.a l86.len l86.cap) w79 fun w81 =>
 F115_2 R J1 l1 p4 p6 (IntKind.i64.wrap (n7 + n43)) (IntKind.i64.wrap (n8 + 1)) b75_1 l24 n25 n26 ds w81) (
 ptrE p6 fun a82 =>
 ∃ l83 : SV, w76.cell? (a82.add 1) = some (.slice l83.a l83.len l83.cap) /\
 ∃ n84_0 : Int, w76.cell? ((⟨r14, 0, none⟩ : Addr).add 0) = some (.int .i64 n84_0) /\
 ∃ n84_1 : Int, w76.cell? ((⟨r14, 0, none⟩ : Addr).add 1) = some (.int .i64 n84_1) /\
 ∃ s84_2 : ByteArray, w76.cell? ((⟨r14, 0, none⟩ : Addr).add 2) = some (.string s84_2) /\
 alE (.cells #[.int .i64 n84_0, .int .i64 n84_1, .string s84_2] 25) w76 fun r85 w83 =>
 ∃ l86 : SV, ∃ w84 : World, (Builtin.append_ #[44, 44] 44 #[.slice l83.a l83.len l83.cap, .slice (some ⟨r85, 0, none⟩) 1 1]).run prog w83 = .ok (.slice l86.a l86.len l86.cap) w84 /\
 ptrE p6 fun a85 =>
 st1 (a85.add 1) (.slice l86.a l86.len l86.cap) w84 fun w86 =>
 F115_2 R J1 l1 p4 p6 (IntKind.i64.wrap (n7 + n43)) (IntKind.i64.wrap (n8 + 1)) false l24 n25 n26 ds w86))) /\ (
 alE (.cells #[.int .i64 0, .int .i64 0, .string (⟨#[]⟩ : ByteArray)] 25) w59 fun r14 w87 =>
 ∃ S10 : World -> Prop, S10 w87 /\ (∀ u, S10 u -> S7 u) /\
 Calls prog 89 #[] w87 fun e w88 =>
 ∃ m68 : Option Nat, e = .returned (.map m68) /\
 ∃ S11 : World -> Prop, S11 w88 /\ (∀ u, S11 u -> S10 u) /\
 ∃ n71_0 : Int, ∃ n71_1 : Int, ∃ n71_2 : Int, ∃ v71_3 : Value, ∃ v71_4 : Value, (∀ w', S11 w' -> (Instr.lookup 104 (.map m68) (.int .i64 n70) false).run prog w' = .ok (.agg #[.int .u8 n71_0, .int .i64 n71_1, .int .i64 n71_2, v71_3, v71_4]) w') /\
 fnE v71_4 fun f75 first75 cap75 =>
 hasBody prog f75 = true /\ Calls prog f75 (first75.toList ++ (([.string s74] : List Value) ++ cap75.toList)).toArray w88 fun e w89 =>
 ∃ n75_0_0 : Int, ∃ n75_0_1 : Int, ∃ s75_0_2 : ByteArray, ∃ b75_1 : Bool, e = .returned (.tuple #[.agg #[.int .i64 n75_0_0, .int .i64 n75_0_1, .string s75_0_2], .bool b75_1]) /\
 stA prog 25 (⟨r14, 0, none⟩ : Addr) #[.int .i64 n75_0_0, .int .i64 n75_0_1, .string s75_0_2] w89 fun w90 =>
 Br b9 (
 ptrE p6 fun a91 =>
 ∃ l83 : SV, w90.cell? (a91.add 1) = some (.slice l83.a l83.len l83.cap) /\
 ∃ n84_0 : Int, w90.cell? ((⟨r14, 0, none⟩ : Addr).add 0) = some (.int .i64 n84_0) /\
 ∃ n84_1 : Int, w90.cell? ((⟨r14, 0, none⟩ : Addr).add 1) = some (.int .i64 n84_1) /\
 ∃ s84_2 : ByteArray, w90.cell? ((⟨r14, 0, none⟩ : Addr).add 2) = some (.string s84_2) /\
 alE (.cells #[.int .i64 n84_0, .int .i64 n84_1, .string s84_2] 25) w90 fun r85 w92 =>
 ∃ l86 : SV, ∃ w93 : World, (Builtin.append_ #[44, 44] 44 #[.slice l83.a l83.len l83.cap, .slice (some ⟨r85, 0, none⟩) 1 1]).run prog w92 = .ok (.slice l86.a l86.len l86.cap) w93 /\
 ptrE p6 fun a94 =>
 st1 (a94.add 1) (.slice l86.a l86.len l86.cap) w93 fun w95 =>
 F115_2 R J1 l1 p4 p6 (IntKind.i64.wrap (n7 + n43)) (IntKind.i64.wrap (n8 + 1)) b75_1 l24 n25 n26 ds w95) (
 ptrE p6 fun a96 =>
 ∃ l83 : SV, w90.cell? (a96.add 1) = some (.slice l83.a l83.len l83.cap) /\
 ∃ n84_0 : Int, w90.cell? ((⟨r14, 0, none⟩ : Addr).add 0) = some (.int .i64 n84_0) /\
 ∃ n84_1 : Int, w90.cell? ((⟨r14, 0, none⟩ : Addr).add 1) = some (.int .i64 n84_1) /\
 ∃ s84_2 : ByteArray, w90.cell? ((⟨r14, 0, none⟩ : Addr).add 2) = some (.string s84_2) /\
 alE (.cells #[.int .i64 n84_0, .int .i64 n84_1, .string s84_2] 25) w90 fun r85 w97 =>
 ∃ l86 : SV, ∃ w98 : World, (Builtin.append_ #[44, 44] 44 #[.slice l83.a l83.len l83.cap, .slice (some ⟨r85, 0, none⟩) 1 1]).run prog w97 = .ok (.slice l86.a l86.len l86.cap) w98 /\
 ptrE p6 fun a99 =>
 st1 (a99.add 1) (.slice l86.a l86.len l86.cap) w98 fun w100 =>
 F115_2 R J1 l1 p4 p6 (IntKind.i64.wrap (n7 + n43)) (IntKind.i64.wrap (n8 + 1)) false l24 n25 n26 ds w100))) /\ (
 alE (.cells #[.int .i64 0, .int .i64 0, .string (⟨#[]⟩ : ByteArray)] 25) w16 fun r14 w101 =>
 ∃ S12 : World -> Prop, S12 w101 /\ (∀ u, S12 u -> S1 u) /\
 (
 Calls prog 89 #[] w101 fun e w102 =>
 ∃ m68 : Option Nat, e = .returned (.map m68) /\
 ∃ S13 : World -> Prop, S13 w102 /\ (∀ u, S13 u -> S12 u) /\
 ∃ n71_0 : Int, ∃ n71_1 : Int, ∃ n71_2 : Int, ∃ v71_3 : Value, ∃ v71_4 : Value, (∀ w', S13 w' -> (Instr.lookup 104 (.map m68) (.int .i64 n70) false).run prog w' = .ok (.agg #[.int .u8 n71_0, .int .i64 n71_1, .int .i64 n71_2, v71_3, v71_4]) w') /\
 ∃ s74 : ByteArray, ∃ w103 : World, (convert 37 9 (.slice l40.a l40.len l40.cap)).run prog w102 = .ok (.string s74) w103 /\
 ∃ S14 : World -> Prop, S14 w103 /\ (∀ u, S14 u -> S13 u) /\
 fnE v71_4 fun f75 first75 cap75 =>
 hasBody prog f75 = true /\ Calls prog f75 (first75.toList ++ (([.string s74] : List Value) ++ cap75.toList)).toArray w103 fun e w104 =>
 ∃ n75_0_0 : Int, ∃ n75_0_1 : Int, ∃ s75_0_2 : ByteArray, ∃ b75_1 : Bool, e = .returned (.tuple #[.agg #[.int .i64 n75_0_0, .int .i64 n75_0_1, .string s75_0_2], .bool b75_1]) /\
 stA prog 25 (⟨r14, 0, none⟩ : Addr) #[.int .i64 n75_0_0, .int .i64 n75_0_1, .string s75_0_2] w104 fun w105 =>
 Br b9 (
 ptrE p6 fun a106 =>
 ∃ l83 : SV, w105.cell? (a106.add 1) = some (.slice l83.a l83.len l83.cap) /\
 ∃ n84_0 : Int, w105.cell? ((⟨r14, 0, none⟩ : Addr).add 0) = some (.int .i64 n84_0) /\
 ∃ n84_1 : Int, w105.cell? ((⟨r14, 0, none⟩ : Addr).add 1) = some (.int .i64 n84_1) /\
 ∃ s84_2 : ByteArray, w105.cell? ((⟨r14, 0, none⟩ : Addr).add 2) = some (.string s84_2) /\
 alE (.cells #[.int .i64 n84_0, .int .i64 n84_1, .string s84_2] 25) w105 fun r85 w107 =>
 ∃ l86 : SV, ∃ w108 : World, (Builtin.append_ #[44, 44] 44 #[.slice l83.a l83.len l83.cap, .slice (some ⟨r85, 0, none⟩) 1 1]).run prog w107 = .ok (.slice l86.a l86.len l86.cap) w108 /\
 ptrE p6 fun a109 =>
 st1 (a109.add 1) (.slice l86.a l86.len l86.cap) w108 fun w110 =>
 F115_2 R J1 l1 p4 p6 (IntKind.i64.wrap (n7 + n43)) (IntKind.i64.wrap (n8 + 1)) b75_1 l24 n25 n26 ds w110) (
 ptrE p6 fun a111 =>
 ∃ l83 : SV, w105.cell? (a111.add 1) = some (.slice l83.a l83.len l83.cap) /\
 ∃ n84_0 : Int, w105.cell? ((⟨r14, 0, none⟩ : Addr).add 0) = some (.int .i64 n84_0) /\
 ∃ n84_1 : Int, w105.cell? ((⟨r14, 0, none⟩ : Addr).add 1) = some (.int .i64 n84_1) /\
 ∃ s84_2 : ByteArray, w105.cell? ((⟨r14, 0, none⟩ : Addr).add 2) = some (.string s84_2) /\
 alE (.cells #[.int .i64 n84_0, .int .i64 n84_1, .string s84_2] 25) w105 fun r85 w112 =>
 ∃ l86 : SV, ∃ w113 : World, (Builtin.append_ #[44, 44] 44 #[.slice l83.a l83.len l83.cap, .slice (some ⟨r85, 0, none⟩) 1 1]).run prog w112 = .ok (.slice l86.a l86.len l86.cap) w113 /\
 ptrE p6 fun a114 =>
 st1 (a114.add 1) (.slice l86.a l86.len l86.cap) w113 fun w115 =>
 F115_2 R J1 l1 p4 p6 (IntKind.i64.wrap (n7 + n43)) (IntKind.i64.wrap (n8 + 1)) false l24 n25 n26 ds w115)) /\ (
 ∃ s74 : ByteArray, ∃ w116 : World, (convert 37 9 (.slice l40.a l40.len l40.cap)).run prog w101 = .ok (.string s74) w116 /\
 ∃ S15 : World -> Prop, S15 w116 /\ (∀ u, S15 u -> S12 u) /\
 Calls prog 89 #[] w116 fun e w117 =>
 ∃ m68 : Option Nat, e = .returned (.map m68) /\
 ∃ S16 : World -> Prop, S16 w117 /\ (∀ u, S16 u -> S15 u) /\
 ∃ n71_0 : Int, ∃ n71_1 : Int, ∃ n71_2 : Int, ∃ v71_3 : Value, ∃ v71_4 : Value, (∀ w', S16 w' -> (Instr.lookup 104 (.map m68) (.int .i64 n70) false).run prog w' = .ok (.agg #[.int .u8 n71_0, .int .i64 n71_1, .int .i64 n71_2, v71_3, v71_4]) w') /\
 fnE v71_4 fun f75 first75 cap75 =>
 hasBody prog f75 = true /\ Calls prog f75 (first75.toList ++ (([.string s74] : List Value) ++ cap75.toList)).toArray w117 fun e w118 =>
 ∃ n75_0_0 : Int, ∃ n75_0_1 : Int, ∃ s75_0_2 : ByteArray, ∃ b75_1 : Bool, e = .returned (.tuple #[.agg #[.int .i64 n75_0_0, .int .i64 n75_0_1, .string s75_0_2], .bool b75_1]) /\
 stA prog 25 (⟨r14, 0, none⟩ : Addr) #[.int .i64 n75_0_0, .int .i64 n75_0_1, .string s75_0_2] w118 fun w119 =>
 Br b9 (
 ptrE p6 fun a120 =>
 ∃ l83 : SV, w119.cell? (a120.add 1) = some (.slice l83.a l83.len l83.cap) /\
 ∃ n84_0 : Int, w119.cell? ((⟨r14, 0, none⟩ : Addr).add 0) = some (.int .i64 n84_0) /\
 ∃ n84_1 : Int, w119.cell? ((⟨r14, 0, none⟩ : Addr).add 1) = some (.int .i64 n84_1) /\
 ∃ s84_2 : ByteArray, w119.cell? ((⟨r14, 0, none⟩ : Addr).add 2) = some (.string s84_2) /\
 alE (.cells #[.int .i64 n84_0, .int .i64 n84_1, .string s84_2] 25) w119 fun r85 w121 =>
 ∃ l86 : SV, ∃ w122 : World, (Builtin.append_ #[44, 44] 44 #[.slice l83.a l83.len l83.cap, .slice (some ⟨r85, 0, none⟩) 1 1]).run prog w121 = .ok (.slice l86.a l86.len l86.cap) w122 /\
 ptrE p6 fun a123 =>
 st1 (a123.add 1) (.slice l86.a l86.len l86.cap) w122 fun w124 =>
 F115_2 R J1 l1 p4 p6 (IntKind.i64.wrap (n7 + n43)) (IntKind.i64.wrap (n8 + 1)) b75_1 l24 n25 n26 ds w124) (
 ptrE p6 fun a125 =>
 ∃ l83 : SV, w119.cell? (a125.add 1) = some (.slice l83.a l83.len l83.cap) /\
 ∃ n84_0 : Int, w119.cell? ((⟨r14, 0, none⟩ : Addr).add 0) = some (.int .i64 n84_0) /\
 ∃ n84_1 : Int, w119.cell? ((⟨r14, 0, none⟩ : Addr).add 1) = some (.int .i64 n84_1) /\
 ∃ s84_2 : ByteArray, w119.cell? ((⟨r14, 0, none⟩ : Addr).add 2) = some (.string s84_2) /\
 alE (.cells #[.int .i64 n84_0, .int .i64 n84_1, .string s84_2] 25) w119 fun r85 w126 =>
 ∃ l86 : SV, ∃ w127 : World, (Builtin.append_ #[44, 44] 44 #[.slice l83.a l83.len l83.cap, .slice (some ⟨r85, 0, none⟩) 1 1]).run prog w126 = .ok (.slice l86.a l86.len l86.cap) w127 /\
 ptrE p6 fun a128 =>
 st1 (a128.add 1) (.slice l86.a l86.len l86.cap) w127 fun w129 =>
 F115_2 R J1 l1 p4 p6 (IntKind.i64.wrap (n7 + n43)) (IntKind.i64.wrap (n8 + 1)) false l24 n25 n26 ds w129)))))) (
 dwE w9 fun w130 =>
 ∃ S17 : World -> Prop, S17 w130 /\
 ∃ n70 : Int, (∀ w', S17 w' -> w'.cell? ((⟨r11, 0, none⟩ : Addr).add 1) = some (.int .i64 n70)) /\
 (
 Calls prog 89 #[] w130 fun e w131 =>
 ∃ m68 : Option Nat, e = .returned (.map m68) /\
 ∃ S18 : World -> Prop, S18 w131 /\ (∀ u, S18 u -> S17 u) /\
 ∃ n71_0 : Int, ∃ n71_1 : Int, ∃ n71_2 : Int, ∃ v71_3 : Value, ∃ v71_4 : Value, (∀ w', S18 w' -> (Instr.lookup 104 (.map m68) (.int .i64 n70) false).run prog w' = .ok (.agg #[.int .u8 n71_0, .int .i64 n71_1, .int .i64 n71_2, v71_3, v71_4]) w') /\
 (
 ∃ s74 : ByteArray, ∃ w132 : World, (convert 37 9 (.slice l40.a l40.len l40.cap)).run prog w131 = .ok (.string s74) w132 /\
 ∃ S19 : World -> Prop, S19 w132 /\ (∀ u, S19 u -> S18 u) /\
 (
 fnE v71_4 fun f75 first75 cap75 =>
 hasBody prog f75 = true /\ Calls prog f75 (first75.toList ++ (([.string s74] : List Value) ++ cap75.toList)).toArray w132 fun e w133 =>
 ∃ n75_0_0 : Int, ∃ n75_0_1 : Int, ∃ s75_0_2 : ByteArray, ∃ b75_1 : Bool, e = .returned (.tuple #[.agg #[.int .i64 n75_0_0, .int .i64 n75_0_1, .string s75_0_2], .bool b75_1]) /\
 alE (.cells #[.int .i64 0, .int .i64 0, .string (⟨#[]⟩ : ByteArray)] 25) w133 fun r14 w134 =>
 stA prog 25 (⟨r14, 0, none⟩ : Addr) #[.int .i64 n75_0_0, .int .i64 n75_0_1, .string s75_0_2] w134 fun w135 =>
 Br b9 (
 ptrE p6 fun a136 =>
 ∃ l83 : SV, w135.cell? (a136.add 1) = some (.slice l83.a l83.len l83.cap) /\
 ∃ n84_0 : Int, w135.cell? ((⟨r14, 0, none⟩ : Addr).add 0) = some (.int .i64 n84_0) /\
 ∃ n84_1 : Int, w135.cell? ((⟨r14, 0, none⟩ : Addr).add 1) = some (.int .i64 n84_1) /\
 ∃ s84_2 : ByteArray, w135.cell? ((⟨r14, 0, none⟩ : Addr).add 2) = some (.string s84_2) /\
 alE (.cells #[.int .i64 n84_0, .int .i64 n84_1, .string s84_2] 25) w135 fun r85 w137 =>
 ∃ l86 : SV, ∃ w138 : World, (Builtin.append_ #[44, 44] 44 #[.slice l83.a l83.len l83.cap, .slice (some ⟨r85, 0, none⟩) 1 1]).run prog w137 = .ok (.slice l86.a l86.len l86.cap) w138 /\
 ptrE p6 fun a139 =>
 st1 (a139.add 1) (.slice l86.a l86.len l86.cap) w138 fun w140 =>
 F115_2 R J1 l1 p4 p6 (IntKind.i64.wrap (n7 + n43)) n8 b75_1 l24 n25 n26 ds w140) (
 ptrE p6 fun a141 =>
 ∃ l83 : SV, w135.cell? (a141.add 1) = some (.slice l83.a l83.len l83.cap) /\
 ∃ n84_0 : Int, w135.cell? ((⟨r14, 0, none⟩ : Addr).add 0) = some (.int .i64 n84_0) /\
 ∃ n84_1 : Int, w135.cell? ((⟨r14, 0, none⟩ : Addr).add 1) = some (.int .i64 n84_1) /\
 ∃ s84_2 : ByteArray, w135.cell? ((⟨r14, 0, none⟩ : Addr).add 2) = some (.string s84_2) /\
 alE (.cells #[.int .i64 n84_0, .int .i64 n84_1, .string s84_2] 25) w135 fun r85 w142 =>
 ∃ l86 : SV, ∃ w143 : World, (Builtin.append_ #[44, 44] 44 #[.slice l83.a l83.len l83.cap, .slice (some ⟨r85, 0, none⟩) 1 1]).run prog w142 = .ok (.slice l86.a l86.len l86.cap) w143 /\
 ptrE p6 fun a144 =>
 st1 (a144.add 1) (.slice l86.a l86.len l86.cap) w143 fun w145 =>
 F115_2 R J1 l1 p4 p6 (IntKind.i64.wrap (n7 + n43)) n8 false l24 n25 n26 ds w145)) /\ (
 alE (.cells #[.int .i64 0, .int .i64 0, .string (⟨#[]⟩ : ByteArray)] 25) w132 fun r14 w146 =>
 ∃ S20 : World -> Prop, S20 w146 /\ (∀ u, S20 u -> S19 u) /\
 fnE v71_4 fun f75 first75 cap75 =>
 hasBody prog f75 = true /\ Calls prog f75 (first75.toList ++ (([.string s74] : List Value) ++ cap75.toList)).toArray w146 fun e w147 =>
 ∃ n75_0_0 : Int, ∃ n75_0_1 : Int, ∃ s75_0_2 : ByteArray, ∃ b75_1 : Bool, e = .returned (.tuple #[.agg #[.int .i64 n75_0_0, .int .i64 n75_0_1, .string s75_0_2], .bool b75_1]) /\
 stA prog 25 (⟨r14, 0, none⟩ : Addr) #[.int .i64 n75_0_0, .int .i64 n75_0_1, .string s75_0_2] w147 fun w148 =>
 Br b9 (
 ptrE p6 fun a149 =>
 ∃ l83 : SV, w148.cell? (a149.add 1) = some (.slice l83.a l83.len l83.cap) /\
 ∃ n84_0 : Int, w148.cell? ((⟨r14, 0, none⟩ : Addr).add 0) = some (.int .i64 n84_0) /\
 ∃ n84_1 : Int, w148.cell? ((⟨r14, 0, none⟩ : Addr).add 1) = some (.int .i64 n84_1) /\
 ∃ s84_2 : ByteArray, w148.cell? ((⟨r14, 0, none⟩ : Addr).add 2) = some (.string s84_2) /\
 alE (.cells #[.int .i64 n84_0, .int .i64 n84_1, .string s84_2] 25) w148 fun r85 w150 =>
 ∃ l86 : SV, ∃ w151 : World, (Builtin.append_ #[44, 44] 44 #[.slice l83.a l83.len l83.cap, .slice (some ⟨r85, 0, none⟩) 1 1]).run prog w150 = .ok (.slice l86.a l86.len l86.cap) w151 /\
 ptrE p6 fun a152 =>
 st1 (a152.add 1) (.slice l86.a l86.len l86.cap) w151 fun w153 =>
 F115_2 R J1 l1 p4 p6 (IntKind.i64.wrap (n7 + n43)) n8 b75_1 l24 n25 n26 ds w153) (
 ptrE p6 fun a154 =>
 ∃ l83 : SV, w148.cell? (a154.add 1) = some (.slice l83.a l83.len l83.cap) /\
 ∃ n84_0 : Int, w148.cell? ((⟨r14, 0, none⟩ : Addr).add 0) = some (.int .i64 n84_0) /\
 ∃ n84_1 : Int, w148.cell? ((⟨r14, 0, none⟩ : Addr).add 1) = some (.int .i64 n84_1) /\
 ∃ s84_2 : ByteArray, w148.cell? ((⟨r14, 0, none⟩ : Addr).add 2) = some (.string s84_2) /\
 alE (.cells #[.int .i64 n84_0, .int .i64 n84_1, .string s84_2] 25) w148 fun r85 w155 =>
 ∃ l86 : SV, ∃ w156 : World, (Builtin.append_ #[44, 44] 44 #[.slice l83.a l83.len l83.cap, .slice (some ⟨r85, 0, none⟩) 1 1]).run prog w155 = .ok (.slice l86.a l86.len l86.cap) w156 /\
 ptrE p6 fun a157 =>
 st1 (a157.add 1) (.slice l86.a l86.len l86.cap) w156 fun w158 =>
 F115_2 R J1 l1 p4 p6 (IntKind.i64.wrap (n7 + n43)) n8 false l24 n25 n26 ds w158))) /\ (
 alE (.cells #[.int .i64 0, .int .i64 0, .string (⟨#[]⟩ : ByteArray)] 25) w131 fun r14 w159 =>
 ∃ S21 : World -> Prop, S21 w159 /\ (∀ u, S21 u -> S18 u) /\
 ∃ s74 : ByteArray, ∃ w160 : World, (convert 37 9 (.slice l40.a l40.len l40.cap)).run prog w159 = .ok (.string s74) w160 /\
 ∃ S22 : World -> Prop, S22 w160 /\ (∀ u, S22 u -> S21 u) /\
 fnE v71_4 fun f75 first75 cap75 =>
 hasBody prog f75 = true /\ Calls prog f75 (first75.toList ++ (([.string s74] : List Value) ++ cap75.toList)).toArray w160 fun e w161 =>
 ∃ n75_0_0 : Int, ∃ n75_0_1 : Int, ∃ s75_0_2 : ByteArray, ∃ b75_1 : Bool, e = .returned (.tuple #[.agg #[.int .i64 n75_0_0, .int .i64 n75_0_1, .string s75_0_2], .bool b75_1]) /\
 stA prog 25 (⟨r14, 0, none⟩ : Addr) #[.int .i64 n75_0_0, .int .i64 n75_0_1, .string s75_0_2] w161 fun w162 =>
 Br b9 (
 ptrE p6 fun a163 =>
 ∃ l83 : SV, w162.cell? (a163.add 1) = some (.slice l83.a l83.len l83.cap) /\
 ∃ n84_0 : Int, w162.cell? ((⟨r14, 0, none⟩ : Addr).add 0) = some (.int .i64 n84_0) /\
 ∃ n84_1 : Int, w162.cell? ((⟨r14, 0, none⟩ : Addr).add 1) = some (.int .i64 n84_1) /\
 ∃ s84_2 : ByteArray, w162.cell? ((⟨r14, 0, none⟩ : Addr).add 2) = some (.string s84_2) /\
 alE (.cells #[.int .i64 n84_0, .int .i64 n84_1, .string s84_2] 25) w162 fun r85 w164 =>
 ∃ l86 : SV, ∃ w165 : World, (Builtin.append_ #[44, 44] 44 #[.slice l83.a l83.len l83.cap, .slice (some ⟨r85, 0, none⟩) 1 1]).run prog w164 = .ok (.slice l86.a l86.len l86.cap) w165 /\
 ptrE p6 fun a166 =>
 st1 (a166.add 1) (.slice l86.a l86.len l86.cap) w165 fun w167 =>
 F115_2 R J1 l1 p4 p6 (IntKind.i64.wrap (n7 + n43)) n8 b75_1 l24 n25 n26 ds w167) (
 ptrE p6 fun a168 =>
 ∃ l83 : SV, w162.cell? (a168.add 1) = some (.slice l83.a l83.len l83.cap) /\
 ∃ n84_0 : Int, w162.cell? ((⟨r14, 0, none⟩ : Addr).add 0) = some (.int .i64 n84_0) /\
 ∃ n84_1 : Int, w162.cell? ((⟨r14, 0, none⟩ : Addr).add 1) = some (.int .i64 n84_1) /\
 ∃ s84_2 : ByteArray, w162.cell? ((⟨r14, 0, none⟩ : Addr).add 2) = some (.string s84_2) /\
 alE (.cells #[.int .i64 n84_0, .int .i64 n84_1, .string s84_2] 25) w162 fun r85 w169 =>
 ∃ l86 : SV, ∃ w170 : World, (Builtin.append_ #[44, 44] 44 #[.slice l83.a l83.len l83.cap, .slice (some ⟨r85, 0, none⟩) 1 1]).run prog w169 = .ok (.slice l86.a l86.len l86.cap) w170 /\
 ptrE p6 fun a171 =>
 st1 (a171.add 1) (.slice l86.a l86.len l86.cap) w170 fun w172 =>
 F115_2 R J1 l1 p4 p6 (IntKind.i64.wrap (n7 + n43)) n8 false l24 n25 n26 ds w172))) /\ (
 (
 ∃ s74 : ByteArray, ∃ w173 : World, (convert 37 9 (.slice l40.a l40.len l40.cap)).run prog w130 = .ok (.string s74) w173 /\
 ∃ S23 : World -> Prop, S23 w173 /\ (∀ u, S23 u -> S17 u) /\
 (
 Calls prog 89 #[] w173 fun e w174 =>
 ∃ m68 : Option Nat, e = .returned (.map m68) /\
 ∃ S24 : World -> Prop, S24 w174 /\ (∀ u, S24 u -> S23 u) /\
 ∃ n71_0 : Int, ∃ n71_1 : Int, ∃ n71_2 : Int, ∃ v71_3 : Value, ∃ v71_4 : Value, (∀ w', S24 w' -> (Instr.lookup 104 (.map m68) (.int .i64 n70) false).run prog w' = .ok (.agg #[.int .u8 n71_0, .int .i64 n71_1, .int .i64 n71_2, v71_3, v71_4]) w') /\
 (
 fnE v71_4 fun f75 first75 cap75 =>
 hasBody prog f75 = true /\ Calls prog f75 (first75.toList ++ (([.string s74] : List Value) ++ cap75.toList)).toArray w174 fun e w175 =>
 ∃ n75_0_0 : Int, ∃ n75_0_1 : Int, ∃ s75_0_2 : ByteArray, ∃ b75_1 : Bool, e = .returned (.tuple #[.agg #[.int .i64 n75_0_0, .int .i64 n75_0_1, .string s75_0_2], .bool b75_1]) /\
 alE (.cells #[.int .i64 0, .int .i64 0, .string (⟨#[]⟩ : ByteArray)] 25) w175 fun r14 w176 =>
 stA prog 25 (⟨r14, 0, none⟩ : Addr) #[.int .i64 n75_0_0, .int .i64 n75_0_1, .string s75_0_2] w176 fun w177 =>
 Br b9 (
 ptrE p6 fun a178 =>
 ∃ l83 : SV, w177.cell? (a178.add 1) = some (.slice l83.a l83.len l83.cap) /\
 ∃ n84_0 : Int, w177.cell? ((⟨r14, 0, none⟩ : Addr).add 0) = some (.int .i64 n84_0) /\
 ∃ n84_1 : Int, w177.cell? ((⟨r14, 0, none⟩ : Addr).add 1) = some (.int .i64 n84_1) /\
 ∃ s84_2 : ByteArray, w177.cell? ((⟨r14, 0, none⟩ : Addr).add 2) = some (.string s84_2) /\
 alE (.cells #[.int .i64 n84_0, .int .i64 n84_1, .string s84_2] 25) w177 fun r85 w179 =>
 ∃ l86 : SV, ∃ w180 : World, (Builtin.append_ #[44, 44] 44 #[.slice l83.a l83.len l83.cap, .slice (some ⟨r85, 0, none⟩) 1 1]).run prog w179 = .ok (.slice l86.a l86.len l86.cap) w180 /\
 ptrE p6 fun a181 =>
 st1 (a181.add 1) (.slice l86.a l86.len l86.cap) w180 fun w182 =>
 F115_2 R J1 l1 p4 p6 (IntKind.i64.wrap (n7 + n43)) n8 b75_1 l24 n25 n26 ds w182) (
 ptrE p6 fun a183 =>
 ∃ l83 : SV, w177.cell? (a183.add 1) = some (.slice l83.a l83.len l83.cap) /\
 ∃ n84_0 : Int, w177.cell? ((⟨r14, 0, none⟩ : Addr).add 0) = some (.int .i64 n84_0) /\
 ∃ n84_1 : Int, w177.cell? ((⟨r14, 0, none⟩ : Addr).add 1) = some (.int .i64 n84_1) /\
 ∃ s84_2 : ByteArray, w177.cell? ((⟨r14, 0, none⟩ : Addr).add 2) = some (.string s84_2) /\
 alE (.cells #[.int .i64 n84_0, .int .i64 n84_1, .string s84_2] 25) w177 fun r85 w184 =>
 ∃ l86 : SV, ∃ w185 : World, (Builtin.append_ #[44, 44] 44 #[.slice l83.a l83.len l83.cap, .slice (some ⟨r85, 0, none⟩) 1 1]).run prog w184 = .ok (.slice l86.a l86.len l86.cap) w185 /\
 ptrE p6 fun a186 =>
 st1 (a186.add 1) (.slice l86.a l86.len l86.cap) w185 fun w187 =>
 F115_2 R J1 l1 p4 p6 (IntKind.i64.wrap (n7 + n43)) n8 false l24 n25 n26 ds w187)) /\ (
 alE (.cells #[.int .i64 0, .int .i64 0, .string (⟨#[]⟩ : ByteArray)] 25) w174 fun r14 w188 =>
 ∃ S25 : World -> Prop, S25 w188 /\ (∀ u, S25 u -> S24 u) /\
 fnE v71_4 fun f75 first75 cap75 =>
 hasBody prog f75 = true /\ Calls prog f75 (first75.toList ++ (([.string s74] : List Value) ++ cap75.toList)).toArray w188 fun e w189 =>
 ∃ n75_0_0 : Int, ∃ n75_0_1 : Int, ∃ s75_0_2 : ByteArray, ∃ b75_1 : Bool, e = .returned (.tuple #[.agg #[.int .i64 n75_0_0, .int .i64 n75_0_1, .string s75_0_2], .bool b75_1]) /\
 stA prog 25 (⟨r14, 0, none⟩ : Addr) #[.int .i64 n75_0_0, .int .i64 n75_0_1, .string s75_0_2] w189 fun w190 =>
 Br b9 (
 ptrE p6 fun a191 =>
 ∃ l83 : SV, w190.cell? (a191.add 1) = some (.slice l83.a l83.len l83.cap) /\
 ∃ n84_0 : Int, w190.cell? ((⟨r14, 0, none⟩ : Addr).add 0) = some (.int .i64 n84_0) /\
 ∃ n84_1 : Int, w190.cell? ((⟨r14, 0, none⟩ : Addr).add 1) = some (.int .i64 n84_1) /\
 ∃ s84_2 : ByteArray, w190.cell? ((⟨r14, 0, none⟩ : Addr).add 2) = some (.string s84_2) /\
 alE (.cells #[.int .i64 n84_0, .int .i64 n84_1, .string s84_2] 25) w190 fun r85 w192 =>
 ∃ l86 : SV, ∃ w193 : World, (Builtin.append_ #[44, 44] 44 #[.slice l83.a l83.len l83.cap, .slice (some ⟨r85, 0, none⟩) 1 1]).run prog w192 = .ok (.slice l86.a l86.len l86.cap) w193 /\
 ptrE p6 fun a194 =>
 st1 (a194.add 1) (.slice l86.a l86.len l86.cap) w193 fun w195 =>
 F115_2 R J1 l1 p4 p6 (IntKind.i64.wrap (n7 + n43)) n8 b75_1 l24 n25 n26 ds w195) (
 ptrE p6 fun a196 =>
 ∃ l83 : SV, w190.cell? (a196.add 1) = some (.slice l83.a l83.len l83.cap) /\
 ∃ n84_0 : Int, w190.cell? ((⟨r14, 0, none⟩ : Addr).add 0) = some (.int .i64 n84_0) /\
 ∃ n84_1 : Int, w190.cell? ((⟨r14, 0, none⟩ : Addr).add 1) = some (.int .i64 n84_1) /\
 ∃ s84_2 : ByteArray, w190.cell? ((⟨r14, 0, none⟩ : Addr).add 2) = some (.string s84_2) /\
 alE (.cells #[.int .i64 n84_0, .int .i64 n84_1, .string s84_2] 25) w190 fun r85 w197 =>
 ∃ l86 : SV, ∃ w198 : World, (Builtin.append_ #[44, 44] 44 #[.slice l83.a l83.len l83.cap, .slice (some ⟨r85, 0, none⟩) 1 1]).run prog w197 = .ok (.slice l86.a l86.len l86.cap) w198 /\
 ptrE p6 fun a199 =>
 st1 (a199.add 1) (.slice l86.a l86.len l86.cap) w198 fun w200 =>
 F115_2 R J1 l1 p4 p6 (IntKind.i64.wrap (n7 + n43)) n8 false l24 n25 n26 ds w200))) /\ (
 alE (.cells #[.int .i64 0, .int .i64 0, .string (⟨#[]⟩ : ByteArray)] 25) w173 fun r14 w201 =>
 ∃ S26 : World -> Prop, S26 w201 /\ (∀ u, S26 u -> S23 u) /\
 Calls prog 89 #[] w201 fun e w202 =>
 ∃ m68 : Option Nat, e = .returned (.map m68) /\
 ∃ S27 : World -> Prop, S27 w202 /\ (∀ u, S27 u -> S26 u) /\
 ∃ n71_0 : Int, ∃ n71_1 : Int, ∃ n71_2 : Int, ∃ v71_3 : Value, ∃ v71_4 : Value, (∀ w', S27 w' -> (Instr.lookup 104 (.map m68) (.int .i64 n70) false).run prog w' = .ok (.agg #[.int .u8 n71_0, .int .i64 n71_1, .int .i64 n71_2, v71_3, v71_4]) w') /\
 fnE v71_4 fun f75 first75 cap75 =>
 hasBody prog f75 = true /\ Calls prog f75 (first75.toList ++ (([.string s74] : List Value) ++ cap75.toList)).toArray w202 fun e w203 =>
 ∃ n75_0_0 : Int, ∃ n75_0_1 : Int, ∃ s75_0_2 : ByteArray, ∃ b75_1 : Bool, e = .returned (.tuple #[.agg #[.int .i64 n75_0_0, .int .i64 n75_0_1, .string s75_0_2], .bool b75_1]) /\
 stA prog 25 (⟨r14, 0, none⟩ : Addr) #[.int .i64 n75_0_0, .int .i64 n75_0_1, .string s75_0_2] w203 fun w204 =>
 Br b9 (
 ptrE p6 fun a205 =>
 ∃ l83 : SV, w204.cell? (a205.add 1) = some (.slice l83.a l83.len l83.cap) /\
 ∃ n84_0 : Int, w204.cell? ((⟨r14, 0, none⟩ : Addr).add 0) = some (.int .i64 n84_0) /\
 ∃ n84_1 : Int, w204.cell? ((⟨r14, 0, none⟩ : Addr).add 1) = some (.int .i64 n84_1) /\
 ∃ s84_2 : ByteArray, w204.cell? ((⟨r14, 0, none⟩ : Addr).add 2) = some (.string s84_2) /\
 alE (.cells #[.int .i64 n84_0, .int .i64 n84_1, .string s84_2] 25) w204 fun r85 w206 =>
 ∃ l86 : SV, ∃ w207 : World, (Builtin.append_ #[44, 44] 44 #[.slice l83.a l83.len l83.cap, .slice (some ⟨r85, 0, none⟩) 1 1]).run prog w206 = .ok (.slice l86.a l86.len l86.cap) w207 /\
 ptrE p6 fun a208 =>
 st1 (a208.add 1) (.slice l86.a l86.len l86.cap) w207 fun w209 =>
 F115_2 R J1 l1 p4 p6 (IntKind.i64.wrap (n7 + n43)) n8 b75_1 l24 n25 n26 ds w209) (
 ptrE p6 fun a210 =>
 ∃ l83 : SV, w204.cell? (a210.add 1) = some (.slice l83.a l83.len l83.cap) /\
 ∃ n84_0 : Int, w204.cell? ((⟨r14, 0, none⟩ : Addr).add 0) = some (.int .i64 n84_0) /\
 ∃ n84_1 : Int, w204.cell? ((⟨r14, 0, none⟩ : Addr).add 1) = some (.int .i64 n84_1) /\
 ∃ s84_2 : ByteArray, w204.cell? ((⟨r14, 0, none⟩ : Addr).add 2) = some (.string s84_2) /\
 alE (.cells #[.int .i64 n84_0, .int .i64 n84_1, .string s84_2] 25) w204 fun r85 w211 =>
 ∃ l86 : SV, ∃ w212 : World, (Builtin.append_ #[44, 44] 44 #[.slice l83.a l83.len l83.cap, .slice (some ⟨r85, 0, none⟩) 1 1]).run prog w211 = .ok (.slice l86.a l86.len l86.cap) w212 /\
 ptrE p6 fun a213 =>
 st1 (a213.add 1) (.slice l86.a l86.len l86.cap) w212 fun w214 =>
 F115_2 R J1 l1 p4 p6 (IntKind.i64.wrap (n7 + n43)) n8 false l24 n25 n26 ds w214))) /\ (
 alE (.cells #[.int .i64 0, .int .i64 0, .string (⟨#[]⟩ : ByteArray)] 25) w130 fun r14 w215 =>
 ∃ S28 : World -> Prop, S28 w215 /\ (∀ u, S28 u -> S17 u) /\
 (
 Calls prog 89 #[] w215 fun e w216 =>
 ∃ m68 : Option Nat, e = .returned (.map m68) /\
 ∃ S29 : World -> Prop, S29 w216 /\ (∀ u, S29 u -> S28 u) /\
 ∃ n71_0 : Int, ∃ n71_1 : Int, ∃ n71_2 : Int, ∃ v71_3 : Value, ∃ v71_4 : Value, (∀ w', S29 w' -> (Instr.lookup 104 (.map m68) (.int .i64 n70) false).run prog w' = .ok (.agg #[.int .u8 n71_0, .int .i64 n71_1, .int .i64 n71_2, v71_3, v71_4]) w') /\
 ∃ s74 : ByteArray, ∃ w217 : World, (convert 37 9 (.slice l40.a l40.len l40.cap)).run prog w216 = .ok (.string s74) w217 /\
 ∃ S30 : World -> Prop, S30 w217 /\ (∀ u, S30 u -> S29 u) /\
 fnE v71_4 fun f75 first75 cap75 =>
 hasBody prog f75 = true /\ Calls prog f75 (first75.toList ++ (([.string s74] : List Value) ++ cap75.toList)).toArray w217 fun e w218 =>
 ∃ n75_0_0 : Int, ∃ n75_0_1 : Int, ∃ s75_0_2 : ByteArray, ∃ b75_1 : Bool, e = .returned (.tuple #[.agg #[.int .i64 n75_0_0, .int .i64 n75_0_1, .string s75_0_2], .bool b75_1]) /\
 stA prog 25 (⟨r14, 0, none⟩ : Addr) #[.int .i64 n75_0_0, .int .i64 n75_0_1, .string s75_0_2] w218 fun w219 =>
 Br b9 (
 ptrE p6 fun a220 =>
 ∃ l83 : SV, w219.cell? (a220.add 1) = some (.slice l83.a l83.len l83.cap) /\
 ∃ n84_0 : Int, w219.cell? ((⟨r14, 0, none⟩ : Addr).add 0) = some (.int .i64 n84_0) /\
 ∃ n84_1 : Int, w219.cell? ((⟨r14, 0, none⟩ : Addr).add 1) = some (.int .i64 n84_1) /\
 ∃ s84_2 : ByteArray, w219.cell? ((⟨r14, 0, none⟩ : Addr).add 2) = some (.string s84_2) /\
 alE (.cells #[.int .i64 n84_0, .int .i64 n84_1, .string s84_2] 25) w219 fun r85 w221 =>
 ∃ l86 : SV, ∃ w222 : World, (Builtin.append_ #[44, 44] 44 #[.slice l83.a l83.len l83.cap, .slice (some ⟨r85, 0, none⟩) 1 1]).run prog w221 = .ok (.slice l86.a l86.len l86.cap) w222 /\
 ptrE p6 fun a223 =>
 st1 (a223.add 1) (.slice l86.a l86.len l86.cap) w222 fun w224 =>
 F115_2 R J1 l1 p4 p6 (IntKind.i64.wrap (n7 + n43)) n8 b75_1 l24 n25 n26 ds w224) (
 ptrE p6 fun a225 =>
 ∃ l83 : SV, w219.cell? (a225.add 1) = some (.slice l83.a l83.len l83.cap) /\
 ∃ n84_0 : Int, w219.cell? ((⟨r14, 0, none⟩ : Addr).add 0) = some (.int .i64 n84_0) /\
 ∃ n84_1 : Int, w219.cell? ((⟨r14, 0, none⟩ : Addr).add 1) = some (.int .i64 n84_1) /\
 ∃ s84_2 : ByteArray, w219.cell? ((⟨r14, 0, none⟩ : Addr).add 2) = some (.string s84_2) /\
 alE (.cells #[.int .i64 n84_0, .int .i64 n84_1, .string s84_2] 25) w219 fun r85 w226 =>
 ∃ l86 : SV, ∃ w227 : World, (Builtin.append_ #[44, 44] 44 #[.slice l83.a l83.len l83.cap, .slice (some ⟨r85, 0, none⟩) 1 1]).run prog w226 = .ok (.slice l86.a l86.len l86.cap) w227 /\
 ptrE p6 fun a228 =>
 st1 (a228.add 1) (.slice l86.a l86.len l86.cap) w227 fun w229 =>
 F115_2 R J1 l1 p4 p6 (IntKind.i64.wrap (n7 + n43)) n8 false l24 n25 n26 ds w229)) /\ (
 ∃ s74 : ByteArray, ∃ w230 : World, (convert 37 9 (.slice l40.a l40.len l40.cap)).run prog w215 = .ok (.string s74) w230 /\
 ∃ S31 : World -> Prop, S31 w230 /\ (∀ u, S31 u -> S28 u) /\
 Calls prog 89 #[] w230 fun e w231 =>
 ∃ m68 : Option Nat, e = .returned (.map m68) /\
 ∃ S32 : World -> Prop, S32 w231 /\ (∀ u, S32 u -> S31 u) /\
 ∃ n71_0 : Int, ∃ n71_1 : Int, ∃ n71_2 : Int, ∃ v71_3 : Value, ∃ v71_4 : Value, (∀ w', S32 w' -> (Instr.lookup 104 (.map m68) (.int .i64 n70) false).run prog w' = .ok (.agg #[.int .u8 n71_0, .int .i64 n71_1, .int .i64 n71_2, v71_3, v71_4]) w') /\
 fnE v71_4 fun f75 first75 cap75 =>
 hasBody prog f75 = true /\ Calls prog f75 (first75.toList ++ (([.string s74] : List Value) ++ cap75.toList)).toArray w231 fun e w232 =>
 ∃ n75_0_0 : Int, ∃ n75_0_1 : Int, ∃ s75_0_2 : ByteArray, ∃ b75_1 : Bool, e = .returned (.tuple #[.agg #[.int .i64 n75_0_0, .int .i64 n75_0_1, .string s75_0_2], .bool b75_1]) /\
 stA prog 25 (⟨r14, 0, none⟩ : Addr) #[.int .i64 n75_0_0, .int .i64 n75_0_1, .string s75_0_2] w232 fun w233 =>
 Br b9 (
 ptrE p6 fun a234 =>
 ∃ l83 : SV, w233.cell? (a234.add 1) = some (.slice l83.a l83.len l83.cap) /\
 ∃ n84_0 : Int, w233.cell? ((⟨r14, 0, none⟩ : Addr).add 0) = some (.int .i64 n84_0) /\
 ∃ n84_1 : Int, w233.cell? ((⟨r14, 0, none⟩ : Addr).add 1) = some (.int .i64 n84_1) /\
 ∃ s84_2 : ByteArray, w233.cell? ((⟨r14, 0, none⟩ : Addr).add 2) = some (.string s84_2) /\
 alE (.cells #[.int .i64 n84_0, .int .i64 n84_1, .string s84_2] 25) w233 fun r85 w235 =>
 ∃ l86 : SV, ∃ w236 : World, (Builtin.append_ #[44, 44] 44 #[.slice l83.a l83.len l83.cap, .slice (some ⟨r85, 0, none⟩) 1 1]).run prog w235 = .ok (.slice l86.a l86.len l86.cap) w236 /\
 ptrE p6 fun a237 =>
 st1 (a237.add 1) (.slice l86.a l86.len l86.cap) w236 fun w238 =>
 F115_2 R J1 l1 p4 p6 (IntKind.i64.wrap (n7 + n43)) n8 b75_1 l24 n25 n26 ds w238) (
 ptrE p6 fun a239 =>
 ∃ l83 : SV, w233.cell? (a239.add 1) = some (.slice l83.a l83.len l83.cap) /\
 ∃ n84_0 : Int, w233.cell? ((⟨r14, 0, none⟩ : Addr).add 0) = some (.int .i64 n84_0) /\
 ∃ n84_1 : Int, w233.cell? ((⟨r14, 0, none⟩ : Addr).add 1) = some (.int .i64 n84_1) /\
 ∃ s84_2 : ByteArray, w233.cell? ((⟨r14, 0, none⟩ : Addr).add 2) = some (.string s84_2) /\
 alE (.cells #[.int .i64 n84_0, .int .i64 n84_1, .string s84_2] 25) w233 fun r85 w240 =>
 ∃ l86 : SV, ∃ w241 : World, (Builtin.append_ #[44, 44] 44 #[.slice l83.a l83.len l83.cap, .slice (some ⟨r85, 0, none⟩) 1 1]).run prog w240 = .ok (.slice l86.a l86.len l86.cap) w241 /\
 ptrE p6 fun a242 =>
 st1 (a242.add 1) (.slice l86.a l86.len l86.cap) w241 fun w243 =>
 F115_2 R J1 l1 p4 p6 (IntKind.i64.wrap (n7 + n43)) n8 false l24 n25 n26 ds w243)))))
def F115_k7 (R : Rt) (J1 : (Int × Int × Bool × Int) -> World -> Prop) : EP := (fun E ds w => dSl (E 1) fun l1 => dPtr (E 4) fun p4 => dPtr (E 6) fun p6 => dInt .i64 (E 7) fun n7 => dInt .i64 (E 8) fun n8 => dBl (E 9) fun b9 => dSl (E 24) fun l24 => dInt .i64 (E 25) fun n25 => dInt .i64 (E 26) fun n26 => F115_3 R J1 l1 p4 p6 n7 n8 b9 l24 n25 n26 ds w)
def F115_4 (R : Rt) (J1 : (Int × Int × Bool × Int) -> World -> Prop) (l1 : SV) (p4 p6 : Option Addr) (n7 n8 : Int) (b9 : Bool) (l24 : SV) (n25 n26 : Int) (ds : Ds) (w : World) : Prop :=
 Br (decide (n26 < n25)) (
 F115_3 R J1 l1 p4 p6 n7 n8 b9 l24 n25 n26 ds w) (
 F115_1 R p4 p6 b9 ds w)
def F115_5 (R : Rt) (l1 : SV) (p4 p6 : Option Addr) (n7 n8 : Int) (b9 : Bool) (l24 : SV) (n25 n26 : Int) (ds : Ds) (w : World) : Prop :=
 loopT (fun (J1 : (Int × Int × Bool × Int) -> World -> Prop) (s : Int × Int × Bool × Int) (w : World) => F115_4 R J1 l1 p4 p6 s.1 s.2.1 s.2.2.1 l24 n25 s.2.2.2 ds w) (n7, n8, b9, n26) w
abbrev F115_6 (R : Rt) (l1 : SV) (p4 p6 : Option Addr) (n7 n8 : Int) (b9 : Bool) (l24 : SV) (n25 n26 : Int) (ds : Ds) (w : World) : Prop := F115_5 R l1 p4 p6 n7 n8 b9 l24 n25 n26 ds w
def F115_k8 (R : Rt) : EP := (fun E ds w => dSl (E 1) fun l1 => dPtr (E 4) fun p4 => dPtr (E 6) fun p6 => dInt .i64 (E 7) fun n7 => dInt .i64 (E 8) fun n8 => dBl (E 9) fun b9 => dSl (E 24) fun l24 => dInt .i64 (E 25) fun n25 => dInt .i64 (E 26) fun n26 => F115_6 R l1 p4 p6 n7 n8 b9 l24 n25 n26 ds w)
def F115_7 (R : Rt) (l0 l1 : SV) (ds : Ds) (w : World) : Prop :=
 alE (.cells #[.bool false, .slice none 0 0] 46) w fun r4 w244 =>
 ∃ a245 : Addr, l1.a = some a245 /\ 0 ≤ (0 : Int) /\ (0 : Int) < (l1.len : Int) /\
 ∃ n18 : Int, w244.cell? (a245.add ((0 : Int).toNat * 1)) = some (.int .u8 n18) /\
 alE (.cells #[.bool false, .slice none 0 0] 46) w244 fun r6 w246 =>
 stA prog 46 (⟨r6, 0, none⟩ : Addr) #[.bool (n18 == 42), .slice none 0 0] w246 fun w247 =>
 Calls prog 71 #[.slice l0.a l0.len l0.cap] w247 fun e w248 =>
 ∃ n22 : Int, e = .returned (.int .i64 n22) /\
 F115_6 R l1 (some (⟨r4, 0, none⟩ : Addr)) (some (⟨r6, 0, none⟩ : Addr)) (IntKind.i64.wrap ((1 : Int) + n22)) 0 true l0 (l0.len : Int) 0 ds w248
theorem c115_l : flat (bodyOf f115) = [c115_0, c115_1, c115_2, c115_3, c115_4, c115_5, c115_6] := by kernel_rfl
theorem c115_4_l : flat (innerC c115_4) = [c115_4_0] := by kernel_rfl
theorem c115_4_0_l : flat (innerC c115_4_0) = [c115_4_0_0, c115_4_0_1, c115_4_0_2, c115_4_0_3] := by kernel_rfl
theorem F115_1_ok (R : Rt) (p4 p6 : Option Addr) (b9 : Bool) (ds : Ds) (w : World) (E : Env) (e4 : E 4 = .pointer p4) (e6 : E 6 = .pointer p6) (e9 : E 9 = .bool b9) (h : F115_1 R p4 p6 b9 ds w) :
    TrL prog f115.ntmps [c115_5, c115_6] (F115_q1 R) E ds w :=
  TrL_leaf (X := F115_1 R p4 p6 b9 ds w) (setAll_cons e4 (setAll_cons e6 (setAll_cons e9 setAll_nil))) (by kernel_rfl) (by kernel_rfl) h
theorem F115_2_ok (R : Rt) (J1 : (Int × Int × Bool × Int) -> World -> Prop) (l1 : SV) (p4 p6 : Option Addr) (n7 n8 : Int) (b9 : Bool) (l24 : SV) (n25 n26 : Int) (ds : Ds) (w : World) (E : Env) (e1 : E 1 = .slice l1.a l1.len l1.cap) (e4 : E 4 = .pointer p4) (e6 : E 6 = .pointer p6) (e7 : E 7 = .int .i64 n7) (e8 : E 8 = .int .i64 n8) (e9 : E 9 = .bool b9) (e24 : E 24 = .slice l24.a l24.len l24.cap) (e25 : E 25 = .int .i64 n25) (e26 : E 26 = .int .i64 n26) (h : F115_2 R J1 l1 p4 p6 n7 n8 b9 l24 n25 n26 ds w) :
    TrL prog f115.ntmps [c115_4_0_3] (F115_q5 R J1) E ds w :=
  TrL_leaf (X := F115_2 R J1 l1 p4 p6 n7 n8 b9 l24 n25 n26 ds w) (setAll_cons e1 (setAll_cons e4 (setAll_cons e6 (setAll_cons e7 (setAll_cons e8 (setAll_cons e9 (setAll_cons e24 (setAll_cons e25 (setAll_cons e26 setAll_nil))))))))) (by kernel_rfl) (by kernel_rfl) h
theorem F115_3_ok (R : Rt) (J1 : (Int × Int × Bool × Int) -> World -> Prop) (l1 : SV) (p4 p6 : Option Addr) (n7 n8 : Int) (b9 : Bool) (l24 : SV) (n25 n26 : Int) (ds : Ds) (w : World) (E : Env) (e1 : E 1 = .slice l1.a l1.len l1.cap) (e4 : E 4 = .pointer p4) (e6 : E 6 = .pointer p6) (e7 : E 7 = .int .i64 n7) (e8 : E 8 = .int .i64 n8) (e9 : E 9 = .bool b9) (e24 : E 24 = .slice l24.a l24.len l24.cap) (e25 : E 25 = .int .i64 n25) (e26 : E 26 = .int .i64 n26) (h : F115_3 R J1 l1 p4 p6 n7 n8 b9 l24 n25 n26 ds w) :
    TrL prog f115.ntmps [c115_4_0_2, c115_4_0_3] (F115_q5 R J1) E ds w :=
  TrL_piece (pre := [c115_4_0_2]) (K := (F115_k6 R J1)) (X := F115_3 R J1 l1 p4 p6 n7 n8 b9 l24 n25 n26 ds w) (setAll_cons e1 (setAll_cons e4 (setAll_cons e6 (setAll_cons e7 (setAll_cons e8 (setAll_cons e9 (setAll_cons e24 (setAll_cons e25 (setAll_cons e26 setAll_nil))))))))) (by kernel_rfl) (by kernel_rfl)
    (fun E' ds' w' hD => by
      obtain ⟨l1, e1, hD⟩ := dSl_elim hD; obtain ⟨p4, e4, hD⟩ := dPtr_elim hD; obtain ⟨p6, e6, hD⟩ := dPtr_elim hD; obtain ⟨n7, e7, hD⟩ := dInt_elim hD; obtain ⟨n8, e8, hD⟩ := dInt_elim hD; obtain ⟨b9, e9, hD⟩ := dBl_elim hD; obtain ⟨l24, e24, hD⟩ := dSl_elim hD; obtain ⟨n25, e25, hD⟩ := dInt_elim hD; obtain ⟨n26, e26, hD⟩ := dInt_elim hD; exact F115_2_ok R J1 l1 p4 p6 n7 n8 b9 l24 n25 n26 ds' w' E' e1 e4 e6 e7 e8 e9 e24 e25 e26 hD) h
theorem F115_4_ok (R : Rt) (J1 : (Int × Int × Bool × Int) -> World -> Prop) (l1 : SV) (p4 p6 : Option Addr) (n7 n8 : Int) (b9 : Bool) (l24 : SV) (n25 n26 : Int) (ds : Ds) (w : World) (E : Env) (e1 : E 1 = .slice l1.a l1.len l1.cap) (e4 : E 4 = .pointer p4) (e6 : E 6 = .pointer p6) (e7 : E 7 = .int .i64 n7) (e8 : E 8 = .int .i64 n8) (e9 : E 9 = .bool b9) (e24 : E 24 = .slice l24.a l24.len l24.cap) (e25 : E 25 = .int .i64 n25) (e26 : E 26 = .int .i64 n26) (h : F115_4 R J1 l1 p4 p6 n7 n8 b9 l24 n25 n26 ds w) :
    TrL prog f115.ntmps [c115_4_0_0, c115_4_0_1, c115_4_0_2, c115_4_0_3] (F115_q5 R J1) E ds w :=
  TrL_piece (pre := [c115_4_0_0, c115_4_0_1]) (K := (F115_k7 R J1)) (X := F115_4 R J1 l1 p4 p6 n7 n8 b9 l24 n25 n26 ds w) (setAll_cons e1 (setAll_cons e4 (setAll_cons e6 (setAll_cons e7 (setAll_cons e8 (setAll_cons e9 (setAll_cons e24 (setAll_cons e25 (setAll_cons e26 setAll_nil))))))))) (by kernel_rfl) (by kernel_rfl)
    (fun E' ds' w' hD => by
      obtain ⟨l1, e1, hD⟩ := dSl_elim hD; obtain ⟨p4, e4, hD⟩ := dPtr_elim hD; obtain ⟨p6, e6, hD⟩ := dPtr_elim hD; obtain ⟨n7, e7, hD⟩ := dInt_elim hD; obtain ⟨n8, e8, hD⟩ := dInt_elim hD; obtain ⟨b9, e9, hD⟩ := dBl_elim hD; obtain ⟨l24, e24, hD⟩ := dSl_elim hD; obtain ⟨n25, e25, hD⟩ := dInt_elim hD; obtain ⟨n26, e26, hD⟩ := dInt_elim hD; exact F115_3_ok R J1 l1 p4 p6 n7 n8 b9 l24 n25 n26 ds' w' E' e1 e4 e6 e7 e8 e9 e24 e25 e26 hD) h
theorem F115_5_ok (R : Rt) (l1 : SV) (p4 p6 : Option Addr) (n7 n8 : Int) (b9 : Bool) (l24 : SV) (n25 n26 : Int) (ds : Ds) (w : World) (E : Env) (e1 : E 1 = .slice l1.a l1.len l1.cap) (e4 : E 4 = .pointer p4) (e6 : E 6 = .pointer p6) (e7 : E 7 = .int .i64 n7) (e8 : E 8 = .int .i64 n8) (e9 : E 9 = .bool b9) (e24 : E 24 = .slice l24.a l24.len l24.cap) (e25 : E 25 = .int .i64 n25) (e26 : E 26 = .int .i64 n26) (h : F115_5 R l1 p4 p6 n7 n8 b9 l24 n25 n26 ds w) :
    TrL prog f115.ntmps [c115_4_0] (F115_q4 R) E ds w :=
  TrL_one (Tr_loop' (c := innerC c115_4_0) (σ := Int × Int × Bool × Int) (enc := (fun (s : Int × Int × Bool × Int) (E : Env) => E 7 = .int .i64 s.1 /\ E 8 = .int .i64 s.2.1 /\ E 9 = .bool s.2.2.1 /\ E 26 = .int .i64 s.2.2.2)) (D := (fun E K => dInt .i64 (E 7) fun n7 => dInt .i64 (E 8) fun n8 => dBl (E 9) fun b9 => dInt .i64 (E 26) fun n26 => K (n7, n8, b9, n26))) (F := (fun (J1 : (Int × Int × Bool × Int) -> World -> Prop) (s : Int × Int × Bool × Int) (w : World) => F115_4 R J1 l1 p4 p6 s.1 s.2.1 s.2.2.1 l24 n25 s.2.2.2 ds w)) (s0 := (n7, n8, b9, n26)) (by kernel_rfl) c115_4_0_l ⟨e7, e8, e9, e26⟩ (by kernel_rfl) (fun E K hD => by obtain ⟨n7, e7, hD⟩ := dInt_elim hD; obtain ⟨n8, e8, hD⟩ := dInt_elim hD; obtain ⟨b9, e9, hD⟩ := dBl_elim hD; obtain ⟨n26, e26, hD⟩ := dInt_elim hD; exact ⟨(n7, n8, b9, n26), ⟨e7, e8, e9, e26⟩, hD⟩)
      (fun J1 s E' w' he ha hF => by
      obtain ⟨e7', e8', e9', e26'⟩ := he
      exact F115_4_ok R J1 l1 p4 p6 s.1 s.2.1 s.2.2.1 l24 n25 s.2.2.2 ds w' E' ((ha 1 (by kernel_rfl)).trans e1) ((ha 4 (by kernel_rfl)).trans e4) ((ha 6 (by kernel_rfl)).trans e6) e7' e8' e9' ((ha 24 (by kernel_rfl)).trans e24) ((ha 25 (by kernel_rfl)).trans e25) e26' hF) h)
theorem F115_6_ok (R : Rt) (l1 : SV) (p4 p6 : Option Addr) (n7 n8 : Int) (b9 : Bool) (l24 : SV) (n25 n26 : Int) (ds : Ds) (w : World) (E : Env) (e1 : E 1 = .slice l1.a l1.len l1.cap) (e4 : E 4 = .pointer p4) (e6 : E 6 = .pointer p6) (e7 : E 7 = .int .i64 n7) (e8 : E 8 = .int .i64 n8) (e9 : E 9 = .bool b9) (e24 : E 24 = .slice l24.a l24.len l24.cap) (e25 : E 25 = .int .i64 n25) (e26 : E 26 = .int .i64 n26) (h : F115_6 R l1 p4 p6 n7 n8 b9 l24 n25 n26 ds w) :
    TrL prog f115.ntmps [c115_4, c115_5, c115_6] (F115_q1 R) E ds w :=
  TrL_head (K := (F115_k2 R)) (Tr_block' (c := innerC c115_4) (by kernel_rfl) c115_4_l (F115_5_ok R l1 p4 p6 n7 n8 b9 l24 n25 n26 ds w E e1 e4 e6 e7 e8 e9 e24 e25 e26 h))
    (fun E' ds' w' hD => by
      obtain ⟨p4, e4, hD⟩ := dPtr_elim hD; obtain ⟨p6, e6, hD⟩ := dPtr_elim hD; obtain ⟨b9, e9, hD⟩ := dBl_elim hD; exact F115_1_ok R p4 p6 b9 ds' w' E' e4 e6 e9 hD)
theorem F115_7_ok (R : Rt) (l0 l1 : SV) (ds : Ds) (w : World) (E : Env) (e0 : E 0 = .slice l0.a l0.len l0.cap) (e1 : E 1 = .slice l1.a l1.len l1.cap) (h : F115_7 R l0 l1 ds w) :
    TrL prog f115.ntmps [c115_0, c115_1, c115_2, c115_3, c115_4, c115_5, c115_6] (F115_q1 R) E ds w :=
  TrL_piece (pre := [c115_0, c115_1, c115_2, c115_3]) (K := (F115_k8 R)) (X := F115_7 R l0 l1 ds w) (setAll_cons e0 (setAll_cons e1 setAll_nil)) (by kernel_rfl) (by kernel_rfl)
    (fun E' ds' w' hD => by
      obtain ⟨l1, e1, hD⟩ := dSl_elim hD; obtain ⟨p4, e4, hD⟩ := dPtr_elim hD; obtain ⟨p6, e6, hD⟩ := dPtr_elim hD; obtain ⟨n7, e7, hD⟩ := dInt_elim hD; obtain ⟨n8, e8, hD⟩ := dInt_elim hD; obtain ⟨b9, e9, hD⟩ := dBl_elim hD; obtain ⟨l24, e24, hD⟩ := dSl_elim hD; obtain ⟨n25, e25, hD⟩ := dInt_elim hD; obtain ⟨n26, e26, hD⟩ := dInt_elim hD; exact F115_6_ok R l1 p4 p6 n7 n8 b9 l24 n25 n26 ds' w' E' e1 e4 e6 e7 e8 e9 e24 e25 e26 hD) h
theorem F115_calls (l0 l1 : SV) (w : World) (R : Rt) (h : F115_7 R l0 l1 [] w) : Calls prog 115 #[.slice l0.a l0.len l0.cap, .slice l1.a l1.len l1.cap] w R :=
  calls_of_L (l := [c115_0, c115_1, c115_2, c115_3, c115_4, c115_5, c115_6]) func115 (by kernel_rfl) (by rw [ntmps115]; exact Nat.le_of_ble_eq_true (by kernel_rfl)) c115_l
    (F115_7_ok R l0 l1 [] w _ rfl rfl h)
noncomputable def c81_0 := cI24 f81 0
noncomputable def c81_1 := cI24 f81 1
noncomputable def c81_2 := cI24 f81 2
def F81_q1 (R : Rt) : EQ := endQ prog f81.results.toList R
def F81_1 (R : Rt) (l0 l1 : SV) (ds : Ds) (w : World) : Prop :=
 ∃ s6 : ByteArray, ∃ w1 : World, (convert 37 9 (.slice l0.a l0.len l0.cap)).run prog w = .ok (.string s6) w1 /\
 ∃ s8 : ByteArray, ∃ w2 : World, (convert 37 9 (.slice l1.a l1.len l1.cap)).run prog w1 = .ok (.string s8) w2 /\
 runD prog ds w2 fun w3 =>
 R (.returned (.bool (s6.toList == s8.toList))) w3
theorem c81_l : flat (bodyOf f81) = [c81_0, c81_1, c81_2] := by kernel_rfl
theorem F81_1_ok (R : Rt) (l0 l1 : SV) (ds : Ds) (w : World) (E : Env) (e0 : E 0 = .slice l0.a l0.len l0.cap) (e1 : E 1 = .slice l1.a l1.len l1.cap) (h : F81_1 R l0 l1 ds w) :
    TrL prog f81.ntmps [c81_0, c81_1, c81_2] (F81_q1 R) E ds w :=
  TrL_leaf (X := F81_1 R l0 l1 ds w) (setAll_cons e0 (setAll_cons e1 setAll_nil)) (by kernel_rfl) (by kernel_rfl) h
theorem F81_calls (l0 l1 : SV) (w : World) (R : Rt) (h : F81_1 R l0 l1 [] w) : Calls prog 81 #[.slice l0.a l0.len l0.cap, .slice l1.a l1.len l1.cap] w R :=
  calls_of_L (l := [c81_0, c81_1, c81_2]) func81 (by kernel_rfl) (by rw [ntmps81]; exact Nat.le_of_ble_eq_true (by kernel_rfl)) c81_l
    (F81_1_ok R l0 l1 [] w _ rfl rfl h)
end Go.Proofs.YtecmfdfhpldmmaaGreatDoor

/- Shallow texts of functions, printed by program, each checked by the kernel against the loaded code. No condition. -/
set_option maxRecDepth 100000
set_option linter.unusedVariables false
namespace Go.Proofs.YtecmfdfhpldmmaaGreatDoor
open Go.Sh
open Tryz
@[reducible] noncomputable def cI25 (f : Func) (i : Nat) : Code := itemAt (flat (bodyOf f)) i
noncomputable def c10_0 := cI25 f10 0
noncomputable def c10_1 := cI25 f10 1
noncomputable def c10_2 := cI25 f10 2
noncomputable def c10_3 := cI25 f10 3
noncomputable def c10_4 := cI25 f10 4
noncomputable def c10_5 := cI25 f10 5
noncomputable def c10_6 := cI25 f10 6
noncomputable def c10_7 := cI25 f10 7
noncomputable def c10_8 := cI25 f10 8
noncomputable def c10_9 := cI25 f10 9
noncomputable def c10_10 := cI25 f10 10
noncomputable def c10_11 := cI25 f10 11
noncomputable def c10_12 := cI25 f10 12
noncomputable def c10_13 := cI25 f10 13
noncomputable def c10_14 := cI25 f10 14
def F10_q1 (R : Rt) : EQ := endQ prog f10.results.toList R
def F10_1 (R : Rt) (n0_0 : Int) (l0_1 l0_2 : SV) (n1 n2 : Int) (ds : Ds) (w : World) : Prop :=
 alE (.cells #[.int .i64 n0_0, .slice l0_1.a l0_1.len l0_1.cap, .slice l0_2.a l0_2.len l0_2.cap] 35) w fun r3 w1 =>
 ∃ n13_0 : Int, w1.cell? ((⟨r3, 0, none⟩ : Addr).add 0) = some (.int .i64 n13_0) /\
 ∃ l13_1 : SV, w1.cell? ((⟨r3, 0, none⟩ : Addr).add 1) = some (.slice l13_1.a l13_1.len l13_1.cap) /\
 ∃ l13_2 : SV, w1.cell? ((⟨r3, 0, none⟩ : Addr).add 2) = some (.slice l13_2.a l13_2.len l13_2.cap) /\
 Calls prog 16 #[.agg #[.int .i64 n13_0, .slice l13_1.a l13_1.len l13_1.cap, .slice l13_2.a l13_2.len l13_2.cap]] w1 fun e w2 =>
 ∃ b14 : Bool, e = .returned (.bool b14) /\
 Br b14 (
 Calls prog 12 #[] w2 fun e w3 =>
 ∃ b15 : Bool, e = .returned (.bool b15) /\
 runD prog ds w3 fun w4 =>
 R (.returned (.bool b15)) w4) (
 ∃ n17_0 : Int, w2.cell? ((⟨r3, 0, none⟩ : Addr).add 0) = some (.int .i64 n17_0) /\
 ∃ l17_1 : SV, w2.cell? ((⟨r3, 0, none⟩ : Addr).add 1) = some (.slice l17_1.a l17_1.len l17_1.cap) /\
 ∃ l17_2 : SV, w2.cell? ((⟨r3, 0, none⟩ : Addr).add 2) = some (.slice l17_2.a l17_2.len l17_2.cap) /\
 Calls prog 17 #[.agg #[.int .i64 n17_0, .slice l17_1.a l17_1.len l17_1.cap, .slice l17_2.a l17_2.len l17_2.cap]] w2 fun e w5 =>
 ∃ l18_0 : SV, ∃ n18_1 : Int, e = .returned (.tuple #[.slice l18_0.a l18_0.len l18_0.cap, .int .i64 n18_1]) /\
 Br (n18_1 != 0) (
 Calls prog 12 #[] w5 fun e w6 =>
 ∃ b28 : Bool, e = .returned (.bool b28) /\
 runD prog ds w6 fun w7 =>
 R (.returned (.bool b28)) w7) (
 Br ((l18_0.len : Int) == 0) (
 Calls prog 12 #[] w5 fun e w8 =>
 ∃ b28 : Bool, e = .returned (.bool b28) /\
 runD prog ds w8 fun w9 =>
 R (.returned (.bool b28)) w9) (
 IntKind.i64 = IntKind.i64 /\ ((l18_0.len : Int) : Int) ≠ 0 /\
 IntKind.i64 = IntKind.i64 /\ ((l18_0.len : Int) : Int) ≠ 0 /\
 ∃ l40 : SV, ∃ w10 : World, (Builtin.append_ #[37, 37] 37 #[.slice none 0 0, .slice l18_0.a l18_0.len l18_0.cap]).run prog w5 = .ok (.slice l40.a l40.len l40.cap) w10 /\
 ∃ a11 : Addr, l40.a = some a11 /\ 0 ≤ ((IntKind.i64.wrap ((n1.tmod (l18_0.len : Int)) + (l18_0.len : Int))).tmod (l18_0.len : Int)) /\ ((IntKind.i64.wrap ((n1.tmod (l18_0.len : Int)) + (l18_0.len : Int))).tmod (l18_0.len : Int)) < (l40.len : Int) /\
 st1 (a11.add (((IntKind.i64.wrap ((n1.tmod (l18_0.len : Int)) + (l18_0.len : Int))).tmod (l18_0.len : Int)).toNat * 1)) (.int .u8 n2) w10 fun w12 =>
 Calls prog 41 #[.slice l40.a l40.len l40.cap] w12 fun e w13 =>
 ∃ n47_0_0 : Int, ∃ l47_0_1 : SV, ∃ l47_0_2 : SV, ∃ n47_1 : Int, e = .returned (.tuple #[.agg #[.int .i64 n47_0_0, .slice l47_0_1.a l47_0_1.len l47_0_1.cap, .slice l47_0_2.a l47_0_2.len l47_0_2.cap], .int .i64 n47_1]) /\
 alE (.cells #[.int .i64 0, .slice none 0 0, .slice none 0 0] 35) w13 fun r9 w14 =>
 stA prog 35 (⟨r9, 0, none⟩ : Addr) #[.int .i64 n47_0_0, .slice l47_0_1.a l47_0_1.len l47_0_1.cap, .slice l47_0_2.a l47_0_2.len l47_0_2.cap] w14 fun w15 =>
 Br (n47_1 != 0) (
 Br (n47_1 == 11) (
 Calls prog 12 #[] w15 fun e w16 =>
 ∃ b55 : Bool, e = .returned (.bool b55) /\
 runD prog ds w16 fun w17 =>
 R (.returned (.bool b55)) w17) (
 runD prog ds w15 fun w18 =>
 R (.returned (.bool false)) w18)) (
 ∃ n58_0 : Int, w15.cell? ((⟨r9, 0, none⟩ : Addr).add 0) = some (.int .i64 n58_0) /\
 ∃ l58_1 : SV, w15.cell? ((⟨r9, 0, none⟩ : Addr).add 1) = some (.slice l58_1.a l58_1.len l58_1.cap) /\
 ∃ l58_2 : SV, w15.cell? ((⟨r9, 0, none⟩ : Addr).add 2) = some (.slice l58_2.a l58_2.len l58_2.cap) /\
 Calls prog 17 #[.agg #[.int .i64 n58_0, .slice l58_1.a l58_1.len l58_1.cap, .slice l58_2.a l58_2.len l58_2.cap]] w15 fun e w19 =>
 ∃ l59_0 : SV, ∃ n59_1 : Int, e = .returned (.tuple #[.slice l59_0.a l59_0.len l59_0.cap, .int .i64 n59_1]) /\
 Br (n59_1 == 0) (
 Calls prog 23 #[.slice l40.a l40.len l40.cap, .slice l59_0.a l59_0.len l59_0.cap] w19 fun e w20 =>
 ∃ b67 : Bool, e = .returned (.bool b67) /\
 Br b67 (
 Calls prog 12 #[] w20 fun e w21 =>
 ∃ b70 : Bool, e = .returned (.bool b70) /\
 runD prog ds w21 fun w22 =>
 R (.returned (.bool b70)) w22) (
 runD prog ds w20 fun w23 =>
 R (.returned (.bool false)) w23)) (
 runD prog ds w19 fun w24 =>
 R (.returned (.bool false)) w24)))))
theorem c10_l : flat (bodyOf f10) = [c10_0, c10_1, c10_2, c10_3, c10_4, c10_5, c10_6, c10_7, c10_8, c10_9, c10_10, c10_11, c10_12, c10_13, c10_14] := by kernel_rfl
theorem F10_1_ok (R : Rt) (n0_0 : Int) (l0_1 l0_2 : SV) (n1 n2 : Int) (ds : Ds) (w : World) (E : Env) (e0 : E 0 = .agg #[.int .i64 n0_0, .slice l0_1.a l0_1.len l0_1.cap, .slice l0_2.a l0_2.len l0_2.cap]) (e1 : E 1 = .int .i64 n1) (e2 : E 2 = .int .u8 n2) (h : F10_1 R n0_0 l0_1 l0_2 n1 n2 ds w) :
    TrL prog f10.ntmps [c10_0, c10_1, c10_2, c10_3, c10_4, c10_5, c10_6, c10_7, c10_8, c10_9, c10_10, c10_11, c10_12, c10_13, c10_14] (F10_q1 R) E ds w :=
  TrL_leaf (X := F10_1 R n0_0 l0_1 l0_2 n1 n2 ds w) (setAll_cons e0 (setAll_cons e1 (setAll_cons e2 setAll_nil))) (by kernel_rfl) (by kernel_rfl) h
theorem F10_calls (n0_0 : Int) (l0_1 l0_2 : SV) (n1 n2 : Int) (w : World) (R : Rt) (h : F10_1 R n0_0 l0_1 l0_2 n1 n2 [] w) : Calls prog 10 #[.agg #[.int .i64 n0_0, .slice l0_1.a l0_1.len l0_1.cap, .slice l0_2.a l0_2.len l0_2.cap], .int .i64 n1, .int .u8 n2] w R :=
  calls_of_L (l := [c10_0, c10_1, c10_2, c10_3, c10_4, c10_5, c10_6, c10_7, c10_8, c10_9, c10_10, c10_11, c10_12, c10_13, c10_14]) func10 (by kernel_rfl) (by rw [ntmps10]; exact Nat.le_of_ble_eq_true (by kernel_rfl)) c10_l
    (F10_1_ok R n0_0 l0_1 l0_2 n1 n2 [] w _ rfl rfl rfl h)
end Go.Proofs.YtecmfdfhpldmmaaGreatDoor
