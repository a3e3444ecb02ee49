import Derived.Test.YtecmfdfhpldmmaaGreatDoorProg
import Derived.Test.YtecmfdfhpldmmaaGreatDoorShEight
/- Shallow texts of functions, printed by program, each checked by the kernel against the loaded code. No condition. -/
set_option maxRecDepth 100000
set_option linter.unusedVariables false
namespace Go.Proofs.YtecmfdfhpldmmaaGreatDoor
open Go.Sh
open Tryz
@[reducible] noncomputable def cI7 (f : Func) (i : Nat) : Code := itemAt (flat (bodyOf f)) i
@[reducible] noncomputable def cJ7 (c : Code) (i : Nat) : Code := itemAt (flat (innerC c)) i
noncomputable def c36_0 := cI7 f36 0
noncomputable def c36_1 := cI7 f36 1
noncomputable def c36_2 := cI7 f36 2
noncomputable def c36_3 := cI7 f36 3
noncomputable def c36_4 := cI7 f36 4
noncomputable def c36_5 := cI7 f36 5
noncomputable def c36_6 := cI7 f36 6
noncomputable def c36_7 := cI7 f36 7
noncomputable def c36_8 := cI7 f36 8
noncomputable def c36_9 := cI7 f36 9
noncomputable def c36_5_0 := cJ7 c36_5 0
noncomputable def c36_5_0_0 := cJ7 c36_5_0 0
noncomputable def c36_5_0_1 := cJ7 c36_5_0 1
noncomputable def c36_5_0_2 := cJ7 c36_5_0 2
noncomputable def c36_5_0_3 := cJ7 c36_5_0 3
def F36_q1 (R : Rt) : EQ := endQ prog f36.results.toList R
def F36_1 (R : Rt) (l0 : SV) (ds : Ds) (w : World) : Prop :=
 Br (decide ((l0.len : Int) > 16)) (
 runD prog ds w fun w1 =>
 R (.returned (.int .i64 3)) w1) (
 Calls prog 69 #[.slice l0.a l0.len l0.cap] w fun e w2 =>
 ∃ n33 : Int, e = .returned (.int .i64 n33) /\
 Br (decide (n33 > 2000)) (
 runD prog ds w2 fun w3 =>
 R (.returned (.int .i64 3)) w3) (
 runD prog ds w2 fun w4 =>
 R (.returned (.int .i64 0)) w4))
def F36_k2 (R : Rt) : EP := (fun E ds w => dSl (E 0) fun l0 => F36_1 R l0 ds w)
def F36_q3 (R : Rt) : EQ := (thenQ (F36_k2 R) (F36_q1 R))
def F36_q4 (R : Rt) : EQ := (blockQ 0 (F36_q3 R))
def F36_q5 (R : Rt) (J1 : (Int) -> World -> Prop) : EQ := (thenQ (fun E _ w => dInt .i64 (E 16) fun n16 => J1 n16 w) (F36_q4 R))
def F36_2 (R : Rt) (J1 : (Int) -> World -> Prop) (l0 : SV) (m3 : Option Nat) (l14 : SV) (n15 n16 : Int) (ds : Ds) (w : World) : Prop :=
 Br (decide (n16 < n15)) (
 ∃ a5 : Addr, l14.a = some a5 /\ 0 ≤ n16 /\ n16 < (l14.len : Int) /\
 ∃ s19_0 : ByteArray, w.cell? ((a5.add (n16.toNat * 4)).add 0) = some (.string s19_0) /\
 ∃ n19_1 : Int, w.cell? ((a5.add (n16.toNat * 4)).add 1) = some (.int .i64 n19_1) /\
 ∃ n19_2 : Int, w.cell? ((a5.add (n16.toNat * 4)).add 2) = some (.int .i64 n19_2) /\
 ∃ b19_3 : Bool, w.cell? ((a5.add (n16.toNat * 4)).add 3) = some (.bool b19_3) /\
 alE (.cells #[.string (⟨#[]⟩ : ByteArray), .int .i64 0, .int .i64 0, .bool false] 23) w fun r5 w6 =>
 stA prog 23 (⟨r5, 0, none⟩ : Addr) #[.string s19_0, .int .i64 n19_1, .int .i64 n19_2, .bool b19_3] w6 fun w7 =>
 ∃ s22 : ByteArray, w7.cell? (⟨r5, 0, none⟩ : Addr) = some (.string s22) /\
 ∃ b23 : Bool, ∃ w8 : World, (Instr.lookup 88 (.map m3) (.string s22) false).run prog w7 = .ok (.bool b23) w8 /\
 Br b23 (
 runD prog ds w8 fun w9 =>
 R (.returned (.int .i64 5)) w9) (
 ∃ s26 : ByteArray, w8.cell? (⟨r5, 0, none⟩ : Addr) = some (.string s26) /\
 doE prog (Instr.mapUpdate 88 (.map m3) (.string s26) (.bool true)) w8 fun w10 =>
 J1 (IntKind.i64.wrap (n16 + 1)) w10)) (
 F36_1 R l0 ds w)
def F36_3 (R : Rt) (l0 : SV) (m3 : Option Nat) (l14 : SV) (n15 n16 : Int) (ds : Ds) (w : World) : Prop :=
 loopT (fun (J1 : (Int) -> World -> Prop) (s : Int) (w : World) => F36_2 R J1 l0 m3 l14 n15 s ds w) n16 w
abbrev F36_4 (R : Rt) (l0 : SV) (m3 : Option Nat) (l14 : SV) (n15 n16 : Int) (ds : Ds) (w : World) : Prop := F36_3 R l0 m3 l14 n15 n16 ds w
def F36_k6 (R : Rt) : EP := (fun E ds w => dSl (E 0) fun l0 => dMap (E 3) fun m3 => dSl (E 14) fun l14 => dInt .i64 (E 15) fun n15 => dInt .i64 (E 16) fun n16 => F36_4 R l0 m3 l14 n15 n16 ds w)
def F36_5 (R : Rt) (l0 : SV) (ds : Ds) (w : World) : Prop :=
 Br ((l0.len : Int) == 0) (
 runD prog ds w fun w11 =>
 R (.returned (.int .i64 1)) w11) (
 Calls prog 75 #[.slice l0.a l0.len l0.cap, .func (.func 76) #[] #[]] w fun e w12 =>
 ∃ b11 : Bool, e = .returned (.bool b11) /\
 Br b11 (
 runD prog ds w12 fun w13 =>
 R (.returned (.int .i64 1)) w13) (
 alE (.map #[] 0) w12 fun r13 w14 =>
 F36_4 R l0 (some r13) l0 (l0.len : Int) 0 ds w14))
theorem c36_l : flat (bodyOf f36) = [c36_0, c36_1, c36_2, c36_3, c36_4, c36_5, c36_6, c36_7, c36_8, c36_9] := by kernel_rfl
theorem c36_5_l : flat (innerC c36_5) = [c36_5_0] := by kernel_rfl
theorem c36_5_0_l : flat (innerC c36_5_0) = [c36_5_0_0, c36_5_0_1, c36_5_0_2, c36_5_0_3] := by kernel_rfl
theorem F36_1_ok (R : Rt) (l0 : SV) (ds : Ds) (w : World) (E : Env) (e0 : E 0 = .slice l0.a l0.len l0.cap) (h : F36_1 R l0 ds w) :
    TrL prog f36.ntmps [c36_6, c36_7, c36_8, c36_9] (F36_q1 R) E ds w :=
  TrL_leaf (X := F36_1 R l0 ds w) (setAll_cons e0 setAll_nil) (by kernel_rfl) (by kernel_rfl) h
theorem F36_2_ok (R : Rt) (J1 : (Int) -> World -> Prop) (l0 : SV) (m3 : Option Nat) (l14 : SV) (n15 n16 : Int) (ds : Ds) (w : World) (E : Env) (e0 : E 0 = .slice l0.a l0.len l0.cap) (e3 : E 3 = .map m3) (e14 : E 14 = .slice l14.a l14.len l14.cap) (e15 : E 15 = .int .i64 n15) (e16 : E 16 = .int .i64 n16) (h : F36_2 R J1 l0 m3 l14 n15 n16 ds w) :
    TrL prog f36.ntmps [c36_5_0_0, c36_5_0_1, c36_5_0_2, c36_5_0_3] (F36_q5 R J1) E ds w :=
  TrL_leaf (X := F36_2 R J1 l0 m3 l14 n15 n16 ds w) (setAll_cons e0 (setAll_cons e3 (setAll_cons e14 (setAll_cons e15 (setAll_cons e16 setAll_nil))))) (by kernel_rfl) (by kernel_rfl) h
theorem F36_3_ok (R : Rt) (l0 : SV) (m3 : Option Nat) (l14 : SV) (n15 n16 : Int) (ds : Ds) (w : World) (E : Env) (e0 : E 0 = .slice l0.a l0.len l0.cap) (e3 : E 3 = .map m3) (e14 : E 14 = .slice l14.a l14.len l14.cap) (e15 : E 15 = .int .i64 n15) (e16 : E 16 = .int .i64 n16) (h : F36_3 R l0 m3 l14 n15 n16 ds w) :
    TrL prog f36.ntmps [c36_5_0] (F36_q4 R) E ds w :=
  TrL_one (Tr_loop' (c := innerC c36_5_0) (σ := Int) (enc := (fun (s : Int) (E : Env) => E 16 = .int .i64 s)) (D := (fun E K => dInt .i64 (E 16) fun n16 => K n16)) (F := (fun (J1 : (Int) -> World -> Prop) (s : Int) (w : World) => F36_2 R J1 l0 m3 l14 n15 s ds w)) (s0 := n16) (by kernel_rfl) c36_5_0_l e16 (by kernel_rfl) (fun E K hD => by obtain ⟨n16, e16, hD⟩ := dInt_elim hD; exact ⟨n16, e16, hD⟩)
      (fun J1 s E' w' he ha hF => by
      have e16' := he
      exact F36_2_ok R J1 l0 m3 l14 n15 s ds w' E' ((ha 0 (by kernel_rfl)).trans e0) ((ha 3 (by kernel_rfl)).trans e3) ((ha 14 (by kernel_rfl)).trans e14) ((ha 15 (by kernel_rfl)).trans e15) e16' hF) h)
theorem F36_4_ok (R : Rt) (l0 : SV) (m3 : Option Nat) (l14 : SV) (n15 n16 : Int) (ds : Ds) (w : World) (E : Env) (e0 : E 0 = .slice l0.a l0.len l0.cap) (e3 : E 3 = .map m3) (e14 : E 14 = .slice l14.a l14.len l14.cap) (e15 : E 15 = .int .i64 n15) (e16 : E 16 = .int .i64 n16) (h : F36_4 R l0 m3 l14 n15 n16 ds w) :
    TrL prog f36.ntmps [c36_5, c36_6, c36_7, c36_8, c36_9] (F36_q1 R) E ds w :=
  TrL_head (K := (F36_k2 R)) (Tr_block' (c := innerC c36_5) (by kernel_rfl) c36_5_l (F36_3_ok R l0 m3 l14 n15 n16 ds w E e0 e3 e14 e15 e16 h))
    (fun E' ds' w' hD => by
      obtain ⟨l0, e0, hD⟩ := dSl_elim hD; exact F36_1_ok R l0 ds' w' E' e0 hD)
theorem F36_5_ok (R : Rt) (l0 : SV) (ds : Ds) (w : World) (E : Env) (e0 : E 0 = .slice l0.a l0.len l0.cap) (h : F36_5 R l0 ds w) :
    TrL prog f36.ntmps [c36_0, c36_1, c36_2, c36_3, c36_4, c36_5, c36_6, c36_7, c36_8, c36_9] (F36_q1 R) E ds w :=
  TrL_piece (pre := [c36_0, c36_1, c36_2, c36_3, c36_4]) (K := (F36_k6 R)) (X := F36_5 R l0 ds w) (setAll_cons e0 setAll_nil) (by kernel_rfl) (by kernel_rfl)
    (fun E' ds' w' hD => by
      obtain ⟨l0, e0, hD⟩ := dSl_elim hD; obtain ⟨m3, e3, hD⟩ := dMap_elim hD; obtain ⟨l14, e14, hD⟩ := dSl_elim hD; obtain ⟨n15, e15, hD⟩ := dInt_elim hD; obtain ⟨n16, e16, hD⟩ := dInt_elim hD; exact F36_4_ok R l0 m3 l14 n15 n16 ds' w' E' e0 e3 e14 e15 e16 hD) h
theorem F36_calls (l0 : SV) (w : World) (R : Rt) (h : F36_5 R l0 [] w) : Calls prog 36 #[.slice l0.a l0.len l0.cap] w R :=
  calls_of_L (l := [c36_0, c36_1, c36_2, c36_3, c36_4, c36_5, c36_6, c36_7, c36_8, c36_9]) func36 (by kernel_rfl) (by rw [ntmps36]; exact Nat.le_of_ble_eq_true (by kernel_rfl)) c36_l
    (F36_5_ok R l0 [] w _ rfl h)
noncomputable def c75_0 := cI7 f75 0
noncomputable def c75_1 := cI7 f75 1
noncomputable def c75_2 := cI7 f75 2
def F75_q1 (R : Rt) : EQ := endQ prog f75.results.toList R
def F75_1 (R : Rt) (l0 : SV) (v1 : Value) (ds : Ds) (w : World) : Prop :=
 Calls prog 66 #[.slice l0.a l0.len l0.cap, v1] w fun e w1 =>
 ∃ n7 : Int, e = .returned (.int .i64 n7) /\
 runD prog ds w1 fun w2 =>
 R (.returned (.bool (decide (n7 ≥ 0)))) w2
theorem c75_l : flat (bodyOf f75) = [c75_0, c75_1, c75_2] := by kernel_rfl
theorem F75_1_ok (R : Rt) (l0 : SV) (v1 : Value) (ds : Ds) (w : World) (E : Env) (e0 : E 0 = .slice l0.a l0.len l0.cap) (e1 : E 1 = v1) (h : F75_1 R l0 v1 ds w) :
    TrL prog f75.ntmps [c75_0, c75_1, c75_2] (F75_q1 R) E ds w :=
  TrL_leaf (X := F75_1 R l0 v1 ds w) (setAll_cons e0 (setAll_cons e1 setAll_nil)) (by kernel_rfl) (by kernel_rfl) h
theorem F75_calls (l0 : SV) (v1 : Value) (w : World) (R : Rt) (h : F75_1 R l0 v1 [] w) : Calls prog 75 #[.slice l0.a l0.len l0.cap, v1] w R :=
  calls_of_L (l := [c75_0, c75_1, c75_2]) func75 (by kernel_rfl) (by rw [ntmps75]; exact Nat.le_of_ble_eq_true (by kernel_rfl)) c75_l
    (F75_1_ok R l0 v1 [] w _ rfl rfl h)
noncomputable def c76_0 := cI7 f76 0
noncomputable def c76_1 := cI7 f76 1
noncomputable def c76_2 := cI7 f76 2
def F76_q1 (R : Rt) : EQ := endQ prog f76.results.toList R
def F76_1 (R : Rt) (s0_0 : ByteArray) (n0_1 n0_2 : Int) (b0_3 : Bool) (ds : Ds) (w : World) : Prop :=
 alE (.cells #[.string s0_0, .int .i64 n0_1, .int .i64 n0_2, .bool b0_3] 23) w fun r1 w1 =>
 ∃ s3_0 : ByteArray, w1.cell? ((⟨r1, 0, none⟩ : Addr).add 0) = some (.string s3_0) /\
 ∃ n3_1 : Int, w1.cell? ((⟨r1, 0, none⟩ : Addr).add 1) = some (.int .i64 n3_1) /\
 ∃ n3_2 : Int, w1.cell? ((⟨r1, 0, none⟩ : Addr).add 2) = some (.int .i64 n3_2) /\
 ∃ b3_3 : Bool, w1.cell? ((⟨r1, 0, none⟩ : Addr).add 3) = some (.bool b3_3) /\
 Calls prog 47 #[.agg #[.string s3_0, .int .i64 n3_1, .int .i64 n3_2, .bool b3_3]] w1 fun e w2 =>
 ∃ b4 : Bool, e = .returned (.bool b4) /\
 runD prog ds w2 fun w3 =>
 R (.returned (.bool (!b4))) w3
theorem c76_l : flat (bodyOf f76) = [c76_0, c76_1, c76_2] := by kernel_rfl
theorem F76_1_ok (R : Rt) (s0_0 : ByteArray) (n0_1 n0_2 : Int) (b0_3 : Bool) (ds : Ds) (w : World) (E : Env) (e0 : E 0 = .agg #[.string s0_0, .int .i64 n0_1, .int .i64 n0_2, .bool b0_3]) (h : F76_1 R s0_0 n0_1 n0_2 b0_3 ds w) :
    TrL prog f76.ntmps [c76_0, c76_1, c76_2] (F76_q1 R) E ds w :=
  TrL_leaf (X := F76_1 R s0_0 n0_1 n0_2 b0_3 ds w) (setAll_cons e0 setAll_nil) (by kernel_rfl) (by kernel_rfl) h
theorem F76_calls (s0_0 : ByteArray) (n0_1 n0_2 : Int) (b0_3 : Bool) (w : World) (R : Rt) (h : F76_1 R s0_0 n0_1 n0_2 b0_3 [] w) : Calls prog 76 #[.agg #[.string s0_0, .int .i64 n0_1, .int .i64 n0_2, .bool b0_3]] w R :=
  calls_of_L (l := [c76_0, c76_1, c76_2]) func76 (by kernel_rfl) (by rw [ntmps76]; exact Nat.le_of_ble_eq_true (by kernel_rfl)) c76_l
    (F76_1_ok R s0_0 n0_1 n0_2 b0_3 [] w _ rfl h)
noncomputable def c69_0 := cI7 f69 0
noncomputable def c69_1 := cI7 f69 1
noncomputable def c69_2 := cI7 f69 2
noncomputable def c69_3 := cI7 f69 3
noncomputable def c69_4 := cI7 f69 4
noncomputable def c69_5 := cI7 f69 5
noncomputable def c69_3_0 := cJ7 c69_3 0
noncomputable def c69_3_0_0 := cJ7 c69_3_0 0
noncomputable def c69_3_0_1 := cJ7 c69_3_0 1
noncomputable def c69_3_0_2 := cJ7 c69_3_0 2
noncomputable def c69_3_0_3 := cJ7 c69_3_0 3
def F69_q1 (R : Rt) : EQ := endQ prog f69.results.toList R
def F69_1 (R : Rt) (n3 : Int) (ds : Ds) (w : World) : Prop :=
 runD prog ds w fun w1 =>
 R (.returned (.int .i64 n3)) w1
def F69_k2 (R : Rt) : EP := (fun E ds w => dInt .i64 (E 3) fun n3 => F69_1 R n3 ds w)
def F69_q3 (R : Rt) : EQ := (thenQ (F69_k2 R) (F69_q1 R))
def F69_q4 (R : Rt) : EQ := (blockQ 0 (F69_q3 R))
def F69_q5 (R : Rt) (J1 : (Int × Int) -> World -> Prop) : EQ := (thenQ (fun E _ w => dInt .i64 (E 3) fun n3 => dInt .i64 (E 11) fun n11 => J1 (n3, n11) w) (F69_q4 R))
def F69_2 (R : Rt) (J1 : (Int × Int) -> World -> Prop) (n3 : Int) (l9 : SV) (n10 n11 : Int) (ds : Ds) (w : World) : Prop :=
 Br (decide (n11 < n10)) (
 ∃ a2 : Addr, l9.a = some a2 /\ 0 ≤ n11 /\ n11 < (l9.len : Int) /\
 ∃ s14_0 : ByteArray, w.cell? ((a2.add (n11.toNat * 4)).add 0) = some (.string s14_0) /\
 ∃ n14_1 : Int, w.cell? ((a2.add (n11.toNat * 4)).add 1) = some (.int .i64 n14_1) /\
 ∃ n14_2 : Int, w.cell? ((a2.add (n11.toNat * 4)).add 2) = some (.int .i64 n14_2) /\
 ∃ b14_3 : Bool, w.cell? ((a2.add (n11.toNat * 4)).add 3) = some (.bool b14_3) /\
 alE (.cells #[.string (⟨#[]⟩ : ByteArray), .int .i64 0, .int .i64 0, .bool false] 23) w fun r5 w3 =>
 stA prog 23 (⟨r5, 0, none⟩ : Addr) #[.string s14_0, .int .i64 n14_1, .int .i64 n14_2, .bool b14_3] w3 fun w4 =>
 ∃ n17 : Int, w4.cell? ((⟨r5, 0, none⟩ : Addr).add 2) = some (.int .i64 n17) /\
 J1 ((IntKind.i64.wrap (n3 + n17)), (IntKind.i64.wrap (n11 + 1))) w4) (
 F69_1 R n3 ds w)
def F69_3 (R : Rt) (n3 : Int) (l9 : SV) (n10 n11 : Int) (ds : Ds) (w : World) : Prop :=
 loopT (fun (J1 : (Int × Int) -> World -> Prop) (s : Int × Int) (w : World) => F69_2 R J1 s.1 l9 n10 s.2 ds w) (n3, n11) w
abbrev F69_4 (R : Rt) (n3 : Int) (l9 : SV) (n10 n11 : Int) (ds : Ds) (w : World) : Prop := F69_3 R n3 l9 n10 n11 ds w
def F69_k6 (R : Rt) : EP := (fun E ds w => dInt .i64 (E 3) fun n3 => dSl (E 9) fun l9 => dInt .i64 (E 10) fun n10 => dInt .i64 (E 11) fun n11 => F69_4 R n3 l9 n10 n11 ds w)
def F69_5 (R : Rt) (l0 : SV) (ds : Ds) (w : World) : Prop :=
 Calls prog 71 #[.slice l0.a l0.len l0.cap] w fun e w5 =>
 ∃ n7 : Int, e = .returned (.int .i64 n7) /\
 F69_4 R (IntKind.i64.wrap ((1 : Int) + n7)) l0 (l0.len : Int) 0 ds w5
theorem c69_l : flat (bodyOf f69) = [c69_0, c69_1, c69_2, c69_3, c69_4, c69_5] := by kernel_rfl
theorem c69_3_l : flat (innerC c69_3) = [c69_3_0] := by kernel_rfl
theorem c69_3_0_l : flat (innerC c69_3_0) = [c69_3_0_0, c69_3_0_1, c69_3_0_2, c69_3_0_3] := by kernel_rfl
theorem F69_1_ok (R : Rt) (n3 : Int) (ds : Ds) (w : World) (E : Env) (e3 : E 3 = .int .i64 n3) (h : F69_1 R n3 ds w) :
    TrL prog f69.ntmps [c69_4, c69_5] (F69_q1 R) E ds w :=
  TrL_leaf (X := F69_1 R n3 ds w) (setAll_cons e3 setAll_nil) (by kernel_rfl) (by kernel_rfl) h
theorem F69_2_ok (R : Rt) (J1 : (Int × Int) -> World -> Prop) (n3 : Int) (l9 : SV) (n10 n11 : Int) (ds : Ds) (w : World) (E : Env) (e3 : E 3 = .int .i64 n3) (e9 : E 9 = .slice l9.a l9.len l9.cap) (e10 : E 10 = .int .i64 n10) (e11 : E 11 = .int .i64 n11) (h : F69_2 R J1 n3 l9 n10 n11 ds w) :
    TrL prog f69.ntmps [c69_3_0_0, c69_3_0_1, c69_3_0_2, c69_3_0_3] (F69_q5 R J1) E ds w :=
  TrL_leaf (X := F69_2 R J1 n3 l9 n10 n11 ds w) (setAll_cons e3 (setAll_cons e9 (setAll_cons e10 (setAll_cons e11 setAll_nil)))) (by kernel_rfl) (by kernel_rfl) h
theorem F69_3_ok (R : Rt) (n3 : Int) (l9 : SV) (n10 n11 : Int) (ds : Ds) (w : World) (E : Env) (e3 : E 3 = .int .i64 n3) (e9 : E 9 = .slice l9.a l9.len l9.cap) (e10 : E 10 = .int .i64 n10) (e11 : E 11 = .int .i64 n11) (h : F69_3 R n3 l9 n10 n11 ds w) :
    TrL prog f69.ntmps [c69_3_0] (F69_q4 R) E ds w :=
  TrL_one (Tr_loop' (c := innerC c69_3_0) (σ := Int × Int) (enc := (fun (s : Int × Int) (E : Env) => E 3 = .int .i64 s.1 /\ E 11 = .int .i64 s.2)) (D := (fun E K => dInt .i64 (E 3) fun n3 => dInt .i64 (E 11) fun n11 => K (n3, n11))) (F := (fun (J1 : (Int × Int) -> World -> Prop) (s : Int × Int) (w : World) => F69_2 R J1 s.1 l9 n10 s.2 ds w)) (s0 := (n3, n11)) (by kernel_rfl) c69_3_0_l ⟨e3, e11⟩ (by kernel_rfl) (fun E K hD => by obtain ⟨n3, e3, hD⟩ := dInt_elim hD; obtain ⟨n11, e11, hD⟩ := dInt_elim hD; exact ⟨(n3, n11), ⟨e3, e11⟩, hD⟩)
      (fun J1 s E' w' he ha hF => by
      obtain ⟨e3', e11'⟩ := he
      exact F69_2_ok R J1 s.1 l9 n10 s.2 ds w' E' e3' ((ha 9 (by kernel_rfl)).trans e9) ((ha 10 (by kernel_rfl)).trans e10) e11' hF) h)
theorem F69_4_ok (R : Rt) (n3 : Int) (l9 : SV) (n10 n11 : Int) (ds : Ds) (w : World) (E : Env) (e3 : E 3 = .int .i64 n3) (e9 : E 9 = .slice l9.a l9.len l9.cap) (e10 : E 10 = .int .i64 n10) (e11 : E 11 = .int .i64 n11) (h : F69_4 R n3 l9 n10 n11 ds w) :
    TrL prog f69.ntmps [c69_3, c69_4, c69_5] (F69_q1 R) E ds w :=
  TrL_head (K := (F69_k2 R)) (Tr_block' (c := innerC c69_3) (by kernel_rfl) c69_3_l (F69_3_ok R n3 l9 n10 n11 ds w E e3 e9 e10 e11 h))
    (fun E' ds' w' hD => by
      obtain ⟨n3, e3, hD⟩ := dInt_elim hD; exact F69_1_ok R n3 ds' w' E' e3 hD)
theorem F69_5_ok (R : Rt) (l0 : SV) (ds : Ds) (w : World) (E : Env) (e0 : E 0 = .slice l0.a l0.len l0.cap) (h : F69_5 R l0 ds w) :
    TrL prog f69.ntmps [c69_0, c69_1, c69_2, c69_3, c69_4, c69_5] (F69_q1 R) E ds w :=
  TrL_piece (pre := [c69_0, c69_1, c69_2]) (K := (F69_k6 R)) (X := F69_5 R l0 ds w) (setAll_cons e0 setAll_nil) (by kernel_rfl) (by kernel_rfl)
    (fun E' ds' w' hD => by
      obtain ⟨n3, e3, hD⟩ := dInt_elim hD; obtain ⟨l9, e9, hD⟩ := dSl_elim hD; obtain ⟨n10, e10, hD⟩ := dInt_elim hD; obtain ⟨n11, e11, hD⟩ := dInt_elim hD; exact F69_4_ok R n3 l9 n10 n11 ds' w' E' e3 e9 e10 e11 hD) h
theorem F69_calls (l0 : SV) (w : World) (R : Rt) (h : F69_5 R l0 [] w) : Calls prog 69 #[.slice l0.a l0.len l0.cap] w R :=
  calls_of_L (l := [c69_0, c69_1, c69_2, c69_3, c69_4, c69_5]) func69 (by kernel_rfl) (by rw [ntmps69]; exact Nat.le_of_ble_eq_true (by kernel_rfl)) c69_l
    (F69_5_ok R l0 [] w _ rfl h)
noncomputable def c71_0 := cI7 f71 0
noncomputable def c71_1 := cI7 f71 1
noncomputable def c71_2 := cI7 f71 2
noncomputable def c71_3 := cI7 f71 3
noncomputable def c71_4 := cI7 f71 4
noncomputable def c71_5 := cI7 f71 5
noncomputable def c71_3_0 := cJ7 c71_3 0
noncomputable def c71_3_0_0 := cJ7 c71_3_0 0
noncomputable def c71_3_0_1 := cJ7 c71_3_0 1
noncomputable def c71_3_0_2 := cJ7 c71_3_0 2
noncomputable def c71_3_0_3 := cJ7 c71_3_0 3
def F71_q1 (R : Rt) : EQ := endQ prog f71.results.toList R
def F71_1 (R : Rt) (n3 : Int) (ds : Ds) (w : World) : Prop :=
 IntKind.i64 = IntKind.i64 /\ (8 : Int) ≠ 0 /\
 runD prog ds w fun w1 =>
 R (.returned (.int .i64 (IntKind.i64.wrap ((IntKind.i64.wrap (n3 + 7)).tdiv 8)))) w1
def F71_k2 (R : Rt) : EP := (fun E ds w => dInt .i64 (E 3) fun n3 => F71_1 R n3 ds w)
def F71_q3 (R : Rt) : EQ := (thenQ (F71_k2 R) (F71_q1 R))
def F71_q4 (R : Rt) : EQ := (blockQ 0 (F71_q3 R))
def F71_q5 (R : Rt) (J1 : (Int × Int) -> World -> Prop) : EQ := (thenQ (fun E _ w => dInt .i64 (E 3) fun n3 => dInt .i64 (E 8) fun n8 => J1 (n3, n8) w) (F71_q4 R))
def F71_2 (R : Rt) (J1 : (Int × Int) -> World -> Prop) (n3 : Int) (l6 : SV) (n7 n8 : Int) (ds : Ds) (w : World) : Prop :=
 Br (decide (n8 < n7)) (
 ∃ a2 : Addr, l6.a = some a2 /\ 0 ≤ n8 /\ n8 < (l6.len : Int) /\
 ∃ s11_0 : ByteArray, w.cell? ((a2.add (n8.toNat * 4)).add 0) = some (.string s11_0) /\
 ∃ n11_1 : Int, w.cell? ((a2.add (n8.toNat * 4)).add 1) = some (.int .i64 n11_1) /\
 ∃ n11_2 : Int, w.cell? ((a2.add (n8.toNat * 4)).add 2) = some (.int .i64 n11_2) /\
 ∃ b11_3 : Bool, w.cell? ((a2.add (n8.toNat * 4)).add 3) = some (.bool b11_3) /\
 alE (.cells #[.string (⟨#[]⟩ : ByteArray), .int .i64 0, .int .i64 0, .bool false] 23) w fun r5 w3 =>
 stA prog 23 (⟨r5, 0, none⟩ : Addr) #[.string s11_0, .int .i64 n11_1, .int .i64 n11_2, .bool b11_3] w3 fun w4 =>
 ∃ b13 : Bool, w4.cell? ((⟨r5, 0, none⟩ : Addr).add 3) = some (.bool b13) /\
 Br b13 (
 J1 ((IntKind.i64.wrap (n3 + 1)), (IntKind.i64.wrap (n8 + 1))) w4) (
 J1 (n3, (IntKind.i64.wrap (n8 + 1))) w4)) (
 F71_1 R n3 ds w)
def F71_3 (R : Rt) (n3 : Int) (l6 : SV) (n7 n8 : Int) (ds : Ds) (w : World) : Prop :=
 loopT (fun (J1 : (Int × Int) -> World -> Prop) (s : Int × Int) (w : World) => F71_2 R J1 s.1 l6 n7 s.2 ds w) (n3, n8) w
abbrev F71_4 (R : Rt) (n3 : Int) (l6 : SV) (n7 n8 : Int) (ds : Ds) (w : World) : Prop := F71_3 R n3 l6 n7 n8 ds w
def F71_k6 (R : Rt) : EP := (fun E ds w => dInt .i64 (E 3) fun n3 => dSl (E 6) fun l6 => dInt .i64 (E 7) fun n7 => dInt .i64 (E 8) fun n8 => F71_4 R n3 l6 n7 n8 ds w)
def F71_5 (R : Rt) (l0 : SV) (ds : Ds) (w : World) : Prop :=
 F71_4 R 0 l0 (l0.len : Int) 0 ds w
theorem c71_l : flat (bodyOf f71) = [c71_0, c71_1, c71_2, c71_3, c71_4, c71_5] := by kernel_rfl
theorem c71_3_l : flat (innerC c71_3) = [c71_3_0] := by kernel_rfl
theorem c71_3_0_l : flat (innerC c71_3_0) = [c71_3_0_0, c71_3_0_1, c71_3_0_2, c71_3_0_3] := by kernel_rfl
theorem F71_1_ok (R : Rt) (n3 : Int) (ds : Ds) (w : World) (E : Env) (e3 : E 3 = .int .i64 n3) (h : F71_1 R n3 ds w) :
    TrL prog f71.ntmps [c71_4, c71_5] (F71_q1 R) E ds w :=
  TrL_leaf (X := F71_1 R n3 ds w) (setAll_cons e3 setAll_nil) (by kernel_rfl) (by kernel_rfl) h
theorem F71_2_ok (R : Rt) (J1 : (Int × Int) -> World -> Prop) (n3 : Int) (l6 : SV) (n7 n8 : Int) (ds : Ds) (w : World) (E : Env) (e3 : E 3 = .int .i64 n3) (e6 : E 6 = .slice l6.a l6.len l6.cap) (e7 : E 7 = .int .i64 n7) (e8 : E 8 = .int .i64 n8) (h : F71_2 R J1 n3 l6 n7 n8 ds w) :
    TrL prog f71.ntmps [c71_3_0_0, c71_3_0_1, c71_3_0_2, c71_3_0_3] (F71_q5 R J1) E ds w :=
  TrL_leaf (X := F71_2 R J1 n3 l6 n7 n8 ds w) (setAll_cons e3 (setAll_cons e6 (setAll_cons e7 (setAll_cons e8 setAll_nil)))) (by kernel_rfl) (by kernel_rfl) h
theorem F71_3_ok (R : Rt) (n3 : Int) (l6 : SV) (n7 n8 : Int) (ds : Ds) (w : World) (E : Env) (e3 : E 3 = .int .i64 n3) (e6 : E 6 = .slice l6.a l6.len l6.cap) (e7 : E 7 = .int .i64 n7) (e8 : E 8 = .int .i64 n8) (h : F71_3 R n3 l6 n7 n8 ds w) :
    TrL prog f71.ntmps [c71_3_0] (F71_q4 R) E ds w :=
  TrL_one (Tr_loop' (c := innerC c71_3_0) (σ := Int × Int) (enc := (fun (s : Int × Int) (E : Env) => E 3 = .int .i64 s.1 /\ E 8 = .int .i64 s.2)) (D := (fun E K => dInt .i64 (E 3) fun n3 => dInt .i64 (E 8) fun n8 => K (n3, n8))) (F := (fun (J1 : (Int × Int) -> World -> Prop) (s : Int × Int) (w : World) => F71_2 R J1 s.1 l6 n7 s.2 ds w)) (s0 := (n3, n8)) (by kernel_rfl) c71_3_0_l ⟨e3, e8⟩ (by kernel_rfl) (fun E K hD => by obtain ⟨n3, e3, hD⟩ := dInt_elim hD; obtain ⟨n8, e8, hD⟩ := dInt_elim hD; exact ⟨(n3, n8), ⟨e3, e8⟩, hD⟩)
      (fun J1 s E' w' he ha hF => by
      obtain ⟨e3', e8'⟩ := he
      exact F71_2_ok R J1 s.1 l6 n7 s.2 ds w' E' e3' ((ha 6 (by kernel_rfl)).trans e6) ((ha 7 (by kernel_rfl)).trans e7) e8' hF) h)
theorem F71_4_ok (R : Rt) (n3 : Int) (l6 : SV) (n7 n8 : Int) (ds : Ds) (w : World) (E : Env) (e3 : E 3 = .int .i64 n3) (e6 : E 6 = .slice l6.a l6.len l6.cap) (e7 : E 7 = .int .i64 n7) (e8 : E 8 = .int .i64 n8) (h : F71_4 R n3 l6 n7 n8 ds w) :
    TrL prog f71.ntmps [c71_3, c71_4, c71_5] (F71_q1 R) E ds w :=
  TrL_head (K := (F71_k2 R)) (Tr_block' (c := innerC c71_3) (by kernel_rfl) c71_3_l (F71_3_ok R n3 l6 n7 n8 ds w E e3 e6 e7 e8 h))
    (fun E' ds' w' hD => by
      obtain ⟨n3, e3, hD⟩ := dInt_elim hD; exact F71_1_ok R n3 ds' w' E' e3 hD)
theorem F71_5_ok (R : Rt) (l0 : SV) (ds : Ds) (w : World) (E : Env) (e0 : E 0 = .slice l0.a l0.len l0.cap) (h : F71_5 R l0 ds w) :
    TrL prog f71.ntmps [c71_0, c71_1, c71_2, c71_3, c71_4, c71_5] (F71_q1 R) E ds w :=
  TrL_piece (pre := [c71_0, c71_1, c71_2]) (K := (F71_k6 R)) (X := F71_5 R l0 ds w) (setAll_cons e0 setAll_nil) (by kernel_rfl) (by kernel_rfl)
    (fun E' ds' w' hD => by
      obtain ⟨n3, e3, hD⟩ := dInt_elim hD; obtain ⟨l6, e6, hD⟩ := dSl_elim hD; obtain ⟨n7, e7, hD⟩ := dInt_elim hD; obtain ⟨n8, e8, hD⟩ := dInt_elim hD; exact F71_4_ok R n3 l6 n7 n8 ds' w' E' e3 e6 e7 e8 hD) h
theorem F71_calls (l0 : SV) (w : World) (R : Rt) (h : F71_5 R l0 [] w) : Calls prog 71 #[.slice l0.a l0.len l0.cap] w R :=
  calls_of_L (l := [c71_0, c71_1, c71_2, c71_3, c71_4, c71_5]) func71 (by kernel_rfl) (by rw [ntmps71]; exact Nat.le_of_ble_eq_true (by kernel_rfl)) c71_l
    (F71_5_ok R l0 [] w _ rfl h)
noncomputable def c37_0 := cI7 f37 0
noncomputable def c37_1 := cI7 f37 1
noncomputable def c37_2 := cI7 f37 2
noncomputable def c37_3 := cI7 f37 3
noncomputable def c37_4 := cI7 f37 4
noncomputable def c37_5 := cI7 f37 5
noncomputable def c37_6 := cI7 f37 6
noncomputable def c37_7 := cI7 f37 7
noncomputable def c37_8 := cI7 f37 8
noncomputable def c37_9 := cI7 f37 9
noncomputable def c37_10 := cI7 f37 10
noncomputable def c37_6_0 := cJ7 c37_6 0
noncomputable def c37_6_0_0 := cJ7 c37_6_0 0
noncomputable def c37_6_0_1 := cJ7 c37_6_0 1
noncomputable def c37_6_0_2 := cJ7 c37_6_0 2
noncomputable def c37_6_0_3 := cJ7 c37_6_0 3
noncomputable def c37_6_0_2_0 := cJ7 c37_6_0_2 0
noncomputable def c37_6_0_2_1 := cJ7 c37_6_0_2 1
noncomputable def c37_6_0_2_1_0 := cJ7 c37_6_0_2_1 0
noncomputable def c37_6_0_2_1_0_0 := cJ7 c37_6_0_2_1_0 0
noncomputable def c37_6_0_2_1_0_1 := cJ7 c37_6_0_2_1_0 1
noncomputable def c37_6_0_2_1_0_2 := cJ7 c37_6_0_2_1_0 2
noncomputable def c37_6_0_2_1_0_3 := cJ7 c37_6_0_2_1_0 3
noncomputable def c37_4_0 := cJ7 c37_4 0
noncomputable def c37_4_0_0 := cJ7 c37_4_0 0
noncomputable def c37_4_0_1 := cJ7 c37_4_0 1
noncomputable def c37_4_0_2 := cJ7 c37_4_0 2
noncomputable def c37_4_0_3 := cJ7 c37_4_0 3
def F37_q1 (R : Rt) : EQ := endQ prog f37.results.toList R
def F37_1 (R : Rt) (l0 : SV) (ds : Ds) (w : World) : Prop :=
 Br (decide ((l0.len : Int) > 16)) (
 runD prog ds w fun w1 =>
 R (.returned (.int .i64 3)) w1) (
 Calls prog 70 #[.slice l0.a l0.len l0.cap] w fun e w2 =>
 ∃ n48 : Int, e = .returned (.int .i64 n48) /\
 Br (decide (n48 > 2000)) (
 runD prog ds w2 fun w3 =>
 R (.returned (.int .i64 3)) w3) (
 runD prog ds w2 fun w4 =>
 R (.returned (.int .i64 0)) w4))
def F37_k2 (R : Rt) : EP := (fun E ds w => dSl (E 0) fun l0 => F37_1 R l0 ds w)
def F37_q3 (R : Rt) : EQ := (thenQ (F37_k2 R) (F37_q1 R))
def F37_q4 (R : Rt) : EQ := (blockQ 2 (F37_q3 R))
def F37_q5 (R : Rt) (J1 : (Int) -> World -> Prop) : EQ := (thenQ (fun E _ w => dInt .i64 (E 4) fun n4 => J1 n4 w) (F37_q4 R))
def F37_2 (R : Rt) (J1 : (Int) -> World -> Prop) (l0 : SV) (n4 : Int) (ds : Ds) (w : World) : Prop :=
 J1 (IntKind.i64.wrap (n4 + 1)) w
def F37_k6 (R : Rt) (J1 : (Int) -> World -> Prop) : EP := (fun E ds w => dSl (E 0) fun l0 => dInt .i64 (E 4) fun n4 => F37_2 R J1 l0 n4 ds w)
def F37_q7 (R : Rt) (J1 : (Int) -> World -> Prop) : EQ := (thenQ (F37_k6 R J1) (F37_q5 R J1))
def F37_q8 (R : Rt) (J1 : (Int) -> World -> Prop) : EQ := (blockQ 3 (F37_q7 R J1))
def F37_q9 (R : Rt) (J1 : (Int) -> World -> Prop) : EQ := (blockQ 4 (F37_q8 R J1))
def F37_q10 (R : Rt) (J1 : (Int) -> World -> Prop) (J2 : (Int) -> World -> Prop) : EQ := (thenQ (fun E _ w => dInt .i64 (E 5) fun n5 => J2 n5 w) (F37_q9 R J1))
def F37_3 (R : Rt) (J1 : (Int) -> World -> Prop) (J2 : (Int) -> World -> Prop) (l0 : SV) (n4 n5 : Int) (ds : Ds) (w : World) : Prop :=
 Br (decide (n5 < n4)) (
 dwE w fun w5 =>
 ∃ a6 : Addr, l0.a = some a6 /\ 0 ≤ n4 /\ n4 < (l0.len : Int) /\
 ∃ s36 : ByteArray, w5.cell? (a6.add (n4.toNat * 4)) = some (.string s36) /\
 ∃ a7 : Addr, l0.a = some a7 /\ 0 ≤ n5 /\ n5 < (l0.len : Int) /\
 ∃ s41 : ByteArray, w5.cell? (a7.add (n5.toNat * 4)) = some (.string s41) /\
 Br (s36.toList == s41.toList) (
 runD prog ds w5 fun w8 =>
 R (.returned (.int .i64 5)) w8) (
 J2 (IntKind.i64.wrap (n5 + 1)) w5)) (
 F37_2 R J1 l0 n4 ds w)
def F37_4 (R : Rt) (J1 : (Int) -> World -> Prop) (l0 : SV) (n4 n5 : Int) (ds : Ds) (w : World) : Prop :=
 loopT (fun (J2 : (Int) -> World -> Prop) (s : Int) (w : World) => F37_3 R J1 J2 l0 n4 s ds w) n5 w
abbrev F37_5 (R : Rt) (J1 : (Int) -> World -> Prop) (l0 : SV) (n4 n5 : Int) (ds : Ds) (w : World) : Prop := F37_4 R J1 l0 n4 n5 ds w
def F37_k11 (R : Rt) (J1 : (Int) -> World -> Prop) : EP := (fun E ds w => dSl (E 0) fun l0 => dInt .i64 (E 4) fun n4 => dInt .i64 (E 5) fun n5 => F37_5 R J1 l0 n4 n5 ds w)
def F37_6 (R : Rt) (J1 : (Int) -> World -> Prop) (l0 : SV) (n4 : Int) (ds : Ds) (w : World) : Prop :=
 F37_5 R J1 l0 n4 0 ds w
abbrev F37_7 (R : Rt) (J1 : (Int) -> World -> Prop) (l0 : SV) (n4 : Int) (ds : Ds) (w : World) : Prop := F37_6 R J1 l0 n4 ds w
def F37_k12 (R : Rt) (J1 : (Int) -> World -> Prop) : EP := (fun E ds w => dSl (E 0) fun l0 => dInt .i64 (E 4) fun n4 => F37_7 R J1 l0 n4 ds w)
def F37_8 (R : Rt) (J1 : (Int) -> World -> Prop) (l0 : SV) (n4 : Int) (ds : Ds) (w : World) : Prop :=
 Br (decide (n4 < (l0.len : Int))) (
 F37_7 R J1 l0 n4 ds w) (
 F37_1 R l0 ds w)
def F37_9 (R : Rt) (l0 : SV) (n4 : Int) (ds : Ds) (w : World) : Prop :=
 loopT (fun (J1 : (Int) -> World -> Prop) (s : Int) (w : World) => F37_8 R J1 l0 s ds w) n4 w
abbrev F37_10 (R : Rt) (l0 : SV) (n4 : Int) (ds : Ds) (w : World) : Prop := F37_9 R l0 n4 ds w
def F37_k13 (R : Rt) : EP := (fun E ds w => dSl (E 0) fun l0 => dInt .i64 (E 4) fun n4 => F37_10 R l0 n4 ds w)
def F37_11 (R : Rt) (l0 : SV) (ds : Ds) (w : World) : Prop :=
 F37_10 R l0 0 ds w
def F37_k14 (R : Rt) : EP := (fun E ds w => dSl (E 0) fun l0 => F37_11 R l0 ds w)
def F37_q15 (R : Rt) : EQ := (thenQ (F37_k14 R) (F37_q1 R))
def F37_q16 (R : Rt) : EQ := (blockQ 0 (F37_q15 R))
def F37_q17 (R : Rt) (J1 : (Int) -> World -> Prop) : EQ := (thenQ (fun E _ w => dInt .i64 (E 3) fun n3 => J1 n3 w) (F37_q16 R))
def F37_12 (R : Rt) (J1 : (Int) -> World -> Prop) (l0 : SV) (n3 : Int) (ds : Ds) (w : World) : Prop :=
 Br (decide (n3 < (l0.len : Int))) (
 ∃ a9 : Addr, l0.a = some a9 /\ 0 ≤ n3 /\ n3 < (l0.len : Int) /\
 ∃ s18_0 : ByteArray, w.cell? ((a9.add (n3.toNat * 4)).add 0) = some (.string s18_0) /\
 ∃ n18_1 : Int, w.cell? ((a9.add (n3.toNat * 4)).add 1) = some (.int .i64 n18_1) /\
 ∃ n18_2 : Int, w.cell? ((a9.add (n3.toNat * 4)).add 2) = some (.int .i64 n18_2) /\
 ∃ b18_3 : Bool, w.cell? ((a9.add (n3.toNat * 4)).add 3) = some (.bool b18_3) /\
 Calls prog 55 #[.agg #[.string s18_0, .int .i64 n18_1, .int .i64 n18_2, .bool b18_3]] w fun e w10 =>
 ∃ b19 : Bool, e = .returned (.bool b19) /\
 Br (!b19) (
 runD prog ds w10 fun w11 =>
 R (.returned (.int .i64 1)) w11) (
 J1 (IntKind.i64.wrap (n3 + 1)) w10)) (
 F37_11 R l0 ds w)
def F37_13 (R : Rt) (l0 : SV) (n3 : Int) (ds : Ds) (w : World) : Prop :=
 loopT (fun (J1 : (Int) -> World -> Prop) (s : Int) (w : World) => F37_12 R J1 l0 s ds w) n3 w
abbrev F37_14 (R : Rt) (l0 : SV) (n3 : Int) (ds : Ds) (w : World) : Prop := F37_13 R l0 n3 ds w
def F37_k18 (R : Rt) : EP := (fun E ds w => dSl (E 0) fun l0 => dInt .i64 (E 3) fun n3 => F37_14 R l0 n3 ds w)
def F37_15 (R : Rt) (l0 : SV) (ds : Ds) (w : World) : Prop :=
 Br ((l0.len : Int) == 0) (
 runD prog ds w fun w12 =>
 R (.returned (.int .i64 1)) w12) (
 F37_14 R l0 0 ds w)
theorem c37_l : flat (bodyOf f37) = [c37_0, c37_1, c37_2, c37_3, c37_4, c37_5, c37_6, c37_7, c37_8, c37_9, c37_10] := by kernel_rfl
theorem c37_6_l : flat (innerC c37_6) = [c37_6_0] := by kernel_rfl
theorem c37_6_0_l : flat (innerC c37_6_0) = [c37_6_0_0, c37_6_0_1, c37_6_0_2, c37_6_0_3] := by kernel_rfl
theorem c37_6_0_2_l : flat (innerC c37_6_0_2) = [c37_6_0_2_0, c37_6_0_2_1] := by kernel_rfl
theorem c37_6_0_2_1_l : flat (innerC c37_6_0_2_1) = [c37_6_0_2_1_0] := by kernel_rfl
theorem c37_6_0_2_1_0_l : flat (innerC c37_6_0_2_1_0) = [c37_6_0_2_1_0_0, c37_6_0_2_1_0_1, c37_6_0_2_1_0_2, c37_6_0_2_1_0_3] := by kernel_rfl
theorem c37_4_l : flat (innerC c37_4) = [c37_4_0] := by kernel_rfl
theorem c37_4_0_l : flat (innerC c37_4_0) = [c37_4_0_0, c37_4_0_1, c37_4_0_2, c37_4_0_3] := by kernel_rfl
theorem F37_1_ok (R : Rt) (l0 : SV) (ds : Ds) (w : World) (E : Env) (e0 : E 0 = .slice l0.a l0.len l0.cap) (h : F37_1 R l0 ds w) :
    TrL prog f37.ntmps [c37_7, c37_8, c37_9, c37_10] (F37_q1 R) E ds w :=
  TrL_leaf (X := F37_1 R l0 ds w) (setAll_cons e0 setAll_nil) (by kernel_rfl) (by kernel_rfl) h
theorem F37_2_ok (R : Rt) (J1 : (Int) -> World -> Prop) (l0 : SV) (n4 : Int) (ds : Ds) (w : World) (E : Env) (e0 : E 0 = .slice l0.a l0.len l0.cap) (e4 : E 4 = .int .i64 n4) (h : F37_2 R J1 l0 n4 ds w) :
    TrL prog f37.ntmps [c37_6_0_3] (F37_q5 R J1) E ds w :=
  TrL_leaf (X := F37_2 R J1 l0 n4 ds w) (setAll_cons e0 (setAll_cons e4 setAll_nil)) (by kernel_rfl) (by kernel_rfl) h
theorem F37_3_ok (R : Rt) (J1 : (Int) -> World -> Prop) (J2 : (Int) -> World -> Prop) (l0 : SV) (n4 n5 : Int) (ds : Ds) (w : World) (E : Env) (e0 : E 0 = .slice l0.a l0.len l0.cap) (e4 : E 4 = .int .i64 n4) (e5 : E 5 = .int .i64 n5) (h : F37_3 R J1 J2 l0 n4 n5 ds w) :
    TrL prog f37.ntmps [c37_6_0_2_1_0_0, c37_6_0_2_1_0_1, c37_6_0_2_1_0_2, c37_6_0_2_1_0_3] (F37_q10 R J1 J2) E ds w :=
  TrL_leaf (X := F37_3 R J1 J2 l0 n4 n5 ds w) (setAll_cons e0 (setAll_cons e4 (setAll_cons e5 setAll_nil))) (by kernel_rfl) (by kernel_rfl) h
theorem F37_4_ok (R : Rt) (J1 : (Int) -> World -> Prop) (l0 : SV) (n4 n5 : Int) (ds : Ds) (w : World) (E : Env) (e0 : E 0 = .slice l0.a l0.len l0.cap) (e4 : E 4 = .int .i64 n4) (e5 : E 5 = .int .i64 n5) (h : F37_4 R J1 l0 n4 n5 ds w) :
    TrL prog f37.ntmps [c37_6_0_2_1_0] (F37_q9 R J1) E ds w :=
  TrL_one (Tr_loop' (c := innerC c37_6_0_2_1_0) (σ := Int) (enc := (fun (s : Int) (E : Env) => E 5 = .int .i64 s)) (D := (fun E K => dInt .i64 (E 5) fun n5 => K n5)) (F := (fun (J2 : (Int) -> World -> Prop) (s : Int) (w : World) => F37_3 R J1 J2 l0 n4 s ds w)) (s0 := n5) (by kernel_rfl) c37_6_0_2_1_0_l e5 (by kernel_rfl) (fun E K hD => by obtain ⟨n5, e5, hD⟩ := dInt_elim hD; exact ⟨n5, e5, hD⟩)
      (fun J2 s E' w' he ha hF => by
      have e5' := he
      exact F37_3_ok R J1 J2 l0 n4 s ds w' E' ((ha 0 (by kernel_rfl)).trans e0) ((ha 4 (by kernel_rfl)).trans e4) e5' hF) h)
theorem F37_5_ok (R : Rt) (J1 : (Int) -> World -> Prop) (l0 : SV) (n4 n5 : Int) (ds : Ds) (w : World) (E : Env) (e0 : E 0 = .slice l0.a l0.len l0.cap) (e4 : E 4 = .int .i64 n4) (e5 : E 5 = .int .i64 n5) (h : F37_5 R J1 l0 n4 n5 ds w) :
    TrL prog f37.ntmps [c37_6_0_2_1] (F37_q8 R J1) E ds w :=
  TrL_one (Tr_block' (c := innerC c37_6_0_2_1) (by kernel_rfl) c37_6_0_2_1_l (F37_4_ok R J1 l0 n4 n5 ds w E e0 e4 e5 h))
theorem F37_6_ok (R : Rt) (J1 : (Int) -> World -> Prop) (l0 : SV) (n4 : Int) (ds : Ds) (w : World) (E : Env) (e0 : E 0 = .slice l0.a l0.len l0.cap) (e4 : E 4 = .int .i64 n4) (h : F37_6 R J1 l0 n4 ds w) :
    TrL prog f37.ntmps [c37_6_0_2_0, c37_6_0_2_1] (F37_q8 R J1) E ds w :=
  TrL_piece (pre := [c37_6_0_2_0]) (K := (F37_k11 R J1)) (X := F37_6 R J1 l0 n4 ds w) (setAll_cons e0 (setAll_cons e4 setAll_nil)) (by kernel_rfl) (by kernel_rfl)
    (fun E' ds' w' hD => by
      obtain ⟨l0, e0, hD⟩ := dSl_elim hD; obtain ⟨n4, e4, hD⟩ := dInt_elim hD; obtain ⟨n5, e5, hD⟩ := dInt_elim hD; exact F37_5_ok R J1 l0 n4 n5 ds' w' E' e0 e4 e5 hD) h
theorem F37_7_ok (R : Rt) (J1 : (Int) -> World -> Prop) (l0 : SV) (n4 : Int) (ds : Ds) (w : World) (E : Env) (e0 : E 0 = .slice l0.a l0.len l0.cap) (e4 : E 4 = .int .i64 n4) (h : F37_7 R J1 l0 n4 ds w) :
    TrL prog f37.ntmps [c37_6_0_2, c37_6_0_3] (F37_q5 R J1) E ds w :=
  TrL_head (K := (F37_k6 R J1)) (Tr_block' (c := innerC c37_6_0_2) (by kernel_rfl) c37_6_0_2_l (F37_6_ok R J1 l0 n4 ds w E e0 e4 h))
    (fun E' ds' w' hD => by
      obtain ⟨l0, e0, hD⟩ := dSl_elim hD; obtain ⟨n4, e4, hD⟩ := dInt_elim hD; exact F37_2_ok R J1 l0 n4 ds' w' E' e0 e4 hD)
theorem F37_8_ok (R : Rt) (J1 : (Int) -> World -> Prop) (l0 : SV) (n4 : Int) (ds : Ds) (w : World) (E : Env) (e0 : E 0 = .slice l0.a l0.len l0.cap) (e4 : E 4 = .int .i64 n4) (h : F37_8 R J1 l0 n4 ds w) :
    TrL prog f37.ntmps [c37_6_0_0, c37_6_0_1, c37_6_0_2, c37_6_0_3] (F37_q5 R J1) E ds w :=
  TrL_piece (pre := [c37_6_0_0, c37_6_0_1]) (K := (F37_k12 R J1)) (X := F37_8 R J1 l0 n4 ds w) (setAll_cons e0 (setAll_cons e4 setAll_nil)) (by kernel_rfl) (by kernel_rfl)
    (fun E' ds' w' hD => by
      obtain ⟨l0, e0, hD⟩ := dSl_elim hD; obtain ⟨n4, e4, hD⟩ := dInt_elim hD; exact F37_7_ok R J1 l0 n4 ds' w' E' e0 e4 hD) h
theorem F37_9_ok (R : Rt) (l0 : SV) (n4 : Int) (ds : Ds) (w : World) (E : Env) (e0 : E 0 = .slice l0.a l0.len l0.cap) (e4 : E 4 = .int .i64 n4) (h : F37_9 R l0 n4 ds w) :
    TrL prog f37.ntmps [c37_6_0] (F37_q4 R) E ds w :=
  TrL_one (Tr_loop' (c := innerC c37_6_0) (σ := Int) (enc := (fun (s : Int) (E : Env) => E 4 = .int .i64 s)) (D := (fun E K => dInt .i64 (E 4) fun n4 => K n4)) (F := (fun (J1 : (Int) -> World -> Prop) (s : Int) (w : World) => F37_8 R J1 l0 s ds w)) (s0 := n4) (by kernel_rfl) c37_6_0_l e4 (by kernel_rfl) (fun E K hD => by obtain ⟨n4, e4, hD⟩ := dInt_elim hD; exact ⟨n4, e4, hD⟩)
      (fun J1 s E' w' he ha hF => by
      have e4' := he
      exact F37_8_ok R J1 l0 s ds w' E' ((ha 0 (by kernel_rfl)).trans e0) e4' hF) h)
theorem F37_10_ok (R : Rt) (l0 : SV) (n4 : Int) (ds : Ds) (w : World) (E : Env) (e0 : E 0 = .slice l0.a l0.len l0.cap) (e4 : E 4 = .int .i64 n4) (h : F37_10 R l0 n4 ds w) :
    TrL prog f37.ntmps [c37_6, c37_7, c37_8, c37_9, c37_10] (F37_q1 R) E ds w :=
  TrL_head (K := (F37_k2 R)) (Tr_block' (c := innerC c37_6) (by kernel_rfl) c37_6_l (F37_9_ok R l0 n4 ds w E e0 e4 h))
    (fun E' ds' w' hD => by
      obtain ⟨l0, e0, hD⟩ := dSl_elim hD; exact F37_1_ok R l0 ds' w' E' e0 hD)
theorem F37_11_ok (R : Rt) (l0 : SV) (ds : Ds) (w : World) (E : Env) (e0 : E 0 = .slice l0.a l0.len l0.cap) (h : F37_11 R l0 ds w) :
    TrL prog f37.ntmps [c37_5, c37_6, c37_7, c37_8, c37_9, c37_10] (F37_q1 R) E ds w :=
  TrL_piece (pre := [c37_5]) (K := (F37_k13 R)) (X := F37_11 R l0 ds w) (setAll_cons e0 setAll_nil) (by kernel_rfl) (by kernel_rfl)
    (fun E' ds' w' hD => by
      obtain ⟨l0, e0, hD⟩ := dSl_elim hD; obtain ⟨n4, e4, hD⟩ := dInt_elim hD; exact F37_10_ok R l0 n4 ds' w' E' e0 e4 hD) h
theorem F37_12_ok (R : Rt) (J1 : (Int) -> World -> Prop) (l0 : SV) (n3 : Int) (ds : Ds) (w : World) (E : Env) (e0 : E 0 = .slice l0.a l0.len l0.cap) (e3 : E 3 = .int .i64 n3) (h : F37_12 R J1 l0 n3 ds w) :
    TrL prog f37.ntmps [c37_4_0_0, c37_4_0_1, c37_4_0_2, c37_4_0_3] (F37_q17 R J1) E ds w :=
  TrL_leaf (X := F37_12 R J1 l0 n3 ds w) (setAll_cons e0 (setAll_cons e3 setAll_nil)) (by kernel_rfl) (by kernel_rfl) h
theorem F37_13_ok (R : Rt) (l0 : SV) (n3 : Int) (ds : Ds) (w : World) (E : Env) (e0 : E 0 = .slice l0.a l0.len l0.cap) (e3 : E 3 = .int .i64 n3) (h : F37_13 R l0 n3 ds w) :
    TrL prog f37.ntmps [c37_4_0] (F37_q16 R) E ds w :=
  TrL_one (Tr_loop' (c := innerC c37_4_0) (σ := Int) (enc := (fun (s : Int) (E : Env) => E 3 = .int .i64 s)) (D := (fun E K => dInt .i64 (E 3) fun n3 => K n3)) (F := (fun (J1 : (Int) -> World -> Prop) (s : Int) (w : World) => F37_12 R J1 l0 s ds w)) (s0 := n3) (by kernel_rfl) c37_4_0_l e3 (by kernel_rfl) (fun E K hD => by obtain ⟨n3, e3, hD⟩ := dInt_elim hD; exact ⟨n3, e3, hD⟩)
      (fun J1 s E' w' he ha hF => by
      have e3' := he
      exact F37_12_ok R J1 l0 s ds w' E' ((ha 0 (by kernel_rfl)).trans e0) e3' hF) h)
theorem F37_14_ok (R : Rt) (l0 : SV) (n3 : Int) (ds : Ds) (w : World) (E : Env) (e0 : E 0 = .slice l0.a l0.len l0.cap) (e3 : E 3 = .int .i64 n3) (h : F37_14 R l0 n3 ds w) :
    TrL prog f37.ntmps [c37_4, c37_5, c37_6, c37_7, c37_8, c37_9, c37_10] (F37_q1 R) E ds w :=
  TrL_head (K := (F37_k14 R)) (Tr_block' (c := innerC c37_4) (by kernel_rfl) c37_4_l (F37_13_ok R l0 n3 ds w E e0 e3 h))
    (fun E' ds' w' hD => by
      obtain ⟨l0, e0, hD⟩ := dSl_elim hD; exact F37_11_ok R l0 ds' w' E' e0 hD)
theorem F37_15_ok (R : Rt) (l0 : SV) (ds : Ds) (w : World) (E : Env) (e0 : E 0 = .slice l0.a l0.len l0.cap) (h : F37_15 R l0 ds w) :
    TrL prog f37.ntmps [c37_0, c37_1, c37_2, c37_3, c37_4, c37_5, c37_6, c37_7, c37_8, c37_9, c37_10] (F37_q1 R) E ds w :=
  TrL_piece (pre := [c37_0, c37_1, c37_2, c37_3]) (K := (F37_k18 R)) (X := F37_15 R l0 ds w) (setAll_cons e0 setAll_nil) (by kernel_rfl) (by kernel_rfl)
    (fun E' ds' w' hD => by
      obtain ⟨l0, e0, hD⟩ := dSl_elim hD; obtain ⟨n3, e3, hD⟩ := dInt_elim hD; exact F37_14_ok R l0 n3 ds' w' E' e0 e3 hD) h
theorem F37_calls (l0 : SV) (w : World) (R : Rt) (h : F37_15 R l0 [] w) : Calls prog 37 #[.slice l0.a l0.len l0.cap] w R :=
  calls_of_L (l := [c37_0, c37_1, c37_2, c37_3, c37_4, c37_5, c37_6, c37_7, c37_8, c37_9, c37_10]) func37 (by kernel_rfl) (by rw [ntmps37]; exact Nat.le_of_ble_eq_true (by kernel_rfl)) c37_l
    (F37_15_ok R l0 [] w _ rfl h)
noncomputable def c70_0 := cI7 f70 0
noncomputable def c70_1 := cI7 f70 1
noncomputable def c70_2 := cI7 f70 2
noncomputable def c70_3 := cI7 f70 3
noncomputable def c70_4 := cI7 f70 4
noncomputable def c70_5 := cI7 f70 5
noncomputable def c70_3_0 := cJ7 c70_3 0
noncomputable def c70_3_0_0 := cJ7 c70_3_0 0
noncomputable def c70_3_0_1 := cJ7 c70_3_0 1
noncomputable def c70_3_0_2 := cJ7 c70_3_0 2
noncomputable def c70_3_0_3 := cJ7 c70_3_0 3
def F70_q1 (R : Rt) : EQ := endQ prog f70.results.toList R
def F70_1 (R : Rt) (n3 : Int) (ds : Ds) (w : World) : Prop :=
 runD prog ds w fun w1 =>
 R (.returned (.int .i64 n3)) w1
def F70_k2 (R : Rt) : EP := (fun E ds w => dInt .i64 (E 3) fun n3 => F70_1 R n3 ds w)
def F70_q3 (R : Rt) : EQ := (thenQ (F70_k2 R) (F70_q1 R))
def F70_q4 (R : Rt) : EQ := (blockQ 0 (F70_q3 R))
def F70_q5 (R : Rt) (J1 : (Int × Int) -> World -> Prop) : EQ := (thenQ (fun E _ w => dInt .i64 (E 3) fun n3 => dInt .i64 (E 4) fun n4 => J1 (n3, n4) w) (F70_q4 R))
def F70_2 (R : Rt) (J1 : (Int × Int) -> World -> Prop) (l0 : SV) (n3 n4 : Int) (ds : Ds) (w : World) : Prop :=
 Br (decide (n4 < (l0.len : Int))) (
 ∃ a2 : Addr, l0.a = some a2 /\ 0 ≤ n4 /\ n4 < (l0.len : Int) /\
 ∃ n19 : Int, w.cell? ((a2.add (n4.toNat * 4)).add 2) = some (.int .i64 n19) /\
 J1 ((IntKind.i64.wrap (n3 + n19)), (IntKind.i64.wrap (n4 + 1))) w) (
 F70_1 R n3 ds w)
def F70_3 (R : Rt) (l0 : SV) (n3 n4 : Int) (ds : Ds) (w : World) : Prop :=
 loopT (fun (J1 : (Int × Int) -> World -> Prop) (s : Int × Int) (w : World) => F70_2 R J1 l0 s.1 s.2 ds w) (n3, n4) w
abbrev F70_4 (R : Rt) (l0 : SV) (n3 n4 : Int) (ds : Ds) (w : World) : Prop := F70_3 R l0 n3 n4 ds w
def F70_k6 (R : Rt) : EP := (fun E ds w => dSl (E 0) fun l0 => dInt .i64 (E 3) fun n3 => dInt .i64 (E 4) fun n4 => F70_4 R l0 n3 n4 ds w)
def F70_5 (R : Rt) (l0 : SV) (ds : Ds) (w : World) : Prop :=
 Calls prog 72 #[.slice l0.a l0.len l0.cap] w fun e w3 =>
 ∃ n6 : Int, e = .returned (.int .i64 n6) /\
 F70_4 R l0 (IntKind.i64.wrap ((1 : Int) + n6)) 0 ds w3
theorem c70_l : flat (bodyOf f70) = [c70_0, c70_1, c70_2, c70_3, c70_4, c70_5] := by kernel_rfl
theorem c70_3_l : flat (innerC c70_3) = [c70_3_0] := by kernel_rfl
theorem c70_3_0_l : flat (innerC c70_3_0) = [c70_3_0_0, c70_3_0_1, c70_3_0_2, c70_3_0_3] := by kernel_rfl
theorem F70_1_ok (R : Rt) (n3 : Int) (ds : Ds) (w : World) (E : Env) (e3 : E 3 = .int .i64 n3) (h : F70_1 R n3 ds w) :
    TrL prog f70.ntmps [c70_4, c70_5] (F70_q1 R) E ds w :=
  TrL_leaf (X := F70_1 R n3 ds w) (setAll_cons e3 setAll_nil) (by kernel_rfl) (by kernel_rfl) h
theorem F70_2_ok (R : Rt) (J1 : (Int × Int) -> World -> Prop) (l0 : SV) (n3 n4 : Int) (ds : Ds) (w : World) (E : Env) (e0 : E 0 = .slice l0.a l0.len l0.cap) (e3 : E 3 = .int .i64 n3) (e4 : E 4 = .int .i64 n4) (h : F70_2 R J1 l0 n3 n4 ds w) :
    TrL prog f70.ntmps [c70_3_0_0, c70_3_0_1, c70_3_0_2, c70_3_0_3] (F70_q5 R J1) E ds w :=
  TrL_leaf (X := F70_2 R J1 l0 n3 n4 ds w) (setAll_cons e0 (setAll_cons e3 (setAll_cons e4 setAll_nil))) (by kernel_rfl) (by kernel_rfl) h
theorem F70_3_ok (R : Rt) (l0 : SV) (n3 n4 : Int) (ds : Ds) (w : World) (E : Env) (e0 : E 0 = .slice l0.a l0.len l0.cap) (e3 : E 3 = .int .i64 n3) (e4 : E 4 = .int .i64 n4) (h : F70_3 R l0 n3 n4 ds w) :
    TrL prog f70.ntmps [c70_3_0] (F70_q4 R) E ds w :=
  TrL_one (Tr_loop' (c := innerC c70_3_0) (σ := Int × Int) (enc := (fun (s : Int × Int) (E : Env) => E 3 = .int .i64 s.1 /\ E 4 = .int .i64 s.2)) (D := (fun E K => dInt .i64 (E 3) fun n3 => dInt .i64 (E 4) fun n4 => K (n3, n4))) (F := (fun (J1 : (Int × Int) -> World -> Prop) (s : Int × Int) (w : World) => F70_2 R J1 l0 s.1 s.2 ds w)) (s0 := (n3, n4)) (by kernel_rfl) c70_3_0_l ⟨e3, e4⟩ (by kernel_rfl) (fun E K hD => by obtain ⟨n3, e3, hD⟩ := dInt_elim hD; obtain ⟨n4, e4, hD⟩ := dInt_elim hD; exact ⟨(n3, n4), ⟨e3, e4⟩, hD⟩)
      (fun J1 s E' w' he ha hF => by
      obtain ⟨e3', e4'⟩ := he
      exact F70_2_ok R J1 l0 s.1 s.2 ds w' E' ((ha 0 (by kernel_rfl)).trans e0) e3' e4' hF) h)
theorem F70_4_ok (R : Rt) (l0 : SV) (n3 n4 : Int) (ds : Ds) (w : World) (E : Env) (e0 : E 0 = .slice l0.a l0.len l0.cap) (e3 : E 3 = .int .i64 n3) (e4 : E 4 = .int .i64 n4) (h : F70_4 R l0 n3 n4 ds w) :
    TrL prog f70.ntmps [c70_3, c70_4, c70_5] (F70_q1 R) E ds w :=
  TrL_head (K := (F70_k2 R)) (Tr_block' (c := innerC c70_3) (by kernel_rfl) c70_3_l (F70_3_ok R l0 n3 n4 ds w E e0 e3 e4 h))
    (fun E' ds' w' hD => by
      obtain ⟨n3, e3, hD⟩ := dInt_elim hD; exact F70_1_ok R n3 ds' w' E' e3 hD)
theorem F70_5_ok (R : Rt) (l0 : SV) (ds : Ds) (w : World) (E : Env) (e0 : E 0 = .slice l0.a l0.len l0.cap) (h : F70_5 R l0 ds w) :
    TrL prog f70.ntmps [c70_0, c70_1, c70_2, c70_3, c70_4, c70_5] (F70_q1 R) E ds w :=
  TrL_piece (pre := [c70_0, c70_1, c70_2]) (K := (F70_k6 R)) (X := F70_5 R l0 ds w) (setAll_cons e0 setAll_nil) (by kernel_rfl) (by kernel_rfl)
    (fun E' ds' w' hD => by
      obtain ⟨l0, e0, hD⟩ := dSl_elim hD; obtain ⟨n3, e3, hD⟩ := dInt_elim hD; obtain ⟨n4, e4, hD⟩ := dInt_elim hD; exact F70_4_ok R l0 n3 n4 ds' w' E' e0 e3 e4 hD) h
theorem F70_calls (l0 : SV) (w : World) (R : Rt) (h : F70_5 R l0 [] w) : Calls prog 70 #[.slice l0.a l0.len l0.cap] w R :=
  calls_of_L (l := [c70_0, c70_1, c70_2, c70_3, c70_4, c70_5]) func70 (by kernel_rfl) (by rw [ntmps70]; exact Nat.le_of_ble_eq_true (by kernel_rfl)) c70_l
    (F70_5_ok R l0 [] w _ rfl h)
noncomputable def c72_0 := cI7 f72 0
noncomputable def c72_1 := cI7 f72 1
noncomputable def c72_2 := cI7 f72 2
noncomputable def c72_3 := cI7 f72 3
noncomputable def c72_4 := cI7 f72 4
noncomputable def c72_5 := cI7 f72 5
noncomputable def c72_3_0 := cJ7 c72_3 0
noncomputable def c72_3_0_0 := cJ7 c72_3_0 0
noncomputable def c72_3_0_1 := cJ7 c72_3_0 1
noncomputable def c72_3_0_2 := cJ7 c72_3_0 2
noncomputable def c72_3_0_3 := cJ7 c72_3_0 3
def F72_q1 (R : Rt) : EQ := endQ prog f72.results.toList R
def F72_1 (R : Rt) (n3 : Int) (ds : Ds) (w : World) : Prop :=
 IntKind.i64 = IntKind.i64 /\ (8 : Int) ≠ 0 /\
 runD prog ds w fun w1 =>
 R (.returned (.int .i64 (IntKind.i64.wrap ((IntKind.i64.wrap (n3 + 7)).tdiv 8)))) w1
def F72_k2 (R : Rt) : EP := (fun E ds w => dInt .i64 (E 3) fun n3 => F72_1 R n3 ds w)
def F72_q3 (R : Rt) : EQ := (thenQ (F72_k2 R) (F72_q1 R))
def F72_q4 (R : Rt) : EQ := (blockQ 0 (F72_q3 R))
def F72_q5 (R : Rt) (J1 : (Int × Int) -> World -> Prop) : EQ := (thenQ (fun E _ w => dInt .i64 (E 3) fun n3 => dInt .i64 (E 4) fun n4 => J1 (n3, n4) w) (F72_q4 R))
def F72_2 (R : Rt) (J1 : (Int × Int) -> World -> Prop) (l0 : SV) (n3 n4 : Int) (ds : Ds) (w : World) : Prop :=
 Br (decide (n4 < (l0.len : Int))) (
 ∃ a2 : Addr, l0.a = some a2 /\ 0 ≤ n4 /\ n4 < (l0.len : Int) /\
 ∃ b15 : Bool, w.cell? ((a2.add (n4.toNat * 4)).add 3) = some (.bool b15) /\
 Br b15 (
 J1 ((IntKind.i64.wrap (n3 + 1)), (IntKind.i64.wrap (n4 + 1))) w) (
 J1 (n3, (IntKind.i64.wrap (n4 + 1))) w)) (
 F72_1 R n3 ds w)
def F72_3 (R : Rt) (l0 : SV) (n3 n4 : Int) (ds : Ds) (w : World) : Prop :=
 loopT (fun (J1 : (Int × Int) -> World -> Prop) (s : Int × Int) (w : World) => F72_2 R J1 l0 s.1 s.2 ds w) (n3, n4) w
abbrev F72_4 (R : Rt) (l0 : SV) (n3 n4 : Int) (ds : Ds) (w : World) : Prop := F72_3 R l0 n3 n4 ds w
def F72_k6 (R : Rt) : EP := (fun E ds w => dSl (E 0) fun l0 => dInt .i64 (E 3) fun n3 => dInt .i64 (E 4) fun n4 => F72_4 R l0 n3 n4 ds w)
def F72_5 (R : Rt) (l0 : SV) (ds : Ds) (w : World) : Prop :=
 F72_4 R l0 0 0 ds w
theorem c72_l : flat (bodyOf f72) = [c72_0, c72_1, c72_2, c72_3, c72_4, c72_5] := by kernel_rfl
theorem c72_3_l : flat (innerC c72_3) = [c72_3_0] := by kernel_rfl
theorem c72_3_0_l : flat (innerC c72_3_0) = [c72_3_0_0, c72_3_0_1, c72_3_0_2, c72_3_0_3] := by kernel_rfl
theorem F72_1_ok (R : Rt) (n3 : Int) (ds : Ds) (w : World) (E : Env) (e3 : E 3 = .int .i64 n3) (h : F72_1 R n3 ds w) :
    TrL prog f72.ntmps [c72_4, c72_5] (F72_q1 R) E ds w :=
  TrL_leaf (X := F72_1 R n3 ds w) (setAll_cons e3 setAll_nil) (by kernel_rfl) (by kernel_rfl) h
theorem F72_2_ok (R : Rt) (J1 : (Int × Int) -> World -> Prop) (l0 : SV) (n3 n4 : Int) (ds : Ds) (w : World) (E : Env) (e0 : E 0 = .slice l0.a l0.len l0.cap) (e3 : E 3 = .int .i64 n3) (e4 : E 4 = .int .i64 n4) (h : F72_2 R J1 l0 n3 n4 ds w) :
    TrL prog f72.ntmps [c72_3_0_0, c72_3_0_1, c72_3_0_2, c72_3_0_3] (F72_q5 R J1) E ds w :=
  TrL_leaf (X := F72_2 R J1 l0 n3 n4 ds w) (setAll_cons e0 (setAll_cons e3 (setAll_cons e4 setAll_nil))) (by kernel_rfl) (by kernel_rfl) h
theorem F72_3_ok (R : Rt) (l0 : SV) (n3 n4 : Int) (ds : Ds) (w : World) (E : Env) (e0 : E 0 = .slice l0.a l0.len l0.cap) (e3 : E 3 = .int .i64 n3) (e4 : E 4 = .int .i64 n4) (h : F72_3 R l0 n3 n4 ds w) :
    TrL prog f72.ntmps [c72_3_0] (F72_q4 R) E ds w :=
  TrL_one (Tr_loop' (c := innerC c72_3_0) (σ := Int × Int) (enc := (fun (s : Int × Int) (E : Env) => E 3 = .int .i64 s.1 /\ E 4 = .int .i64 s.2)) (D := (fun E K => dInt .i64 (E 3) fun n3 => dInt .i64 (E 4) fun n4 => K (n3, n4))) (F := (fun (J1 : (Int × Int) -> World -> Prop) (s : Int × Int) (w : World) => F72_2 R J1 l0 s.1 s.2 ds w)) (s0 := (n3, n4)) (by kernel_rfl) c72_3_0_l ⟨e3, e4⟩ (by kernel_rfl) (fun E K hD => by obtain ⟨n3, e3, hD⟩ := dInt_elim hD; obtain ⟨n4, e4, hD⟩ := dInt_elim hD; exact ⟨(n3, n4), ⟨e3, e4⟩, hD⟩)
      (fun J1 s E' w' he ha hF => by
      obtain ⟨e3', e4'⟩ := he
      exact F72_2_ok R J1 l0 s.1 s.2 ds w' E' ((ha 0 (by kernel_rfl)).trans e0) e3' e4' hF) h)
theorem F72_4_ok (R : Rt) (l0 : SV) (n3 n4 : Int) (ds : Ds) (w : World) (E : Env) (e0 : E 0 = .slice l0.a l0.len l0.cap) (e3 : E 3 = .int .i64 n3) (e4 : E 4 = .int .i64 n4) (h : F72_4 R l0 n3 n4 ds w) :
    TrL prog f72.ntmps [c72_3, c72_4, c72_5] (F72_q1 R) E ds w :=
  TrL_head (K := (F72_k2 R)) (Tr_block' (c := innerC c72_3) (by kernel_rfl) c72_3_l (F72_3_ok R l0 n3 n4 ds w E e0 e3 e4 h))
    (fun E' ds' w' hD => by
      obtain ⟨n3, e3, hD⟩ := dInt_elim hD; exact F72_1_ok R n3 ds' w' E' e3 hD)
theorem F72_5_ok (R : Rt) (l0 : SV) (ds : Ds) (w : World) (E : Env) (e0 : E 0 = .slice l0.a l0.len l0.cap) (h : F72_5 R l0 ds w) :
    TrL prog f72.ntmps [c72_0, c72_1, c72_2, c72_3, c72_4, c72_5] (F72_q1 R) E ds w :=
  TrL_piece (pre := [c72_0, c72_1, c72_2]) (K := (F72_k6 R)) (X := F72_5 R l0 ds w) (setAll_cons e0 setAll_nil) (by kernel_rfl) (by kernel_rfl)
    (fun E' ds' w' hD => by
      obtain ⟨l0, e0, hD⟩ := dSl_elim hD; obtain ⟨n3, e3, hD⟩ := dInt_elim hD; obtain ⟨n4, e4, hD⟩ := dInt_elim hD; exact F72_4_ok R l0 n3 n4 ds' w' E' e0 e3 e4 hD) h
theorem F72_calls (l0 : SV) (w : World) (R : Rt) (h : F72_5 R l0 [] w) : Calls prog 72 #[.slice l0.a l0.len l0.cap] w R :=
  calls_of_L (l := [c72_0, c72_1, c72_2, c72_3, c72_4, c72_5]) func72 (by kernel_rfl) (by rw [ntmps72]; exact Nat.le_of_ble_eq_true (by kernel_rfl)) c72_l
    (F72_5_ok R l0 [] w _ rfl h)
end Go.Proofs.YtecmfdfhpldmmaaGreatDoor

/- Shallow texts of functions, printed by program, each checked by the kernel against the loaded code. No condition. -/
set_option maxRecDepth 100000
set_option linter.unusedVariables false
namespace Go.Proofs.YtecmfdfhpldmmaaGreatDoor
open Go.Sh
open Tryz
@[reducible] noncomputable def cI8 (f : Func) (i : Nat) : Code := itemAt (flat (bodyOf f)) i
@[reducible] noncomputable def cJ8 (c : Code) (i : Nat) : Code := itemAt (flat (innerC c)) i
noncomputable def c66_0 := cI8 f66 0
noncomputable def c66_1 := cI8 f66 1
noncomputable def c66_2 := cI8 f66 2
noncomputable def c66_3 := cI8 f66 3
noncomputable def c66_4 := cI8 f66 4
noncomputable def c66_2_0 := cJ8 c66_2 0
noncomputable def c66_2_0_0 := cJ8 c66_2_0 0
noncomputable def c66_2_0_1 := cJ8 c66_2_0 1
noncomputable def c66_2_0_2 := cJ8 c66_2_0 2
noncomputable def c66_2_0_3 := cJ8 c66_2_0 3
def F66_q1 (R : Rt) : EQ := endQ prog f66.results.toList R
def F66_1 (R : Rt) (ds : Ds) (w : World) : Prop :=
 runD prog ds w fun w1 =>
 R (.returned (.int .i64 (-1))) w1
def F66_k2 (R : Rt) : EP := (fun E ds w => F66_1 R ds w)
def F66_q3 (R : Rt) : EQ := (thenQ (F66_k2 R) (F66_q1 R))
def F66_q4 (R : Rt) : EQ := (blockQ 0 (F66_q3 R))
def F66_q5 (R : Rt) (J1 : (Int) -> World -> Prop) : EQ := (thenQ (fun E _ w => dInt .i64 (E 8) fun n8 => J1 n8 w) (F66_q4 R))
def F66_2 (R : Rt) (J1 : (Int) -> World -> Prop) (l0 : SV) (v1 : Value) (n7 n8 : Int) (ds : Ds) (w : World) : Prop :=
 Br (decide (n8 < n7)) (
 ∃ a2 : Addr, l0.a = some a2 /\ 0 ≤ n8 /\ n8 < (l0.len : Int) /\
 ∃ s15_0 : ByteArray, w.cell? ((a2.add (n8.toNat * 4)).add 0) = some (.string s15_0) /\
 ∃ n15_1 : Int, w.cell? ((a2.add (n8.toNat * 4)).add 1) = some (.int .i64 n15_1) /\
 ∃ n15_2 : Int, w.cell? ((a2.add (n8.toNat * 4)).add 2) = some (.int .i64 n15_2) /\
 ∃ b15_3 : Bool, w.cell? ((a2.add (n8.toNat * 4)).add 3) = some (.bool b15_3) /\
 fnE v1 fun f16 first16 cap16 =>
 hasBody prog f16 = true /\ Calls prog f16 (first16.toList ++ (([.agg #[.string s15_0, .int .i64 n15_1, .int .i64 n15_2, .bool b15_3]] : List Value) ++ cap16.toList)).toArray w fun e w3 =>
 ∃ b16 : Bool, e = .returned (.bool b16) /\
 Br b16 (
 runD prog ds w3 fun w4 =>
 R (.returned (.int .i64 n8)) w4) (
 J1 (IntKind.i64.wrap (n8 + 1)) w3)) (
 F66_1 R ds w)
def F66_3 (R : Rt) (l0 : SV) (v1 : Value) (n7 n8 : Int) (ds : Ds) (w : World) : Prop :=
 loopT (fun (J1 : (Int) -> World -> Prop) (s : Int) (w : World) => F66_2 R J1 l0 v1 n7 s ds w) n8 w
abbrev F66_4 (R : Rt) (l0 : SV) (v1 : Value) (n7 n8 : Int) (ds : Ds) (w : World) : Prop := F66_3 R l0 v1 n7 n8 ds w
def F66_k6 (R : Rt) : EP := (fun E ds w => dSl (E 0) fun l0 => dInt .i64 (E 7) fun n7 => dInt .i64 (E 8) fun n8 => F66_4 R l0 (E 1) n7 n8 ds w)
def F66_5 (R : Rt) (l0 : SV) (v1 : Value) (ds : Ds) (w : World) : Prop :=
 F66_4 R l0 (v1) (l0.len : Int) 0 ds w
theorem c66_l : flat (bodyOf f66) = [c66_0, c66_1, c66_2, c66_3, c66_4] := by kernel_rfl
theorem c66_2_l : flat (innerC c66_2) = [c66_2_0] := by kernel_rfl
theorem c66_2_0_l : flat (innerC c66_2_0) = [c66_2_0_0, c66_2_0_1, c66_2_0_2, c66_2_0_3] := by kernel_rfl
theorem F66_1_ok (R : Rt) (ds : Ds) (w : World) (E : Env) (h : F66_1 R ds w) :
    TrL prog f66.ntmps [c66_3, c66_4] (F66_q1 R) E ds w :=
  TrL_leaf (X := F66_1 R ds w) setAll_nil (by kernel_rfl) (by kernel_rfl) h
theorem F66_2_ok (R : Rt) (J1 : (Int) -> World -> Prop) (l0 : SV) (v1 : Value) (n7 n8 : Int) (ds : Ds) (w : World) (E : Env) (e0 : E 0 = .slice l0.a l0.len l0.cap) (e1 : E 1 = v1) (e7 : E 7 = .int .i64 n7) (e8 : E 8 = .int .i64 n8) (h : F66_2 R J1 l0 v1 n7 n8 ds w) :
    TrL prog f66.ntmps [c66_2_0_0, c66_2_0_1, c66_2_0_2, c66_2_0_3] (F66_q5 R J1) E ds w :=
  TrL_leaf (X := F66_2 R J1 l0 v1 n7 n8 ds w) (setAll_cons e0 (setAll_cons e1 (setAll_cons e7 (setAll_cons e8 setAll_nil)))) (by kernel_rfl) (by kernel_rfl) h
theorem F66_3_ok (R : Rt) (l0 : SV) (v1 : Value) (n7 n8 : Int) (ds : Ds) (w : World) (E : Env) (e0 : E 0 = .slice l0.a l0.len l0.cap) (e1 : E 1 = v1) (e7 : E 7 = .int .i64 n7) (e8 : E 8 = .int .i64 n8) (h : F66_3 R l0 v1 n7 n8 ds w) :
    TrL prog f66.ntmps [c66_2_0] (F66_q4 R) E ds w :=
  TrL_one (Tr_loop' (c := innerC c66_2_0) (σ := Int) (enc := (fun (s : Int) (E : Env) => E 8 = .int .i64 s)) (D := (fun E K => dInt .i64 (E 8) fun n8 => K n8)) (F := (fun (J1 : (Int) -> World -> Prop) (s : Int) (w : World) => F66_2 R J1 l0 v1 n7 s ds w)) (s0 := n8) (by kernel_rfl) c66_2_0_l e8 (by kernel_rfl) (fun E K hD => by obtain ⟨n8, e8, hD⟩ := dInt_elim hD; exact ⟨n8, e8, hD⟩)
      (fun J1 s E' w' he ha hF => by
      have e8' := he
      exact F66_2_ok R J1 l0 v1 n7 s ds w' E' ((ha 0 (by kernel_rfl)).trans e0) ((ha 1 (by kernel_rfl)).trans e1) ((ha 7 (by kernel_rfl)).trans e7) e8' hF) h)
theorem F66_4_ok (R : Rt) (l0 : SV) (v1 : Value) (n7 n8 : Int) (ds : Ds) (w : World) (E : Env) (e0 : E 0 = .slice l0.a l0.len l0.cap) (e1 : E 1 = v1) (e7 : E 7 = .int .i64 n7) (e8 : E 8 = .int .i64 n8) (h : F66_4 R l0 v1 n7 n8 ds w) :
    TrL prog f66.ntmps [c66_2, c66_3, c66_4] (F66_q1 R) E ds w :=
  TrL_head (K := (F66_k2 R)) (Tr_block' (c := innerC c66_2) (by kernel_rfl) c66_2_l (F66_3_ok R l0 v1 n7 n8 ds w E e0 e1 e7 e8 h))
    (fun E' ds' w' hD => by
      exact F66_1_ok R ds' w' E'  hD)
theorem F66_5_ok (R : Rt) (l0 : SV) (v1 : Value) (ds : Ds) (w : World) (E : Env) (e0 : E 0 = .slice l0.a l0.len l0.cap) (e1 : E 1 = v1) (h : F66_5 R l0 v1 ds w) :
    TrL prog f66.ntmps [c66_0, c66_1, c66_2, c66_3, c66_4] (F66_q1 R) E ds w :=
  TrL_piece (pre := [c66_0, c66_1]) (K := (F66_k6 R)) (X := F66_5 R l0 v1 ds w) (setAll_cons e0 (setAll_cons e1 setAll_nil)) (by kernel_rfl) (by kernel_rfl)
    (fun E' ds' w' hD => by
      obtain ⟨l0, e0, hD⟩ := dSl_elim hD; obtain ⟨n7, e7, hD⟩ := dInt_elim hD; obtain ⟨n8, e8, hD⟩ := dInt_elim hD; exact F66_4_ok R l0 (E' 1) n7 n8 ds' w' E' e0 rfl e7 e8 hD) h
theorem F66_calls (l0 : SV) (v1 : Value) (w : World) (R : Rt) (h : F66_5 R l0 v1 [] w) : Calls prog 66 #[.slice l0.a l0.len l0.cap, v1] w R :=
  calls_of_L (l := [c66_0, c66_1, c66_2, c66_3, c66_4]) func66 (by kernel_rfl) (by rw [ntmps66]; exact Nat.le_of_ble_eq_true (by kernel_rfl)) c66_l
    (F66_5_ok R l0 v1 [] w _ rfl rfl h)
noncomputable def c67_0 := cI8 f67 0
noncomputable def c67_1 := cI8 f67 1
noncomputable def c67_2 := cI8 f67 2
def F67_q1 (R : Rt) : EQ := endQ prog f67.results.toList R
def F67_1 (R : Rt) (s0_0 : ByteArray) (n0_1 n0_2 : Int) (b0_3 : Bool) (v1 : Value) (ds : Ds) (w : World) : Prop :=
 alE (.cells #[.string s0_0, .int .i64 n0_1, .int .i64 n0_2, .bool b0_3] 23) w fun r2 w1 =>
 ∃ s5 : ByteArray, w1.cell? (⟨r2, 0, none⟩ : Addr) = some (.string s5) /\
 addrE v1 fun a2 =>
 ∃ s6 : ByteArray, w1.cell? a2 = some (.string s6) /\
 runD prog ds w1 fun w3 =>
 R (.returned (.bool (s5.toList == s6.toList))) w3
theorem c67_l : flat (bodyOf f67) = [c67_0, c67_1, c67_2] := by kernel_rfl
theorem F67_1_ok (R : Rt) (s0_0 : ByteArray) (n0_1 n0_2 : Int) (b0_3 : Bool) (v1 : Value) (ds : Ds) (w : World) (E : Env) (e0 : E 0 = .agg #[.string s0_0, .int .i64 n0_1, .int .i64 n0_2, .bool b0_3]) (e1 : E 1 = v1) (h : F67_1 R s0_0 n0_1 n0_2 b0_3 v1 ds w) :
    TrL prog f67.ntmps [c67_0, c67_1, c67_2] (F67_q1 R) E ds w :=
  TrL_leaf (X := F67_1 R s0_0 n0_1 n0_2 b0_3 v1 ds w) (setAll_cons e0 (setAll_cons e1 setAll_nil)) (by kernel_rfl) (by kernel_rfl) h
theorem F67_calls (s0_0 : ByteArray) (n0_1 n0_2 : Int) (b0_3 : Bool) (v1 : Value) (w : World) (R : Rt) (h : F67_1 R s0_0 n0_1 n0_2 b0_3 v1 [] w) : Calls prog 67 #[.agg #[.string s0_0, .int .i64 n0_1, .int .i64 n0_2, .bool b0_3], v1] w R :=
  calls_of_L (l := [c67_0, c67_1, c67_2]) func67 (by kernel_rfl) (by rw [ntmps67]; exact Nat.le_of_ble_eq_true (by kernel_rfl)) c67_l
    (F67_1_ok R s0_0 n0_1 n0_2 b0_3 v1 [] w _ rfl rfl h)
noncomputable def c27_0 := cI8 f27 0
noncomputable def c27_1 := cI8 f27 1
noncomputable def c27_2 := cI8 f27 2
noncomputable def c27_3 := cI8 f27 3
def F27_q1 (R : Rt) : EQ := endQ prog f27.results.toList R
def F27_1 (R : Rt) (l0 : SV) (s1 : ByteArray) (ds : Ds) (w : World) : Prop :=
 alE (.cells #[.string s1] 9) w fun r3 w1 =>
 Calls prog 66 #[.slice l0.a l0.len l0.cap, .func (.func 67) #[] #[.pointer (some (⟨r3, 0, none⟩ : Addr))]] w1 fun e w2 =>
 ∃ n9 : Int, e = .returned (.int .i64 n9) /\
 ∃ n11 : Int, ∃ w3 : World, (Builtin.max_ #[3, 3] 3 #[.int .i64 n9, .int .i64 0]).run prog w2 = .ok (.int .i64 n11) w3 /\
 runD prog ds w3 fun w4 =>
 R (.returned (.tuple #[.int .i64 n11, .bool (decide (n9 ≥ 0))])) w4
theorem c27_l : flat (bodyOf f27) = [c27_0, c27_1, c27_2, c27_3] := by kernel_rfl
theorem F27_1_ok (R : Rt) (l0 : SV) (s1 : ByteArray) (ds : Ds) (w : World) (E : Env) (e0 : E 0 = .slice l0.a l0.len l0.cap) (e1 : E 1 = .string s1) (h : F27_1 R l0 s1 ds w) :
    TrL prog f27.ntmps [c27_0, c27_1, c27_2, c27_3] (F27_q1 R) E ds w :=
  TrL_leaf (X := F27_1 R l0 s1 ds w) (setAll_cons e0 (setAll_cons e1 setAll_nil)) (by kernel_rfl) (by kernel_rfl) h
theorem F27_calls (l0 : SV) (s1 : ByteArray) (w : World) (R : Rt) (h : F27_1 R l0 s1 [] w) : Calls prog 27 #[.slice l0.a l0.len l0.cap, .string s1] w R :=
  calls_of_L (l := [c27_0, c27_1, c27_2, c27_3]) func27 (by kernel_rfl) (by rw [ntmps27]; exact Nat.le_of_ble_eq_true (by kernel_rfl)) c27_l
    (F27_1_ok R l0 s1 [] w _ rfl rfl h)
noncomputable def c28_0 := cI8 f28 0
noncomputable def c28_1 := cI8 f28 1
noncomputable def c28_2 := cI8 f28 2
noncomputable def c28_3 := cI8 f28 3
noncomputable def c28_4 := cI8 f28 4
noncomputable def c28_2_0 := cJ8 c28_2 0
noncomputable def c28_2_0_0 := cJ8 c28_2_0 0
noncomputable def c28_2_0_1 := cJ8 c28_2_0 1
noncomputable def c28_2_0_2 := cJ8 c28_2_0 2
noncomputable def c28_2_0_3 := cJ8 c28_2_0 3
def F28_q1 (R : Rt) : EQ := endQ prog f28.results.toList R
def F28_1 (R : Rt) (ds : Ds) (w : World) : Prop :=
 runD prog ds w fun w1 =>
 R (.returned (.tuple #[.int .i64 0, .bool false])) w1
def F28_k2 (R : Rt) : EP := (fun E ds w => F28_1 R ds w)
def F28_q3 (R : Rt) : EQ := (thenQ (F28_k2 R) (F28_q1 R))
def F28_q4 (R : Rt) : EQ := (blockQ 0 (F28_q3 R))
def F28_q5 (R : Rt) (J1 : (Int) -> World -> Prop) : EQ := (thenQ (fun E _ w => dInt .i64 (E 6) fun n6 => J1 n6 w) (F28_q4 R))
def F28_2 (R : Rt) (J1 : (Int) -> World -> Prop) (l0 : SV) (s1 : ByteArray) (n6 : Int) (ds : Ds) (w : World) : Prop :=
 Br (decide (n6 < (l0.len : Int))) (
 ∃ a2 : Addr, l0.a = some a2 /\ 0 ≤ n6 /\ n6 < (l0.len : Int) /\
 ∃ s17 : ByteArray, w.cell? (a2.add (n6.toNat * 4)) = some (.string s17) /\
 Br (s17.toList == s1.toList) (
 runD prog ds w fun w3 =>
 R (.returned (.tuple #[.int .i64 n6, .bool true])) w3) (
 J1 (IntKind.i64.wrap (n6 + 1)) w)) (
 F28_1 R ds w)
def F28_3 (R : Rt) (l0 : SV) (s1 : ByteArray) (n6 : Int) (ds : Ds) (w : World) : Prop :=
 loopT (fun (J1 : (Int) -> World -> Prop) (s : Int) (w : World) => F28_2 R J1 l0 s1 s ds w) n6 w
abbrev F28_4 (R : Rt) (l0 : SV) (s1 : ByteArray) (n6 : Int) (ds : Ds) (w : World) : Prop := F28_3 R l0 s1 n6 ds w
def F28_k6 (R : Rt) : EP := (fun E ds w => dSl (E 0) fun l0 => dStr (E 1) fun s1 => dInt .i64 (E 6) fun n6 => F28_4 R l0 s1 n6 ds w)
def F28_5 (R : Rt) (l0 : SV) (s1 : ByteArray) (ds : Ds) (w : World) : Prop :=
 F28_4 R l0 s1 0 ds w
theorem c28_l : flat (bodyOf f28) = [c28_0, c28_1, c28_2, c28_3, c28_4] := by kernel_rfl
theorem c28_2_l : flat (innerC c28_2) = [c28_2_0] := by kernel_rfl
theorem c28_2_0_l : flat (innerC c28_2_0) = [c28_2_0_0, c28_2_0_1, c28_2_0_2, c28_2_0_3] := by kernel_rfl
theorem F28_1_ok (R : Rt) (ds : Ds) (w : World) (E : Env) (h : F28_1 R ds w) :
    TrL prog f28.ntmps [c28_3, c28_4] (F28_q1 R) E ds w :=
  TrL_leaf (X := F28_1 R ds w) setAll_nil (by kernel_rfl) (by kernel_rfl) h
theorem F28_2_ok (R : Rt) (J1 : (Int) -> World -> Prop) (l0 : SV) (s1 : ByteArray) (n6 : Int) (ds : Ds) (w : World) (E : Env) (e0 : E 0 = .slice l0.a l0.len l0.cap) (e1 : E 1 = .string s1) (e6 : E 6 = .int .i64 n6) (h : F28_2 R J1 l0 s1 n6 ds w) :
    TrL prog f28.ntmps [c28_2_0_0, c28_2_0_1, c28_2_0_2, c28_2_0_3] (F28_q5 R J1) E ds w :=
  TrL_leaf (X := F28_2 R J1 l0 s1 n6 ds w) (setAll_cons e0 (setAll_cons e1 (setAll_cons e6 setAll_nil))) (by kernel_rfl) (by kernel_rfl) h
theorem F28_3_ok (R : Rt) (l0 : SV) (s1 : ByteArray) (n6 : Int) (ds : Ds) (w : World) (E : Env) (e0 : E 0 = .slice l0.a l0.len l0.cap) (e1 : E 1 = .string s1) (e6 : E 6 = .int .i64 n6) (h : F28_3 R l0 s1 n6 ds w) :
    TrL prog f28.ntmps [c28_2_0] (F28_q4 R) E ds w :=
  TrL_one (Tr_loop' (c := innerC c28_2_0) (σ := Int) (enc := (fun (s : Int) (E : Env) => E 6 = .int .i64 s)) (D := (fun E K => dInt .i64 (E 6) fun n6 => K n6)) (F := (fun (J1 : (Int) -> World -> Prop) (s : Int) (w : World) => F28_2 R J1 l0 s1 s ds w)) (s0 := n6) (by kernel_rfl) c28_2_0_l e6 (by kernel_rfl) (fun E K hD => by obtain ⟨n6, e6, hD⟩ := dInt_elim hD; exact ⟨n6, e6, hD⟩)
      (fun J1 s E' w' he ha hF => by
      have e6' := he
      exact F28_2_ok R J1 l0 s1 s ds w' E' ((ha 0 (by kernel_rfl)).trans e0) ((ha 1 (by kernel_rfl)).trans e1) e6' hF) h)
theorem F28_4_ok (R : Rt) (l0 : SV) (s1 : ByteArray) (n6 : Int) (ds : Ds) (w : World) (E : Env) (e0 : E 0 = .slice l0.a l0.len l0.cap) (e1 : E 1 = .string s1) (e6 : E 6 = .int .i64 n6) (h : F28_4 R l0 s1 n6 ds w) :
    TrL prog f28.ntmps [c28_2, c28_3, c28_4] (F28_q1 R) E ds w :=
  TrL_head (K := (F28_k2 R)) (Tr_block' (c := innerC c28_2) (by kernel_rfl) c28_2_l (F28_3_ok R l0 s1 n6 ds w E e0 e1 e6 h))
    (fun E' ds' w' hD => by
      exact F28_1_ok R ds' w' E'  hD)
theorem F28_5_ok (R : Rt) (l0 : SV) (s1 : ByteArray) (ds : Ds) (w : World) (E : Env) (e0 : E 0 = .slice l0.a l0.len l0.cap) (e1 : E 1 = .string s1) (h : F28_5 R l0 s1 ds w) :
    TrL prog f28.ntmps [c28_0, c28_1, c28_2, c28_3, c28_4] (F28_q1 R) E ds w :=
  TrL_piece (pre := [c28_0, c28_1]) (K := (F28_k6 R)) (X := F28_5 R l0 s1 ds w) (setAll_cons e0 (setAll_cons e1 setAll_nil)) (by kernel_rfl) (by kernel_rfl)
    (fun E' ds' w' hD => by
      obtain ⟨l0, e0, hD⟩ := dSl_elim hD; obtain ⟨s1, e1, hD⟩ := dStr_elim hD; obtain ⟨n6, e6, hD⟩ := dInt_elim hD; exact F28_4_ok R l0 s1 n6 ds' w' E' e0 e1 e6 hD) h
theorem F28_calls (l0 : SV) (s1 : ByteArray) (w : World) (R : Rt) (h : F28_5 R l0 s1 [] w) : Calls prog 28 #[.slice l0.a l0.len l0.cap, .string s1] w R :=
  calls_of_L (l := [c28_0, c28_1, c28_2, c28_3, c28_4]) func28 (by kernel_rfl) (by rw [ntmps28]; exact Nat.le_of_ble_eq_true (by kernel_rfl)) c28_l
    (F28_5_ok R l0 s1 [] w _ rfl rfl h)
end Go.Proofs.YtecmfdfhpldmmaaGreatDoor

/- Shallow texts of functions, printed by program, each checked by the kernel against the loaded code. No condition. -/
set_option maxRecDepth 100000
set_option linter.unusedVariables false
namespace Go.Proofs.YtecmfdfhpldmmaaGreatDoor
open Go.Sh
open Tryz
@[reducible] noncomputable def cI9 (f : Func) (i : Nat) : Code := itemAt (flat (bodyOf f)) i
@[reducible] noncomputable def cJ9 (c : Code) (i : Nat) : Code := itemAt (flat (innerC c)) i
noncomputable def c34_0 := cI9 f34 0
noncomputable def c34_1 := cI9 f34 1
noncomputable def c34_2 := cI9 f34 2
noncomputable def c34_3 := cI9 f34 3
noncomputable def c34_4 := cI9 f34 4
noncomputable def c34_5 := cI9 f34 5
noncomputable def c34_6 := cI9 f34 6
noncomputable def c34_7 := cI9 f34 7
noncomputable def c34_8 := cI9 f34 8
noncomputable def c34_9 := cI9 f34 9
noncomputable def c34_10 := cI9 f34 10
noncomputable def c34_11 := cI9 f34 11
noncomputable def c34_9_0 := cJ9 c34_9 0
noncomputable def c34_9_0_0 := cJ9 c34_9_0 0
noncomputable def c34_9_0_1 := cJ9 c34_9_0 1
noncomputable def c34_9_0_2 := cJ9 c34_9_0 2
noncomputable def c34_9_0_3 := cJ9 c34_9_0 3
noncomputable def c34_9_0_2_0 := cJ9 c34_9_0_2 0
noncomputable def c34_9_0_2_1 := cJ9 c34_9_0_2 1
noncomputable def c34_9_0_2_2 := cJ9 c34_9_0_2 2
noncomputable def c34_9_0_2_3 := cJ9 c34_9_0_2 3
noncomputable def c34_9_0_2_4 := cJ9 c34_9_0_2 4
noncomputable def c34_9_0_2_4_0 := cJ9 c34_9_0_2_4 0
noncomputable def c34_9_0_2_4_0_0 := cJ9 c34_9_0_2_4_0 0
noncomputable def c34_9_0_2_4_0_1 := cJ9 c34_9_0_2_4_0 1
noncomputable def c34_9_0_2_4_0_2 := cJ9 c34_9_0_2_4_0 2
noncomputable def c34_9_0_2_4_0_3 := cJ9 c34_9_0_2_4_0 3
def F34_q1 (R : Rt) : EQ := endQ prog f34.results.toList R
def F34_1 (R : Rt) (ds : Ds) (w : World) : Prop :=
 runD prog ds w fun w1 =>
 R (.returned (.int .i64 0)) w1
def F34_k2 (R : Rt) : EP := (fun E ds w => F34_1 R ds w)
def F34_q3 (R : Rt) : EQ := (thenQ (F34_k2 R) (F34_q1 R))
def F34_q4 (R : Rt) : EQ := (blockQ 0 (F34_q3 R))
def F34_q5 (R : Rt) (J1 : (Int) -> World -> Prop) : EQ := (thenQ (fun E _ w => dInt .i64 (E 25) fun n25 => J1 n25 w) (F34_q4 R))
def F34_2 (R : Rt) (J1 : (Int) -> World -> Prop) (p1 : Option Addr) (l23 : SV) (n24 n25 : Int) (ds : Ds) (w : World) : Prop :=
 J1 (IntKind.i64.wrap (n25 + 1)) w
def F34_k6 (R : Rt) (J1 : (Int) -> World -> Prop) : EP := (fun E ds w => dPtr (E 1) fun p1 => dSl (E 23) fun l23 => dInt .i64 (E 24) fun n24 => dInt .i64 (E 25) fun n25 => F34_2 R J1 p1 l23 n24 n25 ds w)
def F34_q7 (R : Rt) (J1 : (Int) -> World -> Prop) : EQ := (thenQ (F34_k6 R J1) (F34_q5 R J1))
def F34_q8 (R : Rt) (J1 : (Int) -> World -> Prop) : EQ := (blockQ 1 (F34_q7 R J1))
def F34_q9 (R : Rt) (J1 : (Int) -> World -> Prop) : EQ := (blockQ 2 (F34_q8 R J1))
def F34_q10 (R : Rt) (J1 : (Int) -> World -> Prop) (J2 : (Int) -> World -> Prop) : EQ := (thenQ (fun E _ w => dInt .i64 (E 39) fun n39 => J2 n39 w) (F34_q9 R J1))
def F34_3 (R : Rt) (J1 : (Int) -> World -> Prop) (J2 : (Int) -> World -> Prop) (p1 p5 : Option Addr) (l23 : SV) (n24 n25 : Int) (l37 : SV) (n38 n39 : Int) (ds : Ds) (w : World) : Prop :=
 Br (decide (n39 < n38)) (
 ∃ a2 : Addr, l37.a = some a2 /\ 0 ≤ n39 /\ n39 < (l37.len : Int) /\
 ∃ s43_0 : ByteArray, w.cell? ((a2.add (n39.toNat * 4)).add 0) = some (.string s43_0) /\
 ∃ n43_1 : Int, w.cell? ((a2.add (n39.toNat * 4)).add 1) = some (.int .i64 n43_1) /\
 ∃ n43_2 : Int, w.cell? ((a2.add (n39.toNat * 4)).add 2) = some (.int .i64 n43_2) /\
 ∃ b43_3 : Bool, w.cell? ((a2.add (n39.toNat * 4)).add 3) = some (.bool b43_3) /\
 alE (.cells #[.string (⟨#[]⟩ : ByteArray), .int .i64 0, .int .i64 0, .bool false] 23) w fun r7 w3 =>
 stA prog 23 (⟨r7, 0, none⟩ : Addr) #[.string s43_0, .int .i64 n43_1, .int .i64 n43_2, .bool b43_3] w3 fun w4 =>
 dwE w4 fun w5 =>
 ∃ s44_0 : ByteArray, w5.cell? ((⟨r7, 0, none⟩ : Addr).add 0) = some (.string s44_0) /\
 ∃ n44_1 : Int, w5.cell? ((⟨r7, 0, none⟩ : Addr).add 1) = some (.int .i64 n44_1) /\
 ∃ n44_2 : Int, w5.cell? ((⟨r7, 0, none⟩ : Addr).add 2) = some (.int .i64 n44_2) /\
 ∃ b44_3 : Bool, w5.cell? ((⟨r7, 0, none⟩ : Addr).add 3) = some (.bool b44_3) /\
 ptrE p1 fun a6 =>
 ∃ n46 : Int, w5.cell? a6 = some (.int .i64 n46) /\
 ptrE p5 fun a7 =>
 ∃ l48 : SV, w5.cell? (a7.add 1) = some (.slice l48.a l48.len l48.cap) /\
 ∃ a8 : Addr, l48.a = some a8 /\ 0 ≤ n39 /\ n39 < (l48.len : Int) /\
 ∃ n51_0 : Int, w5.cell? ((a8.add (n39.toNat * 3)).add 0) = some (.int .i64 n51_0) /\
 ∃ n51_1 : Int, w5.cell? ((a8.add (n39.toNat * 3)).add 1) = some (.int .i64 n51_1) /\
 ∃ s51_2 : ByteArray, w5.cell? ((a8.add (n39.toNat * 3)).add 2) = some (.string s51_2) /\
 Calls prog 73 #[.agg #[.string s44_0, .int .i64 n44_1, .int .i64 n44_2, .bool b44_3], .int .i64 n46, .agg #[.int .i64 n51_0, .int .i64 n51_1, .string s51_2]] w5 fun e w9 =>
 ∃ b52 : Bool, e = .returned (.bool b52) /\
 Br (!b52) (
 runD prog ds w9 fun w10 =>
 R (.returned (.int .i64 1)) w10) (
 J2 (IntKind.i64.wrap (n39 + 1)) w9)) (
 F34_2 R J1 p1 l23 n24 n25 ds w)
def F34_4 (R : Rt) (J1 : (Int) -> World -> Prop) (p1 p5 : Option Addr) (l23 : SV) (n24 n25 : Int) (l37 : SV) (n38 n39 : Int) (ds : Ds) (w : World) : Prop :=
 loopT (fun (J2 : (Int) -> World -> Prop) (s : Int) (w : World) => F34_3 R J1 J2 p1 p5 l23 n24 n25 l37 n38 s ds w) n39 w
abbrev F34_5 (R : Rt) (J1 : (Int) -> World -> Prop) (p1 p5 : Option Addr) (l23 : SV) (n24 n25 : Int) (l37 : SV) (n38 n39 : Int) (ds : Ds) (w : World) : Prop := F34_4 R J1 p1 p5 l23 n24 n25 l37 n38 n39 ds w
def F34_k11 (R : Rt) (J1 : (Int) -> World -> Prop) : EP := (fun E ds w => dPtr (E 1) fun p1 => dPtr (E 5) fun p5 => dSl (E 23) fun l23 => dInt .i64 (E 24) fun n24 => dInt .i64 (E 25) fun n25 => dSl (E 37) fun l37 => dInt .i64 (E 38) fun n38 => dInt .i64 (E 39) fun n39 => F34_5 R J1 p1 p5 l23 n24 n25 l37 n38 n39 ds w)
def F34_6 (R : Rt) (J1 : (Int) -> World -> Prop) (p1 : Option Addr) (l23 : SV) (n24 n25 : Int) (ds : Ds) (w : World) : Prop :=
 ∃ a11 : Addr, l23.a = some a11 /\ 0 ≤ n25 /\ n25 < (l23.len : Int) /\
 ∃ b28_0 : Bool, w.cell? ((a11.add (n25.toNat * 2)).add 0) = some (.bool b28_0) /\
 ∃ l28_1 : SV, w.cell? ((a11.add (n25.toNat * 2)).add 1) = some (.slice l28_1.a l28_1.len l28_1.cap) /\
 alE (.cells #[.bool false, .slice none 0 0] 46) w fun r5 w12 =>
 stA prog 46 (⟨r5, 0, none⟩ : Addr) #[.bool b28_0, .slice l28_1.a l28_1.len l28_1.cap] w12 fun w13 =>
 ∃ l30 : SV, w13.cell? ((⟨r5, 0, none⟩ : Addr).add 1) = some (.slice l30.a l30.len l30.cap) /\
 ptrE p1 fun a14 =>
 ∃ l33 : SV, w13.cell? (a14.add 1) = some (.slice l33.a l33.len l33.cap) /\
 Br ((l30.len : Int) != (l33.len : Int)) (
 runD prog ds w13 fun w15 =>
 R (.returned (.int .i64 10)) w15) (
 ptrE p1 fun a16 =>
 ∃ l37 : SV, w13.cell? (a16.add 1) = some (.slice l37.a l37.len l37.cap) /\
 F34_5 R J1 p1 (some (⟨r5, 0, none⟩ : Addr)) l23 n24 n25 l37 (l37.len : Int) 0 ds w13)
abbrev F34_7 (R : Rt) (J1 : (Int) -> World -> Prop) (p1 : Option Addr) (l23 : SV) (n24 n25 : Int) (ds : Ds) (w : World) : Prop := F34_6 R J1 p1 l23 n24 n25 ds w
def F34_k12 (R : Rt) (J1 : (Int) -> World -> Prop) : EP := (fun E ds w => dPtr (E 1) fun p1 => dSl (E 23) fun l23 => dInt .i64 (E 24) fun n24 => dInt .i64 (E 25) fun n25 => F34_7 R J1 p1 l23 n24 n25 ds w)
def F34_8 (R : Rt) (J1 : (Int) -> World -> Prop) (p1 : Option Addr) (l23 : SV) (n24 n25 : Int) (ds : Ds) (w : World) : Prop :=
 Br (decide (n25 < n24)) (
 F34_7 R J1 p1 l23 n24 n25 ds w) (
 F34_1 R ds w)
def F34_9 (R : Rt) (p1 : Option Addr) (l23 : SV) (n24 n25 : Int) (ds : Ds) (w : World) : Prop :=
 loopT (fun (J1 : (Int) -> World -> Prop) (s : Int) (w : World) => F34_8 R J1 p1 l23 n24 s ds w) n25 w
abbrev F34_10 (R : Rt) (p1 : Option Addr) (l23 : SV) (n24 n25 : Int) (ds : Ds) (w : World) : Prop := F34_9 R p1 l23 n24 n25 ds w
def F34_k13 (R : Rt) : EP := (fun E ds w => dPtr (E 1) fun p1 => dSl (E 23) fun l23 => dInt .i64 (E 24) fun n24 => dInt .i64 (E 25) fun n25 => F34_10 R p1 l23 n24 n25 ds w)
def F34_11 (R : Rt) (n0_0 : Int) (l0_1 l0_2 : SV) (ds : Ds) (w : World) : Prop :=
 alE (.cells #[.int .i64 n0_0, .slice l0_1.a l0_1.len l0_1.cap, .slice l0_2.a l0_2.len l0_2.cap] 35) w fun r1 w17 =>
 ∃ n9 : Int, w17.cell? (⟨r1, 0, none⟩ : Addr) = some (.int .i64 n9) /\
 Calls prog 48 #[.int .i64 n9] w17 fun e w18 =>
 ∃ b10 : Bool, e = .returned (.bool b10) /\
 Br (!b10) (
 runD prog ds w18 fun w19 =>
 R (.returned (.int .i64 1)) w19) (
 ∃ l13 : SV, w18.cell? ((⟨r1, 0, none⟩ : Addr).add 1) = some (.slice l13.a l13.len l13.cap) /\
 Calls prog 36 #[.slice l13.a l13.len l13.cap] w18 fun e w20 =>
 ∃ n14 : Int, e = .returned (.int .i64 n14) /\
 Br (n14 != 0) (
 runD prog ds w20 fun w21 =>
 R (.returned (.int .i64 n14)) w21) (
 ∃ l19 : SV, w20.cell? ((⟨r1, 0, none⟩ : Addr).add 2) = some (.slice l19.a l19.len l19.cap) /\
 Br (decide ((l19.len : Int) > 300)) (
 runD prog ds w20 fun w22 =>
 R (.returned (.int .i64 3)) w22) (
 ∃ l23 : SV, w20.cell? ((⟨r1, 0, none⟩ : Addr).add 2) = some (.slice l23.a l23.len l23.cap) /\
 F34_10 R (some (⟨r1, 0, none⟩ : Addr)) l23 (l23.len : Int) 0 ds w20)))
theorem c34_l : flat (bodyOf f34) = [c34_0, c34_1, c34_2, c34_3, c34_4, c34_5, c34_6, c34_7, c34_8, c34_9, c34_10, c34_11] := by kernel_rfl
theorem c34_9_l : flat (innerC c34_9) = [c34_9_0] := by kernel_rfl
theorem c34_9_0_l : flat (innerC c34_9_0) = [c34_9_0_0, c34_9_0_1, c34_9_0_2, c34_9_0_3] := by kernel_rfl
theorem c34_9_0_2_l : flat (innerC c34_9_0_2) = [c34_9_0_2_0, c34_9_0_2_1, c34_9_0_2_2, c34_9_0_2_3, c34_9_0_2_4] := by kernel_rfl
theorem c34_9_0_2_4_l : flat (innerC c34_9_0_2_4) = [c34_9_0_2_4_0] := by kernel_rfl
theorem c34_9_0_2_4_0_l : flat (innerC c34_9_0_2_4_0) = [c34_9_0_2_4_0_0, c34_9_0_2_4_0_1, c34_9_0_2_4_0_2, c34_9_0_2_4_0_3] := by kernel_rfl
theorem F34_1_ok (R : Rt) (ds : Ds) (w : World) (E : Env) (h : F34_1 R ds w) :
    TrL prog f34.ntmps [c34_10, c34_11] (F34_q1 R) E ds w :=
  TrL_leaf (X := F34_1 R ds w) setAll_nil (by kernel_rfl) (by kernel_rfl) h
theorem F34_2_ok (R : Rt) (J1 : (Int) -> World -> Prop) (p1 : Option Addr) (l23 : SV) (n24 n25 : Int) (ds : Ds) (w : World) (E : Env) (e1 : E 1 = .pointer p1) (e23 : E 23 = .slice l23.a l23.len l23.cap) (e24 : E 24 = .int .i64 n24) (e25 : E 25 = .int .i64 n25) (h : F34_2 R J1 p1 l23 n24 n25 ds w) :
    TrL prog f34.ntmps [c34_9_0_3] (F34_q5 R J1) E ds w :=
  TrL_leaf (X := F34_2 R J1 p1 l23 n24 n25 ds w) (setAll_cons e1 (setAll_cons e23 (setAll_cons e24 (setAll_cons e25 setAll_nil)))) (by kernel_rfl) (by kernel_rfl) h
theorem F34_3_ok (R : Rt) (J1 : (Int) -> World -> Prop) (J2 : (Int) -> World -> Prop) (p1 p5 : Option Addr) (l23 : SV) (n24 n25 : Int) (l37 : SV) (n38 n39 : Int) (ds : Ds) (w : World) (E : Env) (e1 : E 1 = .pointer p1) (e5 : E 5 = .pointer p5) (e23 : E 23 = .slice l23.a l23.len l23.cap) (e24 : E 24 = .int .i64 n24) (e25 : E 25 = .int .i64 n25) (e37 : E 37 = .slice l37.a l37.len l37.cap) (e38 : E 38 = .int .i64 n38) (e39 : E 39 = .int .i64 n39) (h : F34_3 R J1 J2 p1 p5 l23 n24 n25 l37 n38 n39 ds w) :
    TrL prog f34.ntmps [c34_9_0_2_4_0_0, c34_9_0_2_4_0_1, c34_9_0_2_4_0_2, c34_9_0_2_4_0_3] (F34_q10 R J1 J2) E ds w :=
  TrL_leaf (X := F34_3 R J1 J2 p1 p5 l23 n24 n25 l37 n38 n39 ds w) (setAll_cons e1 (setAll_cons e5 (setAll_cons e23 (setAll_cons e24 (setAll_cons e25 (setAll_cons e37 (setAll_cons e38 (setAll_cons e39 setAll_nil)))))))) (by kernel_rfl) (by kernel_rfl) h
theorem F34_4_ok (R : Rt) (J1 : (Int) -> World -> Prop) (p1 p5 : Option Addr) (l23 : SV) (n24 n25 : Int) (l37 : SV) (n38 n39 : Int) (ds : Ds) (w : World) (E : Env) (e1 : E 1 = .pointer p1) (e5 : E 5 = .pointer p5) (e23 : E 23 = .slice l23.a l23.len l23.cap) (e24 : E 24 = .int .i64 n24) (e25 : E 25 = .int .i64 n25) (e37 : E 37 = .slice l37.a l37.len l37.cap) (e38 : E 38 = .int .i64 n38) (e39 : E 39 = .int .i64 n39) (h : F34_4 R J1 p1 p5 l23 n24 n25 l37 n38 n39 ds w) :
    TrL prog f34.ntmps [c34_9_0_2_4_0] (F34_q9 R J1) E ds w :=
  TrL_one (Tr_loop' (c := innerC c34_9_0_2_4_0) (σ := Int) (enc := (fun (s : Int) (E : Env) => E 39 = .int .i64 s)) (D := (fun E K => dInt .i64 (E 39) fun n39 => K n39)) (F := (fun (J2 : (Int) -> World -> Prop) (s : Int) (w : World) => F34_3 R J1 J2 p1 p5 l23 n24 n25 l37 n38 s ds w)) (s0 := n39) (by kernel_rfl) c34_9_0_2_4_0_l e39 (by kernel_rfl) (fun E K hD => by obtain ⟨n39, e39, hD⟩ := dInt_elim hD; exact ⟨n39, e39, hD⟩)
      (fun J2 s E' w' he ha hF => by
      have e39' := he
      exact F34_3_ok R J1 J2 p1 p5 l23 n24 n25 l37 n38 s ds w' E' ((ha 1 (by kernel_rfl)).trans e1) ((ha 5 (by kernel_rfl)).trans e5) ((ha 23 (by kernel_rfl)).trans e23) ((ha 24 (by kernel_rfl)).trans e24) ((ha 25 (by kernel_rfl)).trans e25) ((ha 37 (by kernel_rfl)).trans e37) ((ha 38 (by kernel_rfl)).trans e38) e39' hF) h)
theorem F34_5_ok (R : Rt) (J1 : (Int) -> World -> Prop) (p1 p5 : Option Addr) (l23 : SV) (n24 n25 : Int) (l37 : SV) (n38 n39 : Int) (ds : Ds) (w : World) (E : Env) (e1 : E 1 = .pointer p1) (e5 : E 5 = .pointer p5) (e23 : E 23 = .slice l23.a l23.len l23.cap) (e24 : E 24 = .int .i64 n24) (e25 : E 25 = .int .i64 n25) (e37 : E 37 = .slice l37.a l37.len l37.cap) (e38 : E 38 = .int .i64 n38) (e39 : E 39 = .int .i64 n39) (h : F34_5 R J1 p1 p5 l23 n24 n25 l37 n38 n39 ds w) :
    TrL prog f34.ntmps [c34_9_0_2_4] (F34_q8 R J1) E ds w :=
  TrL_one (Tr_block' (c := innerC c34_9_0_2_4) (by kernel_rfl) c34_9_0_2_4_l (F34_4_ok R J1 p1 p5 l23 n24 n25 l37 n38 n39 ds w E e1 e5 e23 e24 e25 e37 e38 e39 h))
theorem F34_6_ok (R : Rt) (J1 : (Int) -> World -> Prop) (p1 : Option Addr) (l23 : SV) (n24 n25 : Int) (ds : Ds) (w : World) (E : Env) (e1 : E 1 = .pointer p1) (e23 : E 23 = .slice l23.a l23.len l23.cap) (e24 : E 24 = .int .i64 n24) (e25 : E 25 = .int .i64 n25) (h : F34_6 R J1 p1 l23 n24 n25 ds w) :
    TrL prog f34.ntmps [c34_9_0_2_0, c34_9_0_2_1, c34_9_0_2_2, c34_9_0_2_3, c34_9_0_2_4] (F34_q8 R J1) E ds w :=
  TrL_piece (pre := [c34_9_0_2_0, c34_9_0_2_1, c34_9_0_2_2, c34_9_0_2_3]) (K := (F34_k11 R J1)) (X := F34_6 R J1 p1 l23 n24 n25 ds w) (setAll_cons e1 (setAll_cons e23 (setAll_cons e24 (setAll_cons e25 setAll_nil)))) (by kernel_rfl) (by kernel_rfl)
    (fun E' ds' w' hD => by
      obtain ⟨p1, e1, hD⟩ := dPtr_elim hD; obtain ⟨p5, e5, hD⟩ := dPtr_elim hD; obtain ⟨l23, e23, hD⟩ := dSl_elim hD; obtain ⟨n24, e24, hD⟩ := dInt_elim hD; obtain ⟨n25, e25, hD⟩ := dInt_elim hD; obtain ⟨l37, e37, hD⟩ := dSl_elim hD; obtain ⟨n38, e38, hD⟩ := dInt_elim hD; obtain ⟨n39, e39, hD⟩ := dInt_elim hD; exact F34_5_ok R J1 p1 p5 l23 n24 n25 l37 n38 n39 ds' w' E' e1 e5 e23 e24 e25 e37 e38 e39 hD) h
theorem F34_7_ok (R : Rt) (J1 : (Int) -> World -> Prop) (p1 : Option Addr) (l23 : SV) (n24 n25 : Int) (ds : Ds) (w : World) (E : Env) (e1 : E 1 = .pointer p1) (e23 : E 23 = .slice l23.a l23.len l23.cap) (e24 : E 24 = .int .i64 n24) (e25 : E 25 = .int .i64 n25) (h : F34_7 R J1 p1 l23 n24 n25 ds w) :
    TrL prog f34.ntmps [c34_9_0_2, c34_9_0_3] (F34_q5 R J1) E ds w :=
  TrL_head (K := (F34_k6 R J1)) (Tr_block' (c := innerC c34_9_0_2) (by kernel_rfl) c34_9_0_2_l (F34_6_ok R J1 p1 l23 n24 n25 ds w E e1 e23 e24 e25 h))
    (fun E' ds' w' hD => by
      obtain ⟨p1, e1, hD⟩ := dPtr_elim hD; obtain ⟨l23, e23, hD⟩ := dSl_elim hD; obtain ⟨n24, e24, hD⟩ := dInt_elim hD; obtain ⟨n25, e25, hD⟩ := dInt_elim hD; exact F34_2_ok R J1 p1 l23 n24 n25 ds' w' E' e1 e23 e24 e25 hD)
theorem F34_8_ok (R : Rt) (J1 : (Int) -> World -> Prop) (p1 : Option Addr) (l23 : SV) (n24 n25 : Int) (ds : Ds) (w : World) (E : Env) (e1 : E 1 = .pointer p1) (e23 : E 23 = .slice l23.a l23.len l23.cap) (e24 : E 24 = .int .i64 n24) (e25 : E 25 = .int .i64 n25) (h : F34_8 R J1 p1 l23 n24 n25 ds w) :
    TrL prog f34.ntmps [c34_9_0_0, c34_9_0_1, c34_9_0_2, c34_9_0_3] (F34_q5 R J1) E ds w :=
  TrL_piece (pre := [c34_9_0_0, c34_9_0_1]) (K := (F34_k12 R J1)) (X := F34_8 R J1 p1 l23 n24 n25 ds w) (setAll_cons e1 (setAll_cons e23 (setAll_cons e24 (setAll_cons e25 setAll_nil)))) (by kernel_rfl) (by kernel_rfl)
    (fun E' ds' w' hD => by
      obtain ⟨p1, e1, hD⟩ := dPtr_elim hD; obtain ⟨l23, e23, hD⟩ := dSl_elim hD; obtain ⟨n24, e24, hD⟩ := dInt_elim hD; obtain ⟨n25, e25, hD⟩ := dInt_elim hD; exact F34_7_ok R J1 p1 l23 n24 n25 ds' w' E' e1 e23 e24 e25 hD) h
theorem F34_9_ok (R : Rt) (p1 : Option Addr) (l23 : SV) (n24 n25 : Int) (ds : Ds) (w : World) (E : Env) (e1 : E 1 = .pointer p1) (e23 : E 23 = .slice l23.a l23.len l23.cap) (e24 : E 24 = .int .i64 n24) (e25 : E 25 = .int .i64 n25) (h : F34_9 R p1 l23 n24 n25 ds w) :
    TrL prog f34.ntmps [c34_9_0] (F34_q4 R) E ds w :=
  TrL_one (Tr_loop' (c := innerC c34_9_0) (σ := Int) (enc := (fun (s : Int) (E : Env) => E 25 = .int .i64 s)) (D := (fun E K => dInt .i64 (E 25) fun n25 => K n25)) (F := (fun (J1 : (Int) -> World -> Prop) (s : Int) (w : World) => F34_8 R J1 p1 l23 n24 s ds w)) (s0 := n25) (by kernel_rfl) c34_9_0_l e25 (by kernel_rfl) (fun E K hD => by obtain ⟨n25, e25, hD⟩ := dInt_elim hD; exact ⟨n25, e25, hD⟩)
      (fun J1 s E' w' he ha hF => by
      have e25' := he
      exact F34_8_ok R J1 p1 l23 n24 s ds w' E' ((ha 1 (by kernel_rfl)).trans e1) ((ha 23 (by kernel_rfl)).trans e23) ((ha 24 (by kernel_rfl)).trans e24) e25' hF) h)
theorem F34_10_ok (R : Rt) (p1 : Option Addr) (l23 : SV) (n24 n25 : Int) (ds : Ds) (w : World) (E : Env) (e1 : E 1 = .pointer p1) (e23 : E 23 = .slice l23.a l23.len l23.cap) (e24 : E 24 = .int .i64 n24) (e25 : E 25 = .int .i64 n25) (h : F34_10 R p1 l23 n24 n25 ds w) :
    TrL prog f34.ntmps [c34_9, c34_10, c34_11] (F34_q1 R) E ds w :=
  TrL_head (K := (F34_k2 R)) (Tr_block' (c := innerC c34_9) (by kernel_rfl) c34_9_l (F34_9_ok R p1 l23 n24 n25 ds w E e1 e23 e24 e25 h))
    (fun E' ds' w' hD => by
      exact F34_1_ok R ds' w' E'  hD)
theorem F34_11_ok (R : Rt) (n0_0 : Int) (l0_1 l0_2 : SV) (ds : Ds) (w : World) (E : Env) (e0 : E 0 = .agg #[.int .i64 n0_0, .slice l0_1.a l0_1.len l0_1.cap, .slice l0_2.a l0_2.len l0_2.cap]) (h : F34_11 R n0_0 l0_1 l0_2 ds w) :
    TrL prog f34.ntmps [c34_0, c34_1, c34_2, c34_3, c34_4, c34_5, c34_6, c34_7, c34_8, c34_9, c34_10, c34_11] (F34_q1 R) E ds w :=
  TrL_piece (pre := [c34_0, c34_1, c34_2, c34_3, c34_4, c34_5, c34_6, c34_7, c34_8]) (K := (F34_k13 R)) (X := F34_11 R n0_0 l0_1 l0_2 ds w) (setAll_cons e0 setAll_nil) (by kernel_rfl) (by kernel_rfl)
    (fun E' ds' w' hD => by
      obtain ⟨p1, e1, hD⟩ := dPtr_elim hD; obtain ⟨l23, e23, hD⟩ := dSl_elim hD; obtain ⟨n24, e24, hD⟩ := dInt_elim hD; obtain ⟨n25, e25, hD⟩ := dInt_elim hD; exact F34_10_ok R p1 l23 n24 n25 ds' w' E' e1 e23 e24 e25 hD) h
theorem F34_calls (n0_0 : Int) (l0_1 l0_2 : SV) (w : World) (R : Rt) (h : F34_11 R n0_0 l0_1 l0_2 [] w) : Calls prog 34 #[.agg #[.int .i64 n0_0, .slice l0_1.a l0_1.len l0_1.cap, .slice l0_2.a l0_2.len l0_2.cap]] w R :=
  calls_of_L (l := [c34_0, c34_1, c34_2, c34_3, c34_4, c34_5, c34_6, c34_7, c34_8, c34_9, c34_10, c34_11]) func34 (by kernel_rfl) (by rw [ntmps34]; exact Nat.le_of_ble_eq_true (by kernel_rfl)) c34_l
    (F34_11_ok R n0_0 l0_1 l0_2 [] w _ rfl h)
noncomputable def c73_0 := cI9 f73 0
noncomputable def c73_1 := cI9 f73 1
noncomputable def c73_2 := cI9 f73 2
noncomputable def c73_3 := cI9 f73 3
noncomputable def c73_4 := cI9 f73 4
noncomputable def c73_5 := cI9 f73 5
noncomputable def c73_6 := cI9 f73 6
noncomputable def c73_7 := cI9 f73 7
def F73_q1 (R : Rt) : EQ := endQ prog f73.results.toList R
def F73_1 (R : Rt) (s0_0 : ByteArray) (n0_1 n0_2 : Int) (b0_3 : Bool) (n1 n2_0 n2_1 : Int) (s2_2 : ByteArray) (ds : Ds) (w : World) : Prop :=
 alE (.cells #[.string s0_0, .int .i64 n0_1, .int .i64 n0_2, .bool b0_3] 23) w fun r3 w1 =>
 alE (.cells #[.int .i64 n2_0, .int .i64 n2_1, .string s2_2] 25) w1 fun r5 w2 =>
 ∃ n10 : Int, w2.cell? (⟨r5, 0, none⟩ : Addr) = some (.int .i64 n10) /\
 Br (n10 == 0) (
 ∃ b13 : Bool, w2.cell? ((⟨r3, 0, none⟩ : Addr).add 3) = some (.bool b13) /\
 Br b13 (
 ∃ n15_0 : Int, w2.cell? ((⟨r5, 0, none⟩ : Addr).add 0) = some (.int .i64 n15_0) /\
 ∃ n15_1 : Int, w2.cell? ((⟨r5, 0, none⟩ : Addr).add 1) = some (.int .i64 n15_1) /\
 ∃ s15_2 : ByteArray, w2.cell? ((⟨r5, 0, none⟩ : Addr).add 2) = some (.string s15_2) /\
 ∃ b17 : Bool, ∃ w3 : World, (eqS .eql 25 (.tmp 15) (.tmp 16) (.agg #[.int .i64 n15_0, .int .i64 n15_1, .string s15_2]) (.agg #[.int .i64 0, .int .i64 0, .string (⟨#[]⟩ : ByteArray)])).run prog w2 = .ok (.bool b17) w3 /\
 runD prog ds w3 fun w4 =>
 R (.returned (.bool b17)) w4) (
 runD prog ds w2 fun w5 =>
 R (.returned (.bool false)) w5)) (
 ∃ n19_0 : Int, w2.cell? ((⟨r5, 0, none⟩ : Addr).add 0) = some (.int .i64 n19_0) /\
 ∃ n19_1 : Int, w2.cell? ((⟨r5, 0, none⟩ : Addr).add 1) = some (.int .i64 n19_1) /\
 ∃ s19_2 : ByteArray, w2.cell? ((⟨r5, 0, none⟩ : Addr).add 2) = some (.string s19_2) /\
 Calls prog 49 #[.agg #[.int .i64 n19_0, .int .i64 n19_1, .string s19_2]] w2 fun e w6 =>
 ∃ n20 : Int, e = .returned (.int .i64 n20) /\
 Br (n20 != 0) (
 runD prog ds w6 fun w7 =>
 R (.returned (.bool false)) w7) (
 ∃ s23_0 : ByteArray, w6.cell? ((⟨r3, 0, none⟩ : Addr).add 0) = some (.string s23_0) /\
 ∃ n23_1 : Int, w6.cell? ((⟨r3, 0, none⟩ : Addr).add 1) = some (.int .i64 n23_1) /\
 ∃ n23_2 : Int, w6.cell? ((⟨r3, 0, none⟩ : Addr).add 2) = some (.int .i64 n23_2) /\
 ∃ b23_3 : Bool, w6.cell? ((⟨r3, 0, none⟩ : Addr).add 3) = some (.bool b23_3) /\
 ∃ n25_0 : Int, w6.cell? ((⟨r5, 0, none⟩ : Addr).add 0) = some (.int .i64 n25_0) /\
 ∃ n25_1 : Int, w6.cell? ((⟨r5, 0, none⟩ : Addr).add 1) = some (.int .i64 n25_1) /\
 ∃ s25_2 : ByteArray, w6.cell? ((⟨r5, 0, none⟩ : Addr).add 2) = some (.string s25_2) /\
 Calls prog 13 #[.agg #[.string s23_0, .int .i64 n23_1, .int .i64 n23_2, .bool b23_3], .int .i64 n1, .agg #[.int .i64 n25_0, .int .i64 n25_1, .string s25_2]] w6 fun e w8 =>
 ∃ n26_0_0 : Int, ∃ n26_0_1 : Int, ∃ s26_0_2 : ByteArray, ∃ n26_1 : Int, e = .returned (.tuple #[.agg #[.int .i64 n26_0_0, .int .i64 n26_0_1, .string s26_0_2], .int .i64 n26_1]) /\
 alE (.cells #[.int .i64 0, .int .i64 0, .string (⟨#[]⟩ : ByteArray)] 25) w8 fun r7 w9 =>
 stA prog 25 (⟨r7, 0, none⟩ : Addr) #[.int .i64 n26_0_0, .int .i64 n26_0_1, .string s26_0_2] w9 fun w10 =>
 Br (n26_1 == 0) (
 ∃ n32_0 : Int, w10.cell? ((⟨r7, 0, none⟩ : Addr).add 0) = some (.int .i64 n32_0) /\
 ∃ n32_1 : Int, w10.cell? ((⟨r7, 0, none⟩ : Addr).add 1) = some (.int .i64 n32_1) /\
 ∃ s32_2 : ByteArray, w10.cell? ((⟨r7, 0, none⟩ : Addr).add 2) = some (.string s32_2) /\
 ∃ n33_0 : Int, w10.cell? ((⟨r5, 0, none⟩ : Addr).add 0) = some (.int .i64 n33_0) /\
 ∃ n33_1 : Int, w10.cell? ((⟨r5, 0, none⟩ : Addr).add 1) = some (.int .i64 n33_1) /\
 ∃ s33_2 : ByteArray, w10.cell? ((⟨r5, 0, none⟩ : Addr).add 2) = some (.string s33_2) /\
 ∃ b34 : Bool, ∃ w11 : World, (eqS .eql 25 (.tmp 32) (.tmp 33) (.agg #[.int .i64 n32_0, .int .i64 n32_1, .string s32_2]) (.agg #[.int .i64 n33_0, .int .i64 n33_1, .string s33_2])).run prog w10 = .ok (.bool b34) w11 /\
 runD prog ds w11 fun w12 =>
 R (.returned (.bool b34)) w12) (
 runD prog ds w10 fun w13 =>
 R (.returned (.bool false)) w13)))
theorem c73_l : flat (bodyOf f73) = [c73_0, c73_1, c73_2, c73_3, c73_4, c73_5, c73_6, c73_7] := by kernel_rfl
theorem F73_1_ok (R : Rt) (s0_0 : ByteArray) (n0_1 n0_2 : Int) (b0_3 : Bool) (n1 n2_0 n2_1 : Int) (s2_2 : ByteArray) (ds : Ds) (w : World) (E : Env) (e0 : E 0 = .agg #[.string s0_0, .int .i64 n0_1, .int .i64 n0_2, .bool b0_3]) (e1 : E 1 = .int .i64 n1) (e2 : E 2 = .agg #[.int .i64 n2_0, .int .i64 n2_1, .string s2_2]) (h : F73_1 R s0_0 n0_1 n0_2 b0_3 n1 n2_0 n2_1 s2_2 ds w) :
    TrL prog f73.ntmps [c73_0, c73_1, c73_2, c73_3, c73_4, c73_5, c73_6, c73_7] (F73_q1 R) E ds w :=
  TrL_leaf (X := F73_1 R s0_0 n0_1 n0_2 b0_3 n1 n2_0 n2_1 s2_2 ds w) (setAll_cons e0 (setAll_cons e1 (setAll_cons e2 setAll_nil))) (by kernel_rfl) (by kernel_rfl) h
theorem F73_calls (s0_0 : ByteArray) (n0_1 n0_2 : Int) (b0_3 : Bool) (n1 n2_0 n2_1 : Int) (s2_2 : ByteArray) (w : World) (R : Rt) (h : F73_1 R s0_0 n0_1 n0_2 b0_3 n1 n2_0 n2_1 s2_2 [] w) : Calls prog 73 #[.agg #[.string s0_0, .int .i64 n0_1, .int .i64 n0_2, .bool b0_3], .int .i64 n1, .agg #[.int .i64 n2_0, .int .i64 n2_1, .string s2_2]] w R :=
  calls_of_L (l := [c73_0, c73_1, c73_2, c73_3, c73_4, c73_5, c73_6, c73_7]) func73 (by kernel_rfl) (by rw [ntmps73]; exact Nat.le_of_ble_eq_true (by kernel_rfl)) c73_l
    (F73_1_ok R s0_0 n0_1 n0_2 b0_3 n1 n2_0 n2_1 s2_2 [] w _ rfl rfl rfl h)
noncomputable def c35_0 := cI9 f35 0
noncomputable def c35_1 := cI9 f35 1
noncomputable def c35_2 := cI9 f35 2
noncomputable def c35_3 := cI9 f35 3
noncomputable def c35_4 := cI9 f35 4
noncomputable def c35_5 := cI9 f35 5
noncomputable def c35_6 := cI9 f35 6
noncomputable def c35_7 := cI9 f35 7
noncomputable def c35_8 := cI9 f35 8
noncomputable def c35_9 := cI9 f35 9
noncomputable def c35_10 := cI9 f35 10
noncomputable def c35_11 := cI9 f35 11
noncomputable def c35_9_0 := cJ9 c35_9 0
noncomputable def c35_9_0_0 := cJ9 c35_9_0 0
noncomputable def c35_9_0_1 := cJ9 c35_9_0 1
noncomputable def c35_9_0_2 := cJ9 c35_9_0 2
noncomputable def c35_9_0_3 := cJ9 c35_9_0 3
def F35_q1 (R : Rt) : EQ := endQ prog f35.results.toList R
def F35_1 (R : Rt) (ds : Ds) (w : World) : Prop :=
 runD prog ds w fun w1 =>
 R (.returned (.int .i64 0)) w1
def F35_k2 (R : Rt) : EP := (fun E ds w => F35_1 R ds w)
def F35_q3 (R : Rt) : EQ := (thenQ (F35_k2 R) (F35_q1 R))
def F35_q4 (R : Rt) : EQ := (blockQ 0 (F35_q3 R))
def F35_q5 (R : Rt) (J1 : (Int) -> World -> Prop) : EQ := (thenQ (fun E _ w => dInt .i64 (E 4) fun n4 => J1 n4 w) (F35_q4 R))
def F35_2 (R : Rt) (J1 : (Int) -> World -> Prop) (p1 : Option Addr) (n4 : Int) (ds : Ds) (w : World) : Prop :=
 ptrE p1 fun a2 =>
 ∃ l22 : SV, w.cell? (a2.add 2) = some (.slice l22.a l22.len l22.cap) /\
 Br (decide (n4 < (l22.len : Int))) (
 dwE w fun w3 =>
 ptrE p1 fun a4 =>
 ∃ l28 : SV, w3.cell? (a4.add 1) = some (.slice l28.a l28.len l28.cap) /\
 ptrE p1 fun a5 =>
 ∃ n30 : Int, w3.cell? a5 = some (.int .i64 n30) /\
 ptrE p1 fun a6 =>
 ∃ l32 : SV, w3.cell? (a6.add 2) = some (.slice l32.a l32.len l32.cap) /\
 ∃ a7 : Addr, l32.a = some a7 /\ 0 ≤ n4 /\ n4 < (l32.len : Int) /\
 ∃ b35_0 : Bool, w3.cell? ((a7.add (n4.toNat * 2)).add 0) = some (.bool b35_0) /\
 ∃ l35_1 : SV, w3.cell? ((a7.add (n4.toNat * 2)).add 1) = some (.slice l35_1.a l35_1.len l35_1.cap) /\
 Calls prog 74 #[.slice l28.a l28.len l28.cap, .int .i64 n30, .agg #[.bool b35_0, .slice l35_1.a l35_1.len l35_1.cap]] w3 fun e w8 =>
 ∃ n36 : Int, e = .returned (.int .i64 n36) /\
 Br (n36 != 0) (
 runD prog ds w8 fun w9 =>
 R (.returned (.int .i64 n36)) w9) (
 J1 (IntKind.i64.wrap (n4 + 1)) w8)) (
 F35_1 R ds w)
def F35_3 (R : Rt) (p1 : Option Addr) (n4 : Int) (ds : Ds) (w : World) : Prop :=
 loopT (fun (J1 : (Int) -> World -> Prop) (s : Int) (w : World) => F35_2 R J1 p1 s ds w) n4 w
abbrev F35_4 (R : Rt) (p1 : Option Addr) (n4 : Int) (ds : Ds) (w : World) : Prop := F35_3 R p1 n4 ds w
def F35_k6 (R : Rt) : EP := (fun E ds w => dPtr (E 1) fun p1 => dInt .i64 (E 4) fun n4 => F35_4 R p1 n4 ds w)
def F35_5 (R : Rt) (n0_0 : Int) (l0_1 l0_2 : SV) (ds : Ds) (w : World) : Prop :=
 alE (.cells #[.int .i64 n0_0, .slice l0_1.a l0_1.len l0_1.cap, .slice l0_2.a l0_2.len l0_2.cap] 35) w fun r1 w10 =>
 ∃ n7 : Int, w10.cell? (⟨r1, 0, none⟩ : Addr) = some (.int .i64 n7) /\
 Calls prog 56 #[.int .i64 n7] w10 fun e w11 =>
 ∃ b8 : Bool, e = .returned (.bool b8) /\
 Br (!b8) (
 runD prog ds w11 fun w12 =>
 R (.returned (.int .i64 1)) w12) (
 ∃ l11 : SV, w11.cell? ((⟨r1, 0, none⟩ : Addr).add 1) = some (.slice l11.a l11.len l11.cap) /\
 Calls prog 37 #[.slice l11.a l11.len l11.cap] w11 fun e w13 =>
 ∃ n12 : Int, e = .returned (.int .i64 n12) /\
 Br (n12 != 0) (
 runD prog ds w13 fun w14 =>
 R (.returned (.int .i64 n12)) w14) (
 ∃ l17 : SV, w13.cell? ((⟨r1, 0, none⟩ : Addr).add 2) = some (.slice l17.a l17.len l17.cap) /\
 Br (decide ((l17.len : Int) > 300)) (
 runD prog ds w13 fun w15 =>
 R (.returned (.int .i64 3)) w15) (
 F35_4 R (some (⟨r1, 0, none⟩ : Addr)) 0 ds w13)))
theorem c35_l : flat (bodyOf f35) = [c35_0, c35_1, c35_2, c35_3, c35_4, c35_5, c35_6, c35_7, c35_8, c35_9, c35_10, c35_11] := by kernel_rfl
theorem c35_9_l : flat (innerC c35_9) = [c35_9_0] := by kernel_rfl
theorem c35_9_0_l : flat (innerC c35_9_0) = [c35_9_0_0, c35_9_0_1, c35_9_0_2, c35_9_0_3] := by kernel_rfl
theorem F35_1_ok (R : Rt) (ds : Ds) (w : World) (E : Env) (h : F35_1 R ds w) :
    TrL prog f35.ntmps [c35_10, c35_11] (F35_q1 R) E ds w :=
  TrL_leaf (X := F35_1 R ds w) setAll_nil (by kernel_rfl) (by kernel_rfl) h
theorem F35_2_ok (R : Rt) (J1 : (Int) -> World -> Prop) (p1 : Option Addr) (n4 : Int) (ds : Ds) (w : World) (E : Env) (e1 : E 1 = .pointer p1) (e4 : E 4 = .int .i64 n4) (h : F35_2 R J1 p1 n4 ds w) :
    TrL prog f35.ntmps [c35_9_0_0, c35_9_0_1, c35_9_0_2, c35_9_0_3] (F35_q5 R J1) E ds w :=
  TrL_leaf (X := F35_2 R J1 p1 n4 ds w) (setAll_cons e1 (setAll_cons e4 setAll_nil)) (by kernel_rfl) (by kernel_rfl) h
theorem F35_3_ok (R : Rt) (p1 : Option Addr) (n4 : Int) (ds : Ds) (w : World) (E : Env) (e1 : E 1 = .pointer p1) (e4 : E 4 = .int .i64 n4) (h : F35_3 R p1 n4 ds w) :
    TrL prog f35.ntmps [c35_9_0] (F35_q4 R) E ds w :=
  TrL_one (Tr_loop' (c := innerC c35_9_0) (σ := Int) (enc := (fun (s : Int) (E : Env) => E 4 = .int .i64 s)) (D := (fun E K => dInt .i64 (E 4) fun n4 => K n4)) (F := (fun (J1 : (Int) -> World -> Prop) (s : Int) (w : World) => F35_2 R J1 p1 s ds w)) (s0 := n4) (by kernel_rfl) c35_9_0_l e4 (by kernel_rfl) (fun E K hD => by obtain ⟨n4, e4, hD⟩ := dInt_elim hD; exact ⟨n4, e4, hD⟩)
      (fun J1 s E' w' he ha hF => by
      have e4' := he
      exact F35_2_ok R J1 p1 s ds w' E' ((ha 1 (by kernel_rfl)).trans e1) e4' hF) h)
theorem F35_4_ok (R : Rt) (p1 : Option Addr) (n4 : Int) (ds : Ds) (w : World) (E : Env) (e1 : E 1 = .pointer p1) (e4 : E 4 = .int .i64 n4) (h : F35_4 R p1 n4 ds w) :
    TrL prog f35.ntmps [c35_9, c35_10, c35_11] (F35_q1 R) E ds w :=
  TrL_head (K := (F35_k2 R)) (Tr_block' (c := innerC c35_9) (by kernel_rfl) c35_9_l (F35_3_ok R p1 n4 ds w E e1 e4 h))
    (fun E' ds' w' hD => by
      exact F35_1_ok R ds' w' E'  hD)
theorem F35_5_ok (R : Rt) (n0_0 : Int) (l0_1 l0_2 : SV) (ds : Ds) (w : World) (E : Env) (e0 : E 0 = .agg #[.int .i64 n0_0, .slice l0_1.a l0_1.len l0_1.cap, .slice l0_2.a l0_2.len l0_2.cap]) (h : F35_5 R n0_0 l0_1 l0_2 ds w) :
    TrL prog f35.ntmps [c35_0, c35_1, c35_2, c35_3, c35_4, c35_5, c35_6, c35_7, c35_8, c35_9, c35_10, c35_11] (F35_q1 R) E ds w :=
  TrL_piece (pre := [c35_0, c35_1, c35_2, c35_3, c35_4, c35_5, c35_6, c35_7, c35_8]) (K := (F35_k6 R)) (X := F35_5 R n0_0 l0_1 l0_2 ds w) (setAll_cons e0 setAll_nil) (by kernel_rfl) (by kernel_rfl)
    (fun E' ds' w' hD => by
      obtain ⟨p1, e1, hD⟩ := dPtr_elim hD; obtain ⟨n4, e4, hD⟩ := dInt_elim hD; exact F35_4_ok R p1 n4 ds' w' E' e1 e4 hD) h
theorem F35_calls (n0_0 : Int) (l0_1 l0_2 : SV) (w : World) (R : Rt) (h : F35_5 R n0_0 l0_1 l0_2 [] w) : Calls prog 35 #[.agg #[.int .i64 n0_0, .slice l0_1.a l0_1.len l0_1.cap, .slice l0_2.a l0_2.len l0_2.cap]] w R :=
  calls_of_L (l := [c35_0, c35_1, c35_2, c35_3, c35_4, c35_5, c35_6, c35_7, c35_8, c35_9, c35_10, c35_11]) func35 (by kernel_rfl) (by rw [ntmps35]; exact Nat.le_of_ble_eq_true (by kernel_rfl)) c35_l
    (F35_5_ok R n0_0 l0_1 l0_2 [] w _ rfl h)
noncomputable def c74_0 := cI9 f74 0
noncomputable def c74_1 := cI9 f74 1
noncomputable def c74_2 := cI9 f74 2
noncomputable def c74_3 := cI9 f74 3
noncomputable def c74_4 := cI9 f74 4
noncomputable def c74_5 := cI9 f74 5
noncomputable def c74_6 := cI9 f74 6
noncomputable def c74_4_0 := cJ9 c74_4 0
noncomputable def c74_4_0_0 := cJ9 c74_4_0 0
noncomputable def c74_4_0_1 := cJ9 c74_4_0 1
noncomputable def c74_4_0_2 := cJ9 c74_4_0 2
noncomputable def c74_4_0_3 := cJ9 c74_4_0 3
def F74_q1 (R : Rt) : EQ := endQ prog f74.results.toList R
def F74_1 (R : Rt) (ds : Ds) (w : World) : Prop :=
 runD prog ds w fun w1 =>
 R (.returned (.int .i64 0)) w1
def F74_k2 (R : Rt) : EP := (fun E ds w => F74_1 R ds w)
def F74_q3 (R : Rt) : EQ := (thenQ (F74_k2 R) (F74_q1 R))
def F74_q4 (R : Rt) : EQ := (blockQ 0 (F74_q3 R))
def F74_q5 (R : Rt) (J1 : (Int) -> World -> Prop) : EQ := (thenQ (fun E _ w => dInt .i64 (E 7) fun n7 => J1 n7 w) (F74_q4 R))
def F74_2 (R : Rt) (J1 : (Int) -> World -> Prop) (l0 : SV) (n1 : Int) (p5 : Option Addr) (n7 : Int) (ds : Ds) (w : World) : Prop :=
 Br (decide (n7 < (l0.len : Int))) (
 dwE w fun w2 =>
 ∃ a3 : Addr, l0.a = some a3 /\ 0 ≤ n7 /\ n7 < (l0.len : Int) /\
 ∃ s23_0 : ByteArray, w2.cell? ((a3.add (n7.toNat * 4)).add 0) = some (.string s23_0) /\
 ∃ n23_1 : Int, w2.cell? ((a3.add (n7.toNat * 4)).add 1) = some (.int .i64 n23_1) /\
 ∃ n23_2 : Int, w2.cell? ((a3.add (n7.toNat * 4)).add 2) = some (.int .i64 n23_2) /\
 ∃ b23_3 : Bool, w2.cell? ((a3.add (n7.toNat * 4)).add 3) = some (.bool b23_3) /\
 ptrE p5 fun a4 =>
 ∃ l26 : SV, w2.cell? (a4.add 1) = some (.slice l26.a l26.len l26.cap) /\
 ∃ a5 : Addr, l26.a = some a5 /\ 0 ≤ n7 /\ n7 < (l26.len : Int) /\
 ∃ n29_0 : Int, w2.cell? ((a5.add (n7.toNat * 3)).add 0) = some (.int .i64 n29_0) /\
 ∃ n29_1 : Int, w2.cell? ((a5.add (n7.toNat * 3)).add 1) = some (.int .i64 n29_1) /\
 ∃ s29_2 : ByteArray, w2.cell? ((a5.add (n7.toNat * 3)).add 2) = some (.string s29_2) /\
 Calls prog 105 #[.agg #[.string s23_0, .int .i64 n23_1, .int .i64 n23_2, .bool b23_3], .int .i64 n1, .agg #[.int .i64 n29_0, .int .i64 n29_1, .string s29_2]] w2 fun e w6 =>
 ∃ b30 : Bool, e = .returned (.bool b30) /\
 Br (!b30) (
 runD prog ds w6 fun w7 =>
 R (.returned (.int .i64 1)) w7) (
 J1 (IntKind.i64.wrap (n7 + 1)) w6)) (
 F74_1 R ds w)
def F74_3 (R : Rt) (l0 : SV) (n1 : Int) (p5 : Option Addr) (n7 : Int) (ds : Ds) (w : World) : Prop :=
 loopT (fun (J1 : (Int) -> World -> Prop) (s : Int) (w : World) => F74_2 R J1 l0 n1 p5 s ds w) n7 w
abbrev F74_4 (R : Rt) (l0 : SV) (n1 : Int) (p5 : Option Addr) (n7 : Int) (ds : Ds) (w : World) : Prop := F74_3 R l0 n1 p5 n7 ds w
def F74_k6 (R : Rt) : EP := (fun E ds w => dSl (E 0) fun l0 => dInt .i64 (E 1) fun n1 => dPtr (E 5) fun p5 => dInt .i64 (E 7) fun n7 => F74_4 R l0 n1 p5 n7 ds w)
def F74_5 (R : Rt) (l0 : SV) (n1 : Int) (b2_0 : Bool) (l2_1 : SV) (ds : Ds) (w : World) : Prop :=
 alE (.cells #[.bool b2_0, .slice l2_1.a l2_1.len l2_1.cap] 46) w fun r5 w8 =>
 ∃ l9 : SV, w8.cell? ((⟨r5, 0, none⟩ : Addr).add 1) = some (.slice l9.a l9.len l9.cap) /\
 Br ((l9.len : Int) != (l0.len : Int)) (
 runD prog ds w8 fun w9 =>
 R (.returned (.int .i64 10)) w9) (
 F74_4 R l0 n1 (some (⟨r5, 0, none⟩ : Addr)) 0 ds w8)
theorem c74_l : flat (bodyOf f74) = [c74_0, c74_1, c74_2, c74_3, c74_4, c74_5, c74_6] := by kernel_rfl
theorem c74_4_l : flat (innerC c74_4) = [c74_4_0] := by kernel_rfl
theorem c74_4_0_l : flat (innerC c74_4_0) = [c74_4_0_0, c74_4_0_1, c74_4_0_2, c74_4_0_3] := by kernel_rfl
theorem F74_1_ok (R : Rt) (ds : Ds) (w : World) (E : Env) (h : F74_1 R ds w) :
    TrL prog f74.ntmps [c74_5, c74_6] (F74_q1 R) E ds w :=
  TrL_leaf (X := F74_1 R ds w) setAll_nil (by kernel_rfl) (by kernel_rfl) h
theorem F74_2_ok (R : Rt) (J1 : (Int) -> World -> Prop) (l0 : SV) (n1 : Int) (p5 : Option Addr) (n7 : Int) (ds : Ds) (w : World) (E : Env) (e0 : E 0 = .slice l0.a l0.len l0.cap) (e1 : E 1 = .int .i64 n1) (e5 : E 5 = .pointer p5) (e7 : E 7 = .int .i64 n7) (h : F74_2 R J1 l0 n1 p5 n7 ds w) :
    TrL prog f74.ntmps [c74_4_0_0, c74_4_0_1, c74_4_0_2, c74_4_0_3] (F74_q5 R J1) E ds w :=
  TrL_leaf (X := F74_2 R J1 l0 n1 p5 n7 ds w) (setAll_cons e0 (setAll_cons e1 (setAll_cons e5 (setAll_cons e7 setAll_nil)))) (by kernel_rfl) (by kernel_rfl) h
theorem F74_3_ok (R : Rt) (l0 : SV) (n1 : Int) (p5 : Option Addr) (n7 : Int) (ds : Ds) (w : World) (E : Env) (e0 : E 0 = .slice l0.a l0.len l0.cap) (e1 : E 1 = .int .i64 n1) (e5 : E 5 = .pointer p5) (e7 : E 7 = .int .i64 n7) (h : F74_3 R l0 n1 p5 n7 ds w) :
    TrL prog f74.ntmps [c74_4_0] (F74_q4 R) E ds w :=
  TrL_one (Tr_loop' (c := innerC c74_4_0) (σ := Int) (enc := (fun (s : Int) (E : Env) => E 7 = .int .i64 s)) (D := (fun E K => dInt .i64 (E 7) fun n7 => K n7)) (F := (fun (J1 : (Int) -> World -> Prop) (s : Int) (w : World) => F74_2 R J1 l0 n1 p5 s ds w)) (s0 := n7) (by kernel_rfl) c74_4_0_l e7 (by kernel_rfl) (fun E K hD => by obtain ⟨n7, e7, hD⟩ := dInt_elim hD; exact ⟨n7, e7, hD⟩)
      (fun J1 s E' w' he ha hF => by
      have e7' := he
      exact F74_2_ok R J1 l0 n1 p5 s ds w' E' ((ha 0 (by kernel_rfl)).trans e0) ((ha 1 (by kernel_rfl)).trans e1) ((ha 5 (by kernel_rfl)).trans e5) e7' hF) h)
theorem F74_4_ok (R : Rt) (l0 : SV) (n1 : Int) (p5 : Option Addr) (n7 : Int) (ds : Ds) (w : World) (E : Env) (e0 : E 0 = .slice l0.a l0.len l0.cap) (e1 : E 1 = .int .i64 n1) (e5 : E 5 = .pointer p5) (e7 : E 7 = .int .i64 n7) (h : F74_4 R l0 n1 p5 n7 ds w) :
    TrL prog f74.ntmps [c74_4, c74_5, c74_6] (F74_q1 R) E ds w :=
  TrL_head (K := (F74_k2 R)) (Tr_block' (c := innerC c74_4) (by kernel_rfl) c74_4_l (F74_3_ok R l0 n1 p5 n7 ds w E e0 e1 e5 e7 h))
    (fun E' ds' w' hD => by
      exact F74_1_ok R ds' w' E'  hD)
theorem F74_5_ok (R : Rt) (l0 : SV) (n1 : Int) (b2_0 : Bool) (l2_1 : SV) (ds : Ds) (w : World) (E : Env) (e0 : E 0 = .slice l0.a l0.len l0.cap) (e1 : E 1 = .int .i64 n1) (e2 : E 2 = .agg #[.bool b2_0, .slice l2_1.a l2_1.len l2_1.cap]) (h : F74_5 R l0 n1 b2_0 l2_1 ds w) :
    TrL prog f74.ntmps [c74_0, c74_1, c74_2, c74_3, c74_4, c74_5, c74_6] (F74_q1 R) E ds w :=
  TrL_piece (pre := [c74_0, c74_1, c74_2, c74_3]) (K := (F74_k6 R)) (X := F74_5 R l0 n1 b2_0 l2_1 ds w) (setAll_cons e0 (setAll_cons e1 (setAll_cons e2 setAll_nil))) (by kernel_rfl) (by kernel_rfl)
    (fun E' ds' w' hD => by
      obtain ⟨l0, e0, hD⟩ := dSl_elim hD; obtain ⟨n1, e1, hD⟩ := dInt_elim hD; obtain ⟨p5, e5, hD⟩ := dPtr_elim hD; obtain ⟨n7, e7, hD⟩ := dInt_elim hD; exact F74_4_ok R l0 n1 p5 n7 ds' w' E' e0 e1 e5 e7 hD) h
theorem F74_calls (l0 : SV) (n1 : Int) (b2_0 : Bool) (l2_1 : SV) (w : World) (R : Rt) (h : F74_5 R l0 n1 b2_0 l2_1 [] w) : Calls prog 74 #[.slice l0.a l0.len l0.cap, .int .i64 n1, .agg #[.bool b2_0, .slice l2_1.a l2_1.len l2_1.cap]] w R :=
  calls_of_L (l := [c74_0, c74_1, c74_2, c74_3, c74_4, c74_5, c74_6]) func74 (by kernel_rfl) (by rw [ntmps74]; exact Nat.le_of_ble_eq_true (by kernel_rfl)) c74_l
    (F74_5_ok R l0 n1 b2_0 l2_1 [] w _ rfl rfl rfl h)
end Go.Proofs.YtecmfdfhpldmmaaGreatDoor

/- Shallow texts of functions, printed by program, each checked by the kernel against the loaded code. No condition. -/
set_option maxRecDepth 100000
set_option linter.unusedVariables false
namespace Go.Proofs.YtecmfdfhpldmmaaGreatDoor
open Go.Sh
open Tryz
@[reducible] noncomputable def cI10 (f : Func) (i : Nat) : Code := itemAt (flat (bodyOf f)) i
@[reducible] noncomputable def cJ10 (c : Code) (i : Nat) : Code := itemAt (flat (innerC c)) i
noncomputable def c19_0 := cI10 f19 0
noncomputable def c19_1 := cI10 f19 1
noncomputable def c19_2 := cI10 f19 2
noncomputable def c19_3 := cI10 f19 3
noncomputable def c19_4 := cI10 f19 4
noncomputable def c19_5 := cI10 f19 5
def F19_q1 (R : Rt) : EQ := endQ prog f19.results.toList R
def F19_1 (R : Rt) (n0_0 : Int) (l0_1 l0_2 : SV) (ds : Ds) (w : World) : Prop :=
 alE (.cells #[.int .i64 n0_0, .slice l0_1.a l0_1.len l0_1.cap, .slice l0_2.a l0_2.len l0_2.cap] 35) w fun r1 w1 =>
 ∃ n5_0 : Int, w1.cell? ((⟨r1, 0, none⟩ : Addr).add 0) = some (.int .i64 n5_0) /\
 ∃ l5_1 : SV, w1.cell? ((⟨r1, 0, none⟩ : Addr).add 1) = some (.slice l5_1.a l5_1.len l5_1.cap) /\
 ∃ l5_2 : SV, w1.cell? ((⟨r1, 0, none⟩ : Addr).add 2) = some (.slice l5_2.a l5_2.len l5_2.cap) /\
 Calls prog 34 #[.agg #[.int .i64 n5_0, .slice l5_1.a l5_1.len l5_1.cap, .slice l5_2.a l5_2.len l5_2.cap]] w1 fun e w2 =>
 ∃ n6 : Int, e = .returned (.int .i64 n6) /\
 Br (n6 != 0) (
 runD prog ds w2 fun w3 =>
 R (.returned (.tuple #[.slice none 0 0, .int .i64 n6])) w3) (
 ∃ n10_0 : Int, w2.cell? ((⟨r1, 0, none⟩ : Addr).add 0) = some (.int .i64 n10_0) /\
 ∃ l10_1 : SV, w2.cell? ((⟨r1, 0, none⟩ : Addr).add 1) = some (.slice l10_1.a l10_1.len l10_1.cap) /\
 ∃ l10_2 : SV, w2.cell? ((⟨r1, 0, none⟩ : Addr).add 2) = some (.slice l10_2.a l10_2.len l10_2.cap) /\
 Calls prog 62 #[.agg #[.int .i64 n10_0, .slice l10_1.a l10_1.len l10_1.cap, .slice l10_2.a l10_2.len l10_2.cap]] w2 fun e w4 =>
 ∃ l11 : SV, e = .returned (.slice l11.a l11.len l11.cap) /\
 runD prog ds w4 fun w5 =>
 R (.returned (.tuple #[.slice l11.a l11.len l11.cap, .int .i64 0])) w5)
theorem c19_l : flat (bodyOf f19) = [c19_0, c19_1, c19_2, c19_3, c19_4, c19_5] := by kernel_rfl
theorem F19_1_ok (R : Rt) (n0_0 : Int) (l0_1 l0_2 : SV) (ds : Ds) (w : World) (E : Env) (e0 : E 0 = .agg #[.int .i64 n0_0, .slice l0_1.a l0_1.len l0_1.cap, .slice l0_2.a l0_2.len l0_2.cap]) (h : F19_1 R n0_0 l0_1 l0_2 ds w) :
    TrL prog f19.ntmps [c19_0, c19_1, c19_2, c19_3, c19_4, c19_5] (F19_q1 R) E ds w :=
  TrL_leaf (X := F19_1 R n0_0 l0_1 l0_2 ds w) (setAll_cons e0 setAll_nil) (by kernel_rfl) (by kernel_rfl) h
theorem F19_calls (n0_0 : Int) (l0_1 l0_2 : SV) (w : World) (R : Rt) (h : F19_1 R n0_0 l0_1 l0_2 [] w) : Calls prog 19 #[.agg #[.int .i64 n0_0, .slice l0_1.a l0_1.len l0_1.cap, .slice l0_2.a l0_2.len l0_2.cap]] w R :=
  calls_of_L (l := [c19_0, c19_1, c19_2, c19_3, c19_4, c19_5]) func19 (by kernel_rfl) (by rw [ntmps19]; exact Nat.le_of_ble_eq_true (by kernel_rfl)) c19_l
    (F19_1_ok R n0_0 l0_1 l0_2 [] w _ rfl h)
noncomputable def c62_0 := cI10 f62 0
noncomputable def c62_1 := cI10 f62 1
noncomputable def c62_2 := cI10 f62 2
noncomputable def c62_3 := cI10 f62 3
noncomputable def c62_4 := cI10 f62 4
noncomputable def c62_5 := cI10 f62 5
noncomputable def c62_6 := cI10 f62 6
noncomputable def c62_7 := cI10 f62 7
noncomputable def c62_8 := cI10 f62 8
noncomputable def c62_6_0 := cJ10 c62_6 0
noncomputable def c62_6_0_0 := cJ10 c62_6_0 0
noncomputable def c62_6_0_1 := cJ10 c62_6_0 1
noncomputable def c62_6_0_2 := cJ10 c62_6_0 2
noncomputable def c62_6_0_3 := cJ10 c62_6_0 3
def F62_q1 (R : Rt) : EQ := endQ prog f62.results.toList R
def F62_1 (R : Rt) (l3 : SV) (ds : Ds) (w : World) : Prop :=
 alE (.cells #[.int .u8 13] 5) w fun r65 w1 =>
 ∃ l66 : SV, ∃ w2 : World, (Builtin.append_ #[37, 37] 37 #[.slice l3.a l3.len l3.cap, .slice (some ⟨r65, 0, none⟩) 1 1]).run prog w1 = .ok (.slice l66.a l66.len l66.cap) w2 /\
 runD prog ds w2 fun w3 =>
 R (.returned (.slice l66.a l66.len l66.cap)) w3
def F62_k2 (R : Rt) : EP := (fun E ds w => dSl (E 3) fun l3 => F62_1 R l3 ds w)
def F62_q3 (R : Rt) : EQ := (thenQ (F62_k2 R) (F62_q1 R))
def F62_q4 (R : Rt) : EQ := (blockQ 0 (F62_q3 R))
def F62_q5 (R : Rt) (J1 : (SV × Int) -> World -> Prop) : EQ := (thenQ (fun E _ w => dSl (E 3) fun l3 => dInt .i64 (E 39) fun n39 => J1 (l3, n39) w) (F62_q4 R))
def F62_2 (R : Rt) (J1 : (SV × Int) -> World -> Prop) (l3 l37 : SV) (n38 n39 : Int) (ds : Ds) (w : World) : Prop :=
 Br (decide (n39 < n38)) (
 ∃ a4 : Addr, l37.a = some a4 /\ 0 ≤ n39 /\ n39 < (l37.len : Int) /\
 ∃ s42_0 : ByteArray, w.cell? ((a4.add (n39.toNat * 4)).add 0) = some (.string s42_0) /\
 ∃ n42_1 : Int, w.cell? ((a4.add (n39.toNat * 4)).add 1) = some (.int .i64 n42_1) /\
 ∃ n42_2 : Int, w.cell? ((a4.add (n39.toNat * 4)).add 2) = some (.int .i64 n42_2) /\
 ∃ b42_3 : Bool, w.cell? ((a4.add (n39.toNat * 4)).add 3) = some (.bool b42_3) /\
 alE (.cells #[.string (⟨#[]⟩ : ByteArray), .int .i64 0, .int .i64 0, .bool false] 23) w fun r5 w5 =>
 stA prog 23 (⟨r5, 0, none⟩ : Addr) #[.string s42_0, .int .i64 n42_1, .int .i64 n42_2, .bool b42_3] w5 fun w6 =>
 alE (.cells #[.int .u8 0, .int .u8 0, .int .u8 0, .int .u8 0, .int .u8 0, .int .u8 0, .int .u8 0, .int .u8 0, .int .u8 0, .int .u8 0, .int .u8 0, .int .u8 0, .int .u8 0, .int .u8 0, .int .u8 0, .int .u8 0] 123) w6 fun r6 w7 =>
 dwE w7 fun w8 =>
 ∃ S1 : World -> Prop, S1 w8 /\
 ∃ s45 : ByteArray, (∀ w', S1 w' -> w'.cell? (⟨r5, 0, none⟩ : Addr) = some (.string s45)) /\
 ∃ l43 : SV, ∃ w9 : World, (Instr.sliceAt 123 (.pointer (some (⟨r6, 0, none⟩ : Addr))) none (some (.int .i64 10)) (some (.int .i64 10))).run prog w8 = .ok (.slice l43.a l43.len l43.cap) w9 /\
 S1 w9 /\
 ∃ n46 : Int, ∃ w10 : World, (Builtin.copy_ #[37, 9] 3 #[.slice l43.a l43.len l43.cap, .string s45]).run prog w9 = .ok (.int .i64 n46) w10 /\
 dwE w10 fun w11 =>
 ∃ S2 : World -> Prop, S2 w11 /\
 ∃ n49 : Int, (∀ w', S2 w' -> w'.cell? ((⟨r5, 0, none⟩ : Addr).add 1) = some (.int .i64 n49)) /\
 ∃ n53 : Int, (∀ w', S2 w' -> w'.cell? ((⟨r5, 0, none⟩ : Addr).add 2) = some (.int .i64 n53)) /\
 Calls prog 89 #[] w11 fun e w12 =>
 ∃ m47 : Option Nat, e = .returned (.map m47) /\
 ∃ S3 : World -> Prop, S3 w12 /\ (∀ u, S3 u -> S2 u) /\
 ∃ n50_0 : Int, ∃ n50_1 : Int, ∃ n50_2 : Int, ∃ v50_3 : Value, ∃ v50_4 : Value, (∀ w', S3 w' -> (Instr.lookup 104 (.map m47) (.int .i64 n49) false).run prog w' = .ok (.agg #[.int .u8 n50_0, .int .i64 n50_1, .int .i64 n50_2, v50_3, v50_4]) w') /\
 0 ≤ (10 : Int) /\ (10 : Int) < (16 : Int) /\
 st1 ((⟨r6, 0, none⟩ : Addr).add ((10 : Int).toNat * 1)) (.int .u8 n50_0) w12 fun w13 =>
 ∃ S4 : World -> Prop, S4 w13 /\ (∀ u, S4 u -> S3 u) /\
 0 ≤ (11 : Int) /\ (11 : Int) < (16 : Int) /\
 st1 ((⟨r6, 0, none⟩ : Addr).add ((11 : Int).toNat * 1)) (.int .u8 (IntKind.u8.wrap n53)) w13 fun w14 =>
 ∃ b58 : Bool, w14.cell? ((⟨r5, 0, none⟩ : Addr).add 3) = some (.bool b58) /\
 Br b58 (
 0 ≤ (12 : Int) /\ (12 : Int) < (16 : Int) /\
 st1 ((⟨r6, 0, none⟩ : Addr).add ((12 : Int).toNat * 1)) (.int .u8 1) w14 fun w15 =>
 16 ≤ 16 /\ 0 ≤ 16 /\
 ∃ l62 : SV, ∃ w16 : World, (Builtin.append_ #[37, 37] 37 #[.slice l3.a l3.len l3.cap, .slice (some (if 16 = 0 then (⟨r6, 0, none⟩ : Addr) else (⟨r6, 0, none⟩ : Addr).add (0 * 1))) (16 - 0) (16 - 0)]).run prog w15 = .ok (.slice l62.a l62.len l62.cap) w16 /\
 J1 (l62, (IntKind.i64.wrap (n39 + 1))) w16) (
 16 ≤ 16 /\ 0 ≤ 16 /\
 ∃ l62 : SV, ∃ w17 : World, (Builtin.append_ #[37, 37] 37 #[.slice l3.a l3.len l3.cap, .slice (some (if 16 = 0 then (⟨r6, 0, none⟩ : Addr) else (⟨r6, 0, none⟩ : Addr).add (0 * 1))) (16 - 0) (16 - 0)]).run prog w14 = .ok (.slice l62.a l62.len l62.cap) w17 /\
 J1 (l62, (IntKind.i64.wrap (n39 + 1))) w17)) (
 F62_1 R l3 ds w)
def F62_3 (R : Rt) (l3 l37 : SV) (n38 n39 : Int) (ds : Ds) (w : World) : Prop :=
 loopT (fun (J1 : (SV × Int) -> World -> Prop) (s : SV × Int) (w : World) => F62_2 R J1 s.1 l37 n38 s.2 ds w) (l3, n39) w
abbrev F62_4 (R : Rt) (l3 l37 : SV) (n38 n39 : Int) (ds : Ds) (w : World) : Prop := F62_3 R l3 l37 n38 n39 ds w
def F62_k6 (R : Rt) : EP := (fun E ds w => dSl (E 3) fun l3 => dSl (E 37) fun l37 => dInt .i64 (E 38) fun n38 => dInt .i64 (E 39) fun n39 => F62_4 R l3 l37 n38 n39 ds w)
def F62_5 (R : Rt) (n0_0 : Int) (l0_1 l0_2 : SV) (ds : Ds) (w : World) : Prop :=
 alE (.cells #[.int .i64 n0_0, .slice l0_1.a l0_1.len l0_1.cap, .slice l0_2.a l0_2.len l0_2.cap] 35) w fun r1 w18 =>
 dwE w18 fun w19 =>
 ∃ S5 : World -> Prop, S5 w19 /\
 ∃ n8 : Int, (∀ w', S5 w' -> w'.cell? (⟨r1, 0, none⟩ : Addr) = some (.int .i64 n8)) /\
 ∃ l12 : SV, (∀ w', S5 w' -> w'.cell? ((⟨r1, 0, none⟩ : Addr).add 2) = some (.slice l12.a l12.len l12.cap)) /\
 (
 alE (.cells #[.int .u8 67, .int .u8 (IntKind.u8.wrap n8)] 5) w19 fun r10 w20 =>
 S5 w20 /\
 Calls prog 109 #[.int .i64 (l12.len : Int), .int .i64 4] w20 fun e w21 =>
 ∃ l14 : SV, e = .returned (.slice l14.a l14.len l14.cap) /\
 S5 w21 /\
 ∃ l15 : SV, ∃ w22 : World, (Builtin.append_ #[37, 37] 37 #[.slice (some ⟨r10, 0, none⟩) 2 2, .slice l14.a l14.len l14.cap]).run prog w21 = .ok (.slice l15.a l15.len l15.cap) w22 /\
 ∃ l18 : SV, w22.cell? ((⟨r1, 0, none⟩ : Addr).add 1) = some (.slice l18.a l18.len l18.cap) /\
 Calls prog 110 #[.int .i64 (l18.len : Int)] w22 fun e w23 =>
 ∃ n20 : Int, e = .returned (.int .i64 n20) /\
 Calls prog 109 #[.int .i64 n20, .int .i64 2] w23 fun e w24 =>
 ∃ l21 : SV, e = .returned (.slice l21.a l21.len l21.cap) /\
 ∃ l22 : SV, ∃ w25 : World, (Builtin.append_ #[37, 37] 37 #[.slice l15.a l15.len l15.cap, .slice l21.a l21.len l21.cap]).run prog w24 = .ok (.slice l22.a l22.len l22.cap) w25 /\
 ∃ l25 : SV, w25.cell? ((⟨r1, 0, none⟩ : Addr).add 1) = some (.slice l25.a l25.len l25.cap) /\
 Calls prog 69 #[.slice l25.a l25.len l25.cap] w25 fun e w26 =>
 ∃ n26 : Int, e = .returned (.int .i64 n26) /\
 Calls prog 109 #[.int .i64 n26, .int .i64 2] w26 fun e w27 =>
 ∃ l27 : SV, e = .returned (.slice l27.a l27.len l27.cap) /\
 ∃ l28 : SV, ∃ w28 : World, (Builtin.append_ #[37, 37] 37 #[.slice l22.a l22.len l22.cap, .slice l27.a l27.len l27.cap]).run prog w27 = .ok (.slice l28.a l28.len l28.cap) w28 /\
 ∃ l31 : SV, w28.cell? ((⟨r1, 0, none⟩ : Addr).add 1) = some (.slice l31.a l31.len l31.cap) /\
 alE (.cells #[.int .u8 (IntKind.u8.wrap (l31.len : Int)), .int .u8 0] 5) w28 fun r34 w29 =>
 ∃ l35 : SV, ∃ w30 : World, (Builtin.append_ #[37, 37] 37 #[.slice l28.a l28.len l28.cap, .slice (some ⟨r34, 0, none⟩) 2 2]).run prog w29 = .ok (.slice l35.a l35.len l35.cap) w30 /\
 ∃ l37 : SV, w30.cell? ((⟨r1, 0, none⟩ : Addr).add 1) = some (.slice l37.a l37.len l37.cap) /\
 F62_4 R l35 l37 (l37.len : Int) 0 ds w30) /\ (
 Calls prog 109 #[.int .i64 (l12.len : Int), .int .i64 4] w19 fun e w31 =>
 ∃ l14 : SV, e = .returned (.slice l14.a l14.len l14.cap) /\
 S5 w31 /\
 alE (.cells #[.int .u8 67, .int .u8 (IntKind.u8.wrap n8)] 5) w31 fun r10 w32 =>
 S5 w32 /\
 ∃ l15 : SV, ∃ w33 : World, (Builtin.append_ #[37, 37] 37 #[.slice (some ⟨r10, 0, none⟩) 2 2, .slice l14.a l14.len l14.cap]).run prog w32 = .ok (.slice l15.a l15.len l15.cap) w33 /\
 ∃ l18 : SV, w33.cell? ((⟨r1, 0, none⟩ : Addr).add 1) = some (.slice l18.a l18.len l18.cap) /\
 Calls prog 110 #[.int .i64 (l18.len : Int)] w33 fun e w34 =>
 ∃ n20 : Int, e = .returned (.int .i64 n20) /\
 Calls prog 109 #[.int .i64 n20, .int .i64 2] w34 fun e w35 =>
 ∃ l21 : SV, e = .returned (.slice l21.a l21.len l21.cap) /\
 ∃ l22 : SV, ∃ w36 : World, (Builtin.append_ #[37, 37] 37 #[.slice l15.a l15.len l15.cap, .slice l21.a l21.len l21.cap]).run prog w35 = .ok (.slice l22.a l22.len l22.cap) w36 /\
 ∃ l25 : SV, w36.cell? ((⟨r1, 0, none⟩ : Addr).add 1) = some (.slice l25.a l25.len l25.cap) /\
 Calls prog 69 #[.slice l25.a l25.len l25.cap] w36 fun e w37 =>
 ∃ n26 : Int, e = .returned (.int .i64 n26) /\
 Calls prog 109 #[.int .i64 n26, .int .i64 2] w37 fun e w38 =>
 ∃ l27 : SV, e = .returned (.slice l27.a l27.len l27.cap) /\
 ∃ l28 : SV, ∃ w39 : World, (Builtin.append_ #[37, 37] 37 #[.slice l22.a l22.len l22.cap, .slice l27.a l27.len l27.cap]).run prog w38 = .ok (.slice l28.a l28.len l28.cap) w39 /\
 ∃ l31 : SV, w39.cell? ((⟨r1, 0, none⟩ : Addr).add 1) = some (.slice l31.a l31.len l31.cap) /\
 alE (.cells #[.int .u8 (IntKind.u8.wrap (l31.len : Int)), .int .u8 0] 5) w39 fun r34 w40 =>
 ∃ l35 : SV, ∃ w41 : World, (Builtin.append_ #[37, 37] 37 #[.slice l28.a l28.len l28.cap, .slice (some ⟨r34, 0, none⟩) 2 2]).run prog w40 = .ok (.slice l35.a l35.len l35.cap) w41 /\
 ∃ l37 : SV, w41.cell? ((⟨r1, 0, none⟩ : Addr).add 1) = some (.slice l37.a l37.len l37.cap) /\
 F62_4 R l35 l37 (l37.len : Int) 0 ds w41)
theorem c62_l : flat (bodyOf f62) = [c62_0, c62_1, c62_2, c62_3, c62_4, c62_5, c62_6, c62_7, c62_8] := by kernel_rfl
theorem c62_6_l : flat (innerC c62_6) = [c62_6_0] := by kernel_rfl
theorem c62_6_0_l : flat (innerC c62_6_0) = [c62_6_0_0, c62_6_0_1, c62_6_0_2, c62_6_0_3] := by kernel_rfl
theorem F62_1_ok (R : Rt) (l3 : SV) (ds : Ds) (w : World) (E : Env) (e3 : E 3 = .slice l3.a l3.len l3.cap) (h : F62_1 R l3 ds w) :
    TrL prog f62.ntmps [c62_7, c62_8] (F62_q1 R) E ds w :=
  TrL_leaf (X := F62_1 R l3 ds w) (setAll_cons e3 setAll_nil) (by kernel_rfl) (by kernel_rfl) h
theorem F62_2_ok (R : Rt) (J1 : (SV × Int) -> World -> Prop) (l3 l37 : SV) (n38 n39 : Int) (ds : Ds) (w : World) (E : Env) (e3 : E 3 = .slice l3.a l3.len l3.cap) (e37 : E 37 = .slice l37.a l37.len l37.cap) (e38 : E 38 = .int .i64 n38) (e39 : E 39 = .int .i64 n39) (h : F62_2 R J1 l3 l37 n38 n39 ds w) :
    TrL prog f62.ntmps [c62_6_0_0, c62_6_0_1, c62_6_0_2, c62_6_0_3] (F62_q5 R J1) E ds w :=
  TrL_leaf (X := F62_2 R J1 l3 l37 n38 n39 ds w) (setAll_cons e3 (setAll_cons e37 (setAll_cons e38 (setAll_cons e39 setAll_nil)))) (by kernel_rfl) (by kernel_rfl) h
theorem F62_3_ok (R : Rt) (l3 l37 : SV) (n38 n39 : Int) (ds : Ds) (w : World) (E : Env) (e3 : E 3 = .slice l3.a l3.len l3.cap) (e37 : E 37 = .slice l37.a l37.len l37.cap) (e38 : E 38 = .int .i64 n38) (e39 : E 39 = .int .i64 n39) (h : F62_3 R l3 l37 n38 n39 ds w) :
    TrL prog f62.ntmps [c62_6_0] (F62_q4 R) E ds w :=
  TrL_one (Tr_loop' (c := innerC c62_6_0) (σ := SV × Int) (enc := (fun (s : SV × Int) (E : Env) => E 3 = .slice s.1.a s.1.len s.1.cap /\ E 39 = .int .i64 s.2)) (D := (fun E K => dSl (E 3) fun l3 => dInt .i64 (E 39) fun n39 => K (l3, n39))) (F := (fun (J1 : (SV × Int) -> World -> Prop) (s : SV × Int) (w : World) => F62_2 R J1 s.1 l37 n38 s.2 ds w)) (s0 := (l3, n39)) (by kernel_rfl) c62_6_0_l ⟨e3, e39⟩ (by kernel_rfl) (fun E K hD => by obtain ⟨l3, e3, hD⟩ := dSl_elim hD; obtain ⟨n39, e39, hD⟩ := dInt_elim hD; exact ⟨(l3, n39), ⟨e3, e39⟩, hD⟩)
      (fun J1 s E' w' he ha hF => by
      obtain ⟨e3', e39'⟩ := he
      exact F62_2_ok R J1 s.1 l37 n38 s.2 ds w' E' e3' ((ha 37 (by kernel_rfl)).trans e37) ((ha 38 (by kernel_rfl)).trans e38) e39' hF) h)
theorem F62_4_ok (R : Rt) (l3 l37 : SV) (n38 n39 : Int) (ds : Ds) (w : World) (E : Env) (e3 : E 3 = .slice l3.a l3.len l3.cap) (e37 : E 37 = .slice l37.a l37.len l37.cap) (e38 : E 38 = .int .i64 n38) (e39 : E 39 = .int .i64 n39) (h : F62_4 R l3 l37 n38 n39 ds w) :
    TrL prog f62.ntmps [c62_6, c62_7, c62_8] (F62_q1 R) E ds w :=
  TrL_head (K := (F62_k2 R)) (Tr_block' (c := innerC c62_6) (by kernel_rfl) c62_6_l (F62_3_ok R l3 l37 n38 n39 ds w E e3 e37 e38 e39 h))
    (fun E' ds' w' hD => by
      obtain ⟨l3, e3, hD⟩ := dSl_elim hD; exact F62_1_ok R l3 ds' w' E' e3 hD)
theorem F62_5_ok (R : Rt) (n0_0 : Int) (l0_1 l0_2 : SV) (ds : Ds) (w : World) (E : Env) (e0 : E 0 = .agg #[.int .i64 n0_0, .slice l0_1.a l0_1.len l0_1.cap, .slice l0_2.a l0_2.len l0_2.cap]) (h : F62_5 R n0_0 l0_1 l0_2 ds w) :
    TrL prog f62.ntmps [c62_0, c62_1, c62_2, c62_3, c62_4, c62_5, c62_6, c62_7, c62_8] (F62_q1 R) E ds w :=
  TrL_piece (pre := [c62_0, c62_1, c62_2, c62_3, c62_4, c62_5]) (K := (F62_k6 R)) (X := F62_5 R n0_0 l0_1 l0_2 ds w) (setAll_cons e0 setAll_nil) (by kernel_rfl) (by kernel_rfl)
    (fun E' ds' w' hD => by
      obtain ⟨l3, e3, hD⟩ := dSl_elim hD; obtain ⟨l37, e37, hD⟩ := dSl_elim hD; obtain ⟨n38, e38, hD⟩ := dInt_elim hD; obtain ⟨n39, e39, hD⟩ := dInt_elim hD; exact F62_4_ok R l3 l37 n38 n39 ds' w' E' e3 e37 e38 e39 hD) h
theorem F62_calls (n0_0 : Int) (l0_1 l0_2 : SV) (w : World) (R : Rt) (h : F62_5 R n0_0 l0_1 l0_2 [] w) : Calls prog 62 #[.agg #[.int .i64 n0_0, .slice l0_1.a l0_1.len l0_1.cap, .slice l0_2.a l0_2.len l0_2.cap]] w R :=
  calls_of_L (l := [c62_0, c62_1, c62_2, c62_3, c62_4, c62_5, c62_6, c62_7, c62_8]) func62 (by kernel_rfl) (by rw [ntmps62]; exact Nat.le_of_ble_eq_true (by kernel_rfl)) c62_l
    (F62_5_ok R n0_0 l0_1 l0_2 [] w _ rfl h)
noncomputable def c109_0 := cI10 f109 0
noncomputable def c109_1 := cI10 f109 1
noncomputable def c109_2 := cI10 f109 2
noncomputable def c109_3 := cI10 f109 3
noncomputable def c109_4 := cI10 f109 4
noncomputable def c109_5 := cI10 f109 5
noncomputable def c109_3_0 := cJ10 c109_3 0
noncomputable def c109_3_0_0 := cJ10 c109_3_0 0
noncomputable def c109_3_0_1 := cJ10 c109_3_0 1
noncomputable def c109_3_0_2 := cJ10 c109_3_0 2
noncomputable def c109_3_0_3 := cJ10 c109_3_0 3
def F109_q1 (R : Rt) : EQ := endQ prog f109.results.toList R
def F109_1 (R : Rt) (l5 : SV) (ds : Ds) (w : World) : Prop :=
 runD prog ds w fun w1 =>
 R (.returned (.slice l5.a l5.len l5.cap)) w1
def F109_k2 (R : Rt) : EP := (fun E ds w => dSl (E 5) fun l5 => F109_1 R l5 ds w)
def F109_q3 (R : Rt) : EQ := (thenQ (F109_k2 R) (F109_q1 R))
def F109_q4 (R : Rt) : EQ := (blockQ 0 (F109_q3 R))
def F109_q5 (R : Rt) (J1 : (Int × SV × Int) -> World -> Prop) : EQ := (thenQ (fun E _ w => dInt .i64 (E 0) fun n0 => dSl (E 5) fun l5 => dInt .i64 (E 7) fun n7 => J1 (n0, l5, n7) w) (F109_q4 R))
def F109_2 (R : Rt) (J1 : (Int × SV × Int) -> World -> Prop) (n0 : Int) (l5 : SV) (n6 n7 : Int) (ds : Ds) (w : World) : Prop :=
 Br (decide (n7 < n6)) (
 alE (.cells #[.int .u8 (IntKind.u8.wrap n0)] 5) w fun r12 w2 =>
 ∃ l13 : SV, ∃ w3 : World, (Builtin.append_ #[37, 37] 37 #[.slice l5.a l5.len l5.cap, .slice (some ⟨r12, 0, none⟩) 1 1]).run prog w2 = .ok (.slice l13.a l13.len l13.cap) w3 /\
 0 ≤ (8 : Int) /\
 J1 ((n0.fdiv (2 ^ 8)), l13, (IntKind.i64.wrap (n7 + 1))) w3) (
 F109_1 R l5 ds w)
def F109_3 (R : Rt) (n0 : Int) (l5 : SV) (n6 n7 : Int) (ds : Ds) (w : World) : Prop :=
 loopT (fun (J1 : (Int × SV × Int) -> World -> Prop) (s : Int × SV × Int) (w : World) => F109_2 R J1 s.1 s.2.1 n6 s.2.2 ds w) (n0, l5, n7) w
abbrev F109_4 (R : Rt) (n0 : Int) (l5 : SV) (n6 n7 : Int) (ds : Ds) (w : World) : Prop := F109_3 R n0 l5 n6 n7 ds w
def F109_k6 (R : Rt) : EP := (fun E ds w => dInt .i64 (E 0) fun n0 => dSl (E 5) fun l5 => dInt .i64 (E 6) fun n6 => dInt .i64 (E 7) fun n7 => F109_4 R n0 l5 n6 n7 ds w)
def F109_5 (R : Rt) (n0 n1 : Int) (ds : Ds) (w : World) : Prop :=
 F109_4 R n0 ⟨none, 0, 0⟩ n1 0 ds w
theorem c109_l : flat (bodyOf f109) = [c109_0, c109_1, c109_2, c109_3, c109_4, c109_5] := by kernel_rfl
theorem c109_3_l : flat (innerC c109_3) = [c109_3_0] := by kernel_rfl
theorem c109_3_0_l : flat (innerC c109_3_0) = [c109_3_0_0, c109_3_0_1, c109_3_0_2, c109_3_0_3] := by kernel_rfl
theorem F109_1_ok (R : Rt) (l5 : SV) (ds : Ds) (w : World) (E : Env) (e5 : E 5 = .slice l5.a l5.len l5.cap) (h : F109_1 R l5 ds w) :
    TrL prog f109.ntmps [c109_4, c109_5] (F109_q1 R) E ds w :=
  TrL_leaf (X := F109_1 R l5 ds w) (setAll_cons e5 setAll_nil) (by kernel_rfl) (by kernel_rfl) h
theorem F109_2_ok (R : Rt) (J1 : (Int × SV × Int) -> World -> Prop) (n0 : Int) (l5 : SV) (n6 n7 : Int) (ds : Ds) (w : World) (E : Env) (e0 : E 0 = .int .i64 n0) (e5 : E 5 = .slice l5.a l5.len l5.cap) (e6 : E 6 = .int .i64 n6) (e7 : E 7 = .int .i64 n7) (h : F109_2 R J1 n0 l5 n6 n7 ds w) :
    TrL prog f109.ntmps [c109_3_0_0, c109_3_0_1, c109_3_0_2, c109_3_0_3] (F109_q5 R J1) E ds w :=
  TrL_leaf (X := F109_2 R J1 n0 l5 n6 n7 ds w) (setAll_cons e0 (setAll_cons e5 (setAll_cons e6 (setAll_cons e7 setAll_nil)))) (by kernel_rfl) (by kernel_rfl) h
theorem F109_3_ok (R : Rt) (n0 : Int) (l5 : SV) (n6 n7 : Int) (ds : Ds) (w : World) (E : Env) (e0 : E 0 = .int .i64 n0) (e5 : E 5 = .slice l5.a l5.len l5.cap) (e6 : E 6 = .int .i64 n6) (e7 : E 7 = .int .i64 n7) (h : F109_3 R n0 l5 n6 n7 ds w) :
    TrL prog f109.ntmps [c109_3_0] (F109_q4 R) E ds w :=
  TrL_one (Tr_loop' (c := innerC c109_3_0) (σ := Int × SV × Int) (enc := (fun (s : Int × SV × Int) (E : Env) => E 0 = .int .i64 s.1 /\ E 5 = .slice s.2.1.a s.2.1.len s.2.1.cap /\ E 7 = .int .i64 s.2.2)) (D := (fun E K => dInt .i64 (E 0) fun n0 => dSl (E 5) fun l5 => dInt .i64 (E 7) fun n7 => K (n0, l5, n7))) (F := (fun (J1 : (Int × SV × Int) -> World -> Prop) (s : Int × SV × Int) (w : World) => F109_2 R J1 s.1 s.2.1 n6 s.2.2 ds w)) (s0 := (n0, l5, n7)) (by kernel_rfl) c109_3_0_l ⟨e0, e5, e7⟩ (by kernel_rfl) (fun E K hD => by obtain ⟨n0, e0, hD⟩ := dInt_elim hD; obtain ⟨l5, e5, hD⟩ := dSl_elim hD; obtain ⟨n7, e7, hD⟩ := dInt_elim hD; exact ⟨(n0, l5, n7), ⟨e0, e5, e7⟩, hD⟩)
      (fun J1 s E' w' he ha hF => by
      obtain ⟨e0', e5', e7'⟩ := he
      exact F109_2_ok R J1 s.1 s.2.1 n6 s.2.2 ds w' E' e0' e5' ((ha 6 (by kernel_rfl)).trans e6) e7' hF) h)
theorem F109_4_ok (R : Rt) (n0 : Int) (l5 : SV) (n6 n7 : Int) (ds : Ds) (w : World) (E : Env) (e0 : E 0 = .int .i64 n0) (e5 : E 5 = .slice l5.a l5.len l5.cap) (e6 : E 6 = .int .i64 n6) (e7 : E 7 = .int .i64 n7) (h : F109_4 R n0 l5 n6 n7 ds w) :
    TrL prog f109.ntmps [c109_3, c109_4, c109_5] (F109_q1 R) E ds w :=
  TrL_head (K := (F109_k2 R)) (Tr_block' (c := innerC c109_3) (by kernel_rfl) c109_3_l (F109_3_ok R n0 l5 n6 n7 ds w E e0 e5 e6 e7 h))
    (fun E' ds' w' hD => by
      obtain ⟨l5, e5, hD⟩ := dSl_elim hD; exact F109_1_ok R l5 ds' w' E' e5 hD)
theorem F109_5_ok (R : Rt) (n0 n1 : Int) (ds : Ds) (w : World) (E : Env) (e0 : E 0 = .int .i64 n0) (e1 : E 1 = .int .i64 n1) (h : F109_5 R n0 n1 ds w) :
    TrL prog f109.ntmps [c109_0, c109_1, c109_2, c109_3, c109_4, c109_5] (F109_q1 R) E ds w :=
  TrL_piece (pre := [c109_0, c109_1, c109_2]) (K := (F109_k6 R)) (X := F109_5 R n0 n1 ds w) (setAll_cons e0 (setAll_cons e1 setAll_nil)) (by kernel_rfl) (by kernel_rfl)
    (fun E' ds' w' hD => by
      obtain ⟨n0, e0, hD⟩ := dInt_elim hD; obtain ⟨l5, e5, hD⟩ := dSl_elim hD; obtain ⟨n6, e6, hD⟩ := dInt_elim hD; obtain ⟨n7, e7, hD⟩ := dInt_elim hD; exact F109_4_ok R n0 l5 n6 n7 ds' w' E' e0 e5 e6 e7 hD) h
theorem F109_calls (n0 n1 : Int) (w : World) (R : Rt) (h : F109_5 R n0 n1 [] w) : Calls prog 109 #[.int .i64 n0, .int .i64 n1] w R :=
  calls_of_L (l := [c109_0, c109_1, c109_2, c109_3, c109_4, c109_5]) func109 (by kernel_rfl) (by rw [ntmps109]; exact Nat.le_of_ble_eq_true (by kernel_rfl)) c109_l
    (F109_5_ok R n0 n1 [] w _ rfl rfl h)
noncomputable def c110_0 := cI10 f110 0
noncomputable def c110_1 := cI10 f110 1
noncomputable def c110_2 := cI10 f110 2
def F110_q1 (R : Rt) : EQ := endQ prog f110.results.toList R
def F110_1 (R : Rt) (n0 : Int) (ds : Ds) (w : World) : Prop :=
 runD prog ds w fun w1 =>
 R (.returned (.int .i64 (IntKind.i64.wrap ((13 : Int) + (IntKind.i64.wrap ((16 : Int) * n0)))))) w1
theorem c110_l : flat (bodyOf f110) = [c110_0, c110_1, c110_2] := by kernel_rfl
theorem F110_1_ok (R : Rt) (n0 : Int) (ds : Ds) (w : World) (E : Env) (e0 : E 0 = .int .i64 n0) (h : F110_1 R n0 ds w) :
    TrL prog f110.ntmps [c110_0, c110_1, c110_2] (F110_q1 R) E ds w :=
  TrL_leaf (X := F110_1 R n0 ds w) (setAll_cons e0 setAll_nil) (by kernel_rfl) (by kernel_rfl) h
theorem F110_calls (n0 : Int) (w : World) (R : Rt) (h : F110_1 R n0 [] w) : Calls prog 110 #[.int .i64 n0] w R :=
  calls_of_L (l := [c110_0, c110_1, c110_2]) func110 (by kernel_rfl) (by rw [ntmps110]; exact Nat.le_of_ble_eq_true (by kernel_rfl)) c110_l
    (F110_1_ok R n0 [] w _ rfl h)
end Go.Proofs.YtecmfdfhpldmmaaGreatDoor

/- Shallow texts of functions, printed by program, each checked by the kernel against the loaded code. No condition. -/
set_option maxRecDepth 100000
set_option linter.unusedVariables false
namespace Go.Proofs.YtecmfdfhpldmmaaGreatDoor
open Go.Sh
open Tryz
@[reducible] noncomputable def cI11 (f : Func) (i : Nat) : Code := itemAt (flat (bodyOf f)) i
@[reducible] noncomputable def cJ11 (c : Code) (i : Nat) : Code := itemAt (flat (innerC c)) i
noncomputable def c21_0 := cI11 f21 0
noncomputable def c21_1 := cI11 f21 1
noncomputable def c21_2 := cI11 f21 2
noncomputable def c21_3 := cI11 f21 3
noncomputable def c21_4 := cI11 f21 4
noncomputable def c21_5 := cI11 f21 5
noncomputable def c21_6 := cI11 f21 6
noncomputable def c21_7 := cI11 f21 7
def F21_q1 (R : Rt) : EQ := endQ prog f21.results.toList R
def F21_1 (R : Rt) (n0_0 : Int) (l0_1 l0_2 : SV) (n1 : Int) (ds : Ds) (w : World) : Prop :=
 alE (.cells #[.int .i64 n0_0, .slice l0_1.a l0_1.len l0_1.cap, .slice l0_2.a l0_2.len l0_2.cap] 35) w fun r2 w1 =>
 ∃ n7_0 : Int, w1.cell? ((⟨r2, 0, none⟩ : Addr).add 0) = some (.int .i64 n7_0) /\
 ∃ l7_1 : SV, w1.cell? ((⟨r2, 0, none⟩ : Addr).add 1) = some (.slice l7_1.a l7_1.len l7_1.cap) /\
 ∃ l7_2 : SV, w1.cell? ((⟨r2, 0, none⟩ : Addr).add 2) = some (.slice l7_2.a l7_2.len l7_2.cap) /\
 Calls prog 34 #[.agg #[.int .i64 n7_0, .slice l7_1.a l7_1.len l7_1.cap, .slice l7_2.a l7_2.len l7_2.cap]] w1 fun e w2 =>
 ∃ n8 : Int, e = .returned (.int .i64 n8) /\
 Br (n8 != 0) (
 runD prog ds w2 fun w3 =>
 R (.returned (.tuple #[.slice none 0 0, .int .i64 n8])) w3) (
 Br (decide (n1 < 1)) (
 runD prog ds w2 fun w4 =>
 R (.returned (.tuple #[.slice none 0 0, .int .i64 4])) w4) (
 ∃ l17 : SV, w2.cell? ((⟨r2, 0, none⟩ : Addr).add 2) = some (.slice l17.a l17.len l17.cap) /\
 Br (decide (n1 > (l17.len : Int))) (
 runD prog ds w2 fun w5 =>
 R (.returned (.tuple #[.slice none 0 0, .int .i64 4])) w5) (
 dwE w2 fun w6 =>
 ∃ l22 : SV, w6.cell? ((⟨r2, 0, none⟩ : Addr).add 1) = some (.slice l22.a l22.len l22.cap) /\
 ∃ l24 : SV, w6.cell? ((⟨r2, 0, none⟩ : Addr).add 2) = some (.slice l24.a l24.len l24.cap) /\
 ∃ a7 : Addr, l24.a = some a7 /\ 0 ≤ (IntKind.i64.wrap (n1 - 1)) /\ (IntKind.i64.wrap (n1 - 1)) < (l24.len : Int) /\
 ∃ b28_0 : Bool, w6.cell? ((a7.add ((IntKind.i64.wrap (n1 - 1)).toNat * 2)).add 0) = some (.bool b28_0) /\
 ∃ l28_1 : SV, w6.cell? ((a7.add ((IntKind.i64.wrap (n1 - 1)).toNat * 2)).add 1) = some (.slice l28_1.a l28_1.len l28_1.cap) /\
 Calls prog 63 #[.slice l22.a l22.len l22.cap, .agg #[.bool b28_0, .slice l28_1.a l28_1.len l28_1.cap]] w6 fun e w8 =>
 ∃ l29 : SV, e = .returned (.slice l29.a l29.len l29.cap) /\
 runD prog ds w8 fun w9 =>
 R (.returned (.tuple #[.slice l29.a l29.len l29.cap, .int .i64 0])) w9)))
theorem c21_l : flat (bodyOf f21) = [c21_0, c21_1, c21_2, c21_3, c21_4, c21_5, c21_6, c21_7] := by kernel_rfl
theorem F21_1_ok (R : Rt) (n0_0 : Int) (l0_1 l0_2 : SV) (n1 : Int) (ds : Ds) (w : World) (E : Env) (e0 : E 0 = .agg #[.int .i64 n0_0, .slice l0_1.a l0_1.len l0_1.cap, .slice l0_2.a l0_2.len l0_2.cap]) (e1 : E 1 = .int .i64 n1) (h : F21_1 R n0_0 l0_1 l0_2 n1 ds w) :
    TrL prog f21.ntmps [c21_0, c21_1, c21_2, c21_3, c21_4, c21_5, c21_6, c21_7] (F21_q1 R) E ds w :=
  TrL_leaf (X := F21_1 R n0_0 l0_1 l0_2 n1 ds w) (setAll_cons e0 (setAll_cons e1 setAll_nil)) (by kernel_rfl) (by kernel_rfl) h
theorem F21_calls (n0_0 : Int) (l0_1 l0_2 : SV) (n1 : Int) (w : World) (R : Rt) (h : F21_1 R n0_0 l0_1 l0_2 n1 [] w) : Calls prog 21 #[.agg #[.int .i64 n0_0, .slice l0_1.a l0_1.len l0_1.cap, .slice l0_2.a l0_2.len l0_2.cap], .int .i64 n1] w R :=
  calls_of_L (l := [c21_0, c21_1, c21_2, c21_3, c21_4, c21_5, c21_6, c21_7]) func21 (by kernel_rfl) (by rw [ntmps21]; exact Nat.le_of_ble_eq_true (by kernel_rfl)) c21_l
    (F21_1_ok R n0_0 l0_1 l0_2 n1 [] w _ rfl rfl h)
noncomputable def c63_0 := cI11 f63 0
noncomputable def c63_1 := cI11 f63 1
noncomputable def c63_2 := cI11 f63 2
noncomputable def c63_3 := cI11 f63 3
noncomputable def c63_4 := cI11 f63 4
noncomputable def c63_5 := cI11 f63 5
noncomputable def c63_6 := cI11 f63 6
noncomputable def c63_7 := cI11 f63 7
noncomputable def c63_8 := cI11 f63 8
noncomputable def c63_9 := cI11 f63 9
noncomputable def c63_10 := cI11 f63 10
noncomputable def c63_8_0 := cJ11 c63_8 0
noncomputable def c63_8_0_0 := cJ11 c63_8_0 0
noncomputable def c63_8_0_1 := cJ11 c63_8_0 1
noncomputable def c63_8_0_2 := cJ11 c63_8_0 2
noncomputable def c63_8_0_3 := cJ11 c63_8_0 3
def F63_q1 (R : Rt) : EQ := endQ prog f63.results.toList R
def F63_1 (R : Rt) (l5 l6 : SV) (p7 : Option Addr) (ds : Ds) (w : World) : Prop :=
 ∃ l68 : SV, ∃ w1 : World, (Builtin.append_ #[37, 37] 37 #[.slice l5.a l5.len l5.cap, .slice l6.a l6.len l6.cap]).run prog w = .ok (.slice l68.a l68.len l68.cap) w1 /\
 Calls prog 112 #[.pointer p7] w1 fun e w2 =>
 ∃ s69 : ByteArray, e = .returned (.string s69) /\
 ∃ l70 : SV, ∃ w3 : World, (Builtin.append_ #[37, 9] 37 #[.slice l68.a l68.len l68.cap, .string s69]).run prog w2 = .ok (.slice l70.a l70.len l70.cap) w3 /\
 runD prog ds w3 fun w4 =>
 R (.returned (.slice l70.a l70.len l70.cap)) w4
def F63_k2 (R : Rt) : EP := (fun E ds w => dSl (E 5) fun l5 => dSl (E 6) fun l6 => dPtr (E 7) fun p7 => F63_1 R l5 l6 p7 ds w)
def F63_q3 (R : Rt) : EQ := (thenQ (F63_k2 R) (F63_q1 R))
def F63_q4 (R : Rt) : EQ := (blockQ 0 (F63_q3 R))
def F63_q5 (R : Rt) (J1 : (Int × Int) -> World -> Prop) : EQ := (thenQ (fun E _ w => dInt .i64 (E 8) fun n8 => dInt .i64 (E 22) fun n22 => J1 (n8, n22) w) (F63_q4 R))
def F63_2 (R : Rt) (J1 : (Int × Int) -> World -> Prop) (p3 : Option Addr) (l5 l6 : SV) (p7 : Option Addr) (n8 : Int) (l20 : SV) (n21 n22 : Int) (ds : Ds) (w : World) : Prop :=
 Br (decide (n22 < n21)) (
 ∃ a5 : Addr, l20.a = some a5 /\ 0 ≤ n22 /\ n22 < (l20.len : Int) /\
 ∃ s26_0 : ByteArray, w.cell? ((a5.add (n22.toNat * 4)).add 0) = some (.string s26_0) /\
 ∃ n26_1 : Int, w.cell? ((a5.add (n22.toNat * 4)).add 1) = some (.int .i64 n26_1) /\
 ∃ n26_2 : Int, w.cell? ((a5.add (n22.toNat * 4)).add 2) = some (.int .i64 n26_2) /\
 ∃ b26_3 : Bool, w.cell? ((a5.add (n22.toNat * 4)).add 3) = some (.bool b26_3) /\
 alE (.cells #[.string (⟨#[]⟩ : ByteArray), .int .i64 0, .int .i64 0, .bool false] 23) w fun r10 w6 =>
 stA prog 23 (⟨r10, 0, none⟩ : Addr) #[.string s26_0, .int .i64 n26_1, .int .i64 n26_2, .bool b26_3] w6 fun w7 =>
 ptrE p3 fun a8 =>
 ∃ l28 : SV, w7.cell? (a8.add 1) = some (.slice l28.a l28.len l28.cap) /\
 ∃ a9 : Addr, l28.a = some a9 /\ 0 ≤ n22 /\ n22 < (l28.len : Int) /\
 ∃ n31_0 : Int, w7.cell? ((a9.add (n22.toNat * 3)).add 0) = some (.int .i64 n31_0) /\
 ∃ n31_1 : Int, w7.cell? ((a9.add (n22.toNat * 3)).add 1) = some (.int .i64 n31_1) /\
 ∃ s31_2 : ByteArray, w7.cell? ((a9.add (n22.toNat * 3)).add 2) = some (.string s31_2) /\
 alE (.cells #[.int .i64 0, .int .i64 0, .string (⟨#[]⟩ : ByteArray)] 25) w7 fun r11 w10 =>
 stA prog 25 (⟨r11, 0, none⟩ : Addr) #[.int .i64 n31_0, .int .i64 n31_1, .string s31_2] w10 fun w11 =>
 ∃ b33 : Bool, w11.cell? ((⟨r10, 0, none⟩ : Addr).add 3) = some (.bool b33) /\
 Br b33 (
 ∃ n35 : Int, w11.cell? (⟨r11, 0, none⟩ : Addr) = some (.int .i64 n35) /\
 Br (n35 == 0) (
 dwE w11 fun w12 =>
 IntKind.i64 = IntKind.i64 /\ (8 : Int) ≠ 0 /\
 ∃ a13 : Addr, l6.a = some a13 /\ 0 ≤ (IntKind.i64.wrap (n8.tdiv 8)) /\ (IntKind.i64.wrap (n8.tdiv 8)) < (l6.len : Int) /\
 ∃ n41 : Int, w12.cell? (a13.add ((IntKind.i64.wrap (n8.tdiv 8)).toNat * 1)) = some (.int .u8 n41) /\
 IntKind.i64 = IntKind.i64 /\ (8 : Int) ≠ 0 /\
 0 ≤ (n8.tmod 8) /\
 ∃ a14 : Addr, l6.a = some a14 /\ 0 ≤ (IntKind.i64.wrap (n8.tdiv 8)) /\ (IntKind.i64.wrap (n8.tdiv 8)) < (l6.len : Int) /\
 st1 (a14.add ((IntKind.i64.wrap (n8.tdiv 8)).toNat * 1)) (.int .u8 (IntKind.u8.wrap ((BitVec.ofInt 8 n41 ||| BitVec.ofInt 8 (IntKind.u8.wrap ((1 : Int) * 2 ^ (min (n8.tmod 8).toNat 8)))).toNat : Nat))) w12 fun w15 =>
 ∃ n50 : Int, w15.cell? (⟨r11, 0, none⟩ : Addr) = some (.int .i64 n50) /\
 Br (n50 == 0) (
 ∃ n53 : Int, w15.cell? ((⟨r10, 0, none⟩ : Addr).add 2) = some (.int .i64 n53) /\
 Calls prog 99 #[.string (⟨#[32]⟩ : ByteArray), .int .i64 n53] w15 fun e w16 =>
 ∃ s54 : ByteArray, e = .returned (.string s54) /\
 Calls prog 111 #[.pointer p7, .string s54] w16 fun e w17 =>
 ∃ n55_0 : Int, ∃ v55_1 : Value, e = .returned (.tuple #[.int .i64 n55_0, v55_1]) /\
 J1 ((IntKind.i64.wrap (n8 + 1)), (IntKind.i64.wrap (n22 + 1))) w17) (
 dwE w15 fun w18 =>
 ∃ S2 : World -> Prop, S2 w18 /\
 ∃ n58 : Int, (∀ w', S2 w' -> w'.cell? ((⟨r10, 0, none⟩ : Addr).add 1) = some (.int .i64 n58)) /\
 ∃ s61_0 : ByteArray, (∀ w', S2 w' -> w'.cell? ((⟨r10, 0, none⟩ : Addr).add 0) = some (.string s61_0)) /\
 ∃ n61_1 : Int, (∀ w', S2 w' -> w'.cell? ((⟨r10, 0, none⟩ : Addr).add 1) = some (.int .i64 n61_1)) /\
 ∃ n61_2 : Int, (∀ w', S2 w' -> w'.cell? ((⟨r10, 0, none⟩ : Addr).add 2) = some (.int .i64 n61_2)) /\
 ∃ b61_3 : Bool, (∀ w', S2 w' -> w'.cell? ((⟨r10, 0, none⟩ : Addr).add 3) = some (.bool b61_3)) /\
 ∃ n62_0 : Int, (∀ w', S2 w' -> w'.cell? ((⟨r11, 0, none⟩ : Addr).add 0) = some (.int .i64 n62_0)) /\
 ∃ n62_1 : Int, (∀ w', S2 w' -> w'.cell? ((⟨r11, 0, none⟩ : Addr).add 1) = some (.int .i64 n62_1)) /\
 ∃ s62_2 : ByteArray, (∀ w', S2 w' -> w'.cell? ((⟨r11, 0, none⟩ : Addr).add 2) = some (.string s62_2)) /\
 Calls prog 89 #[] w18 fun e w19 =>
 ∃ m56 : Option Nat, e = .returned (.map m56) /\
 ∃ S3 : World -> Prop, S3 w19 /\ (∀ u, S3 u -> S2 u) /\
 ∃ n59_0 : Int, ∃ n59_1 : Int, ∃ n59_2 : Int, ∃ v59_3 : Value, ∃ v59_4 : Value, (∀ w', S3 w' -> (Instr.lookup 104 (.map m56) (.int .i64 n58) false).run prog w' = .ok (.agg #[.int .u8 n59_0, .int .i64 n59_1, .int .i64 n59_2, v59_3, v59_4]) w') /\
 fnE v59_3 fun f63 first63 cap63 =>
 hasBody prog f63 = true /\ Calls prog f63 (first63.toList ++ (([.agg #[.string s61_0, .int .i64 n61_1, .int .i64 n61_2, .bool b61_3], .agg #[.int .i64 n62_0, .int .i64 n62_1, .string s62_2]] : List Value) ++ cap63.toList)).toArray w19 fun e w20 =>
 ∃ s63 : ByteArray, e = .returned (.string s63) /\
 Calls prog 111 #[.pointer p7, .string s63] w20 fun e w21 =>
 ∃ n64_0 : Int, ∃ v64_1 : Value, e = .returned (.tuple #[.int .i64 n64_0, v64_1]) /\
 J1 ((IntKind.i64.wrap (n8 + 1)), (IntKind.i64.wrap (n22 + 1))) w21)) (
 ∃ n50 : Int, w11.cell? (⟨r11, 0, none⟩ : Addr) = some (.int .i64 n50) /\
 Br (n50 == 0) (
 ∃ n53 : Int, w11.cell? ((⟨r10, 0, none⟩ : Addr).add 2) = some (.int .i64 n53) /\
 Calls prog 99 #[.string (⟨#[32]⟩ : ByteArray), .int .i64 n53] w11 fun e w22 =>
 ∃ s54 : ByteArray, e = .returned (.string s54) /\
 Calls prog 111 #[.pointer p7, .string s54] w22 fun e w23 =>
 ∃ n55_0 : Int, ∃ v55_1 : Value, e = .returned (.tuple #[.int .i64 n55_0, v55_1]) /\
 J1 ((IntKind.i64.wrap (n8 + 1)), (IntKind.i64.wrap (n22 + 1))) w23) (
 dwE w11 fun w24 =>
 ∃ S4 : World -> Prop, S4 w24 /\
 ∃ n58 : Int, (∀ w', S4 w' -> w'.cell? ((⟨r10, 0, none⟩ : Addr).add 1) = some (.int .i64 n58)) /\
 ∃ s61_0 : ByteArray, (∀ w', S4 w' -> w'.cell? ((⟨r10, 0, none⟩ : Addr).add 0) = some (.string s61_0)) /\
 ∃ n61_1 : Int, (∀ w', S4 w' -> w'.cell? ((⟨r10, 0, none⟩ : Addr).add 1) = some (.int .i64 n61_1)) /\
 ∃ n61_2 : Int, (∀ w', S4 w' -> w'.cell? ((⟨r10, 0, none⟩ : Addr).add 2) = some (.int .i64 n61_2)) /\
 ∃ b61_3 : Bool, (∀ w', S4 w' -> w'.cell? ((⟨r10, 0, none⟩ : Addr).add 3) = some (.bool b61_3)) /\
 ∃ n62_0 : Int, (∀ w', S4 w' -> w'.cell? ((⟨r11, 0, none⟩ : Addr).add 0) = some (.int .i64 n62_0)) /\
 ∃ n62_1 : Int, (∀ w', S4 w' -> w'.cell? ((⟨r11, 0, none⟩ : Addr).add 1) = some (.int .i64 n62_1)) /\
 ∃ s62_2 : ByteArray, (∀ w', S4 w' -> w'.cell? ((⟨r11, 0, none⟩ : Addr).add 2) = some (.string s62_2)) /\
 Calls prog 89 #[] w24 fun e w25 =>
 ∃ m56 : Option Nat, e = .returned (.map m56) /\
 ∃ S5 : World -> Prop, S5 w25 /\ (∀ u, S5 u -> S4 u) /\
 ∃ n59_0 : Int, ∃ n59_1 : Int, ∃ n59_2 : Int, ∃ v59_3 : Value, ∃ v59_4 : Value, (∀ w', S5 w' -> (Instr.lookup 104 (.map m56) (.int .i64 n58) false).run prog w' = .ok (.agg #[.int .u8 n59_0, .int .i64 n59_1, .int .i64 n59_2, v59_3, v59_4]) w') /\
 fnE v59_3 fun f63 first63 cap63 =>
 hasBody prog f63 = true /\ Calls prog f63 (first63.toList ++ (([.agg #[.string s61_0, .int .i64 n61_1, .int .i64 n61_2, .bool b61_3], .agg #[.int .i64 n62_0, .int .i64 n62_1, .string s62_2]] : List Value) ++ cap63.toList)).toArray w25 fun e w26 =>
 ∃ s63 : ByteArray, e = .returned (.string s63) /\
 Calls prog 111 #[.pointer p7, .string s63] w26 fun e w27 =>
 ∃ n64_0 : Int, ∃ v64_1 : Value, e = .returned (.tuple #[.int .i64 n64_0, v64_1]) /\
 J1 ((IntKind.i64.wrap (n8 + 1)), (IntKind.i64.wrap (n22 + 1))) w27))) (
 ∃ n50 : Int, w11.cell? (⟨r11, 0, none⟩ : Addr) = some (.int .i64 n50) /\
 Br (n50 == 0) (
 ∃ n53 : Int, w11.cell? ((⟨r10, 0, none⟩ : Addr).add 2) = some (.int .i64 n53) /\
 Calls prog 99 #[.string (⟨#[32]⟩ : ByteArray), .int .i64 n53] w11 fun e w28 =>
 ∃ s54 : ByteArray, e = .returned (.string s54) /\
 Calls prog 111 #[.pointer p7, .string s54] w28 fun e w29 =>
 ∃ n55_0 : Int, ∃ v55_1 : Value, e = .returned (.tuple #[.int .i64 n55_0, v55_1]) /\
 J1 (n8, (IntKind.i64.wrap (n22 + 1))) w29) (
 dwE w11 fun w30 =>
 ∃ S6 : World -> Prop, S6 w30 /\
 ∃ n58 : Int, (∀ w', S6 w' -> w'.cell? ((⟨r10, 0, none⟩ : Addr).add 1) = some (.int .i64 n58)) /\
 ∃ s61_0 : ByteArray, (∀ w', S6 w' -> w'.cell? ((⟨r10, 0, none⟩ : Addr).add 0) = some (.string s61_0)) /\
 ∃ n61_1 : Int, (∀ w', S6 w' -> w'.cell? ((⟨r10, 0, none⟩ : Addr).add 1) = some (.int .i64 n61_1)) /\
 ∃ n61_2 : Int, (∀ w', S6 w' -> w'.cell? ((⟨r10, 0, none⟩ : Addr).add 2) = some (.int .i64 n61_2)) /\
 ∃ b61_3 : Bool, (∀ w', S6 w' -> w'.cell? ((⟨r10, 0, none⟩ : Addr).add 3) = some (.bool b61_3)) /\
 ∃ n62_0 : Int, (∀ w', S6 w' -> w'.cell? ((⟨r11, 0, none⟩ : Addr).add 0) = some (.int .i64 n62_0)) /\
 ∃ n62_1 : Int, (∀ w', S6 w' -> w'.cell? ((⟨r11, 0, none⟩ : Addr).add 1) = some (.int .i64 n62_1)) /\
 ∃ s62_2 : ByteArray, (∀ w', S6 w' -> w'.cell? ((⟨r11, 0, none⟩ : Addr).add 2) = some (.string s62_2)) /\
 Calls prog 89 #[] w30 fun e w31 =>
 ∃ m56 : Option Nat, e = .returned (.map m56) /\
 ∃ S7 : World -> Prop, S7 w31 /\ (∀ u, S7 u -> S6 u) /\
 ∃ n59_0 : Int, ∃ n59_1 : Int, ∃ n59_2 : Int, ∃ v59_3 : Value, ∃ v59_4 : Value, (∀ w', S7 w' -> (Instr.lookup 104 (.map m56) (.int .i64 n58) false).run prog w' = .ok (.agg #[.int .u8 n59_0, .int .i64 n59_1, .int .i64 n59_2, v59_3, v59_4]) w') /\
 fnE v59_3 fun f63 first63 cap63 =>
 hasBody prog f63 = true /\ Calls prog f63 (first63.toList ++ (([.agg #[.string s61_0, .int .i64 n61_1, .int .i64 n61_2, .bool b61_3], .agg #[.int .i64 n62_0, .int .i64 n62_1, .string s62_2]] : List Value) ++ cap63.toList)).toArray w31 fun e w32 =>
 ∃ s63 : ByteArray, e = .returned (.string s63) /\
 Calls prog 111 #[.pointer p7, .string s63] w32 fun e w33 =>
 ∃ n64_0 : Int, ∃ v64_1 : Value, e = .returned (.tuple #[.int .i64 n64_0, v64_1]) /\
 J1 (n8, (IntKind.i64.wrap (n22 + 1))) w33))) (
 F63_1 R l5 l6 p7 ds w)
def F63_3 (R : Rt) (p3 : Option Addr) (l5 l6 : SV) (p7 : Option Addr) (n8 : Int) (l20 : SV) (n21 n22 : Int) (ds : Ds) (w : World) : Prop :=
 loopT (fun (J1 : (Int × Int) -> World -> Prop) (s : Int × Int) (w : World) => F63_2 R J1 p3 l5 l6 p7 s.1 l20 n21 s.2 ds w) (n8, n22) w
abbrev F63_4 (R : Rt) (p3 : Option Addr) (l5 l6 : SV) (p7 : Option Addr) (n8 : Int) (l20 : SV) (n21 n22 : Int) (ds : Ds) (w : World) : Prop := F63_3 R p3 l5 l6 p7 n8 l20 n21 n22 ds w
def F63_k6 (R : Rt) : EP := (fun E ds w => dPtr (E 3) fun p3 => dSl (E 5) fun l5 => dSl (E 6) fun l6 => dPtr (E 7) fun p7 => dInt .i64 (E 8) fun n8 => dSl (E 20) fun l20 => dInt .i64 (E 21) fun n21 => dInt .i64 (E 22) fun n22 => F63_4 R p3 l5 l6 p7 n8 l20 n21 n22 ds w)
def F63_5 (R : Rt) (l0 : SV) (b1_0 : Bool) (l1_1 : SV) (ds : Ds) (w : World) : Prop :=
 alE (.cells #[.bool b1_0, .slice l1_1.a l1_1.len l1_1.cap] 46) w fun r3 w34 =>
 alE (.cells #[.int .u8 32] 5) w34 fun r12 w35 =>
 ∃ b14 : Bool, w35.cell? (⟨r3, 0, none⟩ : Addr) = some (.bool b14) /\
 Br b14 (
 ∃ a36 : Addr, (some ⟨r12, 0, none⟩) = some a36 /\ 0 ≤ (0 : Int) /\ (0 : Int) < (1 : Int) /\
 st1 (a36.add ((0 : Int).toNat * 1)) (.int .u8 42) w35 fun w37 =>
 Calls prog 71 #[.slice l0.a l0.len l0.cap] w37 fun e w38 =>
 ∃ n18 : Int, e = .returned (.int .i64 n18) /\
 ∃ l19 : SV, ∃ w39 : World, (Instr.makeSlice 37 (.int .i64 n18) (.int .i64 n18)).run prog w38 = .ok (.slice l19.a l19.len l19.cap) w39 /\
 alE (.cells #[.pointer none, .slice none 0 0] 126) w39 fun r7 w40 =>
 F63_4 R (some (⟨r3, 0, none⟩ : Addr)) ⟨(some ⟨r12, 0, none⟩), 1, 1⟩ l19 (some (⟨r7, 0, none⟩ : Addr)) 0 l0 (l0.len : Int) 0 ds w40) (
 Calls prog 71 #[.slice l0.a l0.len l0.cap] w35 fun e w41 =>
 ∃ n18 : Int, e = .returned (.int .i64 n18) /\
 ∃ l19 : SV, ∃ w42 : World, (Instr.makeSlice 37 (.int .i64 n18) (.int .i64 n18)).run prog w41 = .ok (.slice l19.a l19.len l19.cap) w42 /\
 alE (.cells #[.pointer none, .slice none 0 0] 126) w42 fun r7 w43 =>
 F63_4 R (some (⟨r3, 0, none⟩ : Addr)) ⟨(some ⟨r12, 0, none⟩), 1, 1⟩ l19 (some (⟨r7, 0, none⟩ : Addr)) 0 l0 (l0.len : Int) 0 ds w43)
theorem c63_l : flat (bodyOf f63) = [c63_0, c63_1, c63_2, c63_3, c63_4, c63_5, c63_6, c63_7, c63_8, c63_9, c63_10] := by kernel_rfl
theorem c63_8_l : flat (innerC c63_8) = [c63_8_0] := by kernel_rfl
theorem c63_8_0_l : flat (innerC c63_8_0) = [c63_8_0_0, c63_8_0_1, c63_8_0_2, c63_8_0_3] := by kernel_rfl
theorem F63_1_ok (R : Rt) (l5 l6 : SV) (p7 : Option Addr) (ds : Ds) (w : World) (E : Env) (e5 : E 5 = .slice l5.a l5.len l5.cap) (e6 : E 6 = .slice l6.a l6.len l6.cap) (e7 : E 7 = .pointer p7) (h : F63_1 R l5 l6 p7 ds w) :
    TrL prog f63.ntmps [c63_9, c63_10] (F63_q1 R) E ds w :=
  TrL_leaf (X := F63_1 R l5 l6 p7 ds w) (setAll_cons e5 (setAll_cons e6 (setAll_cons e7 setAll_nil))) (by kernel_rfl) (by kernel_rfl) h
theorem F63_2_ok (R : Rt) (J1 : (Int × Int) -> World -> Prop) (p3 : Option Addr) (l5 l6 : SV) (p7 : Option Addr) (n8 : Int) (l20 : SV) (n21 n22 : Int) (ds : Ds) (w : World) (E : Env) (e3 : E 3 = .pointer p3) (e5 : E 5 = .slice l5.a l5.len l5.cap) (e6 : E 6 = .slice l6.a l6.len l6.cap) (e7 : E 7 = .pointer p7) (e8 : E 8 = .int .i64 n8) (e20 : E 20 = .slice l20.a l20.len l20.cap) (e21 : E 21 = .int .i64 n21) (e22 : E 22 = .int .i64 n22) (h : F63_2 R J1 p3 l5 l6 p7 n8 l20 n21 n22 ds w) :
    TrL prog f63.ntmps [c63_8_0_0, c63_8_0_1, c63_8_0_2, c63_8_0_3] (F63_q5 R J1) E ds w :=
  TrL_leaf (X := F63_2 R J1 p3 l5 l6 p7 n8 l20 n21 n22 ds w) (setAll_cons e3 (setAll_cons e5 (setAll_cons e6 (setAll_cons e7 (setAll_cons e8 (setAll_cons e20 (setAll_cons e21 (setAll_cons e22 setAll_nil)))))))) (by kernel_rfl) (by kernel_rfl) h
theorem F63_3_ok (R : Rt) (p3 : Option Addr) (l5 l6 : SV) (p7 : Option Addr) (n8 : Int) (l20 : SV) (n21 n22 : Int) (ds : Ds) (w : World) (E : Env) (e3 : E 3 = .pointer p3) (e5 : E 5 = .slice l5.a l5.len l5.cap) (e6 : E 6 = .slice l6.a l6.len l6.cap) (e7 : E 7 = .pointer p7) (e8 : E 8 = .int .i64 n8) (e20 : E 20 = .slice l20.a l20.len l20.cap) (e21 : E 21 = .int .i64 n21) (e22 : E 22 = .int .i64 n22) (h : F63_3 R p3 l5 l6 p7 n8 l20 n21 n22 ds w) :
    TrL prog f63.ntmps [c63_8_0] (F63_q4 R) E ds w :=
  TrL_one (Tr_loop' (c := innerC c63_8_0) (σ := Int × Int) (enc := (fun (s : Int × Int) (E : Env) => E 8 = .int .i64 s.1 /\ E 22 = .int .i64 s.2)) (D := (fun E K => dInt .i64 (E 8) fun n8 => dInt .i64 (E 22) fun n22 => K (n8, n22))) (F := (fun (J1 : (Int × Int) -> World -> Prop) (s : Int × Int) (w : World) => F63_2 R J1 p3 l5 l6 p7 s.1 l20 n21 s.2 ds w)) (s0 := (n8, n22)) (by kernel_rfl) c63_8_0_l ⟨e8, e22⟩ (by kernel_rfl) (fun E K hD => by obtain ⟨n8, e8, hD⟩ := dInt_elim hD; obtain ⟨n22, e22, hD⟩ := dInt_elim hD; exact ⟨(n8, n22), ⟨e8, e22⟩, hD⟩)
      (fun J1 s E' w' he ha hF => by
      obtain ⟨e8', e22'⟩ := he
      exact F63_2_ok R J1 p3 l5 l6 p7 s.1 l20 n21 s.2 ds w' E' ((ha 3 (by kernel_rfl)).trans e3) ((ha 5 (by kernel_rfl)).trans e5) ((ha 6 (by kernel_rfl)).trans e6) ((ha 7 (by kernel_rfl)).trans e7) e8' ((ha 20 (by kernel_rfl)).trans e20) ((ha 21 (by kernel_rfl)).trans e21) e22' hF) h)
theorem F63_4_ok (R : Rt) (p3 : Option Addr) (l5 l6 : SV) (p7 : Option Addr) (n8 : Int) (l20 : SV) (n21 n22 : Int) (ds : Ds) (w : World) (E : Env) (e3 : E 3 = .pointer p3) (e5 : E 5 = .slice l5.a l5.len l5.cap) (e6 : E 6 = .slice l6.a l6.len l6.cap) (e7 : E 7 = .pointer p7) (e8 : E 8 = .int .i64 n8) (e20 : E 20 = .slice l20.a l20.len l20.cap) (e21 : E 21 = .int .i64 n21) (e22 : E 22 = .int .i64 n22) (h : F63_4 R p3 l5 l6 p7 n8 l20 n21 n22 ds w) :
    TrL prog f63.ntmps [c63_8, c63_9, c63_10] (F63_q1 R) E ds w :=
  TrL_head (K := (F63_k2 R)) (Tr_block' (c := innerC c63_8) (by kernel_rfl) c63_8_l (F63_3_ok R p3 l5 l6 p7 n8 l20 n21 n22 ds w E e3 e5 e6 e7 e8 e20 e21 e22 h))
    (fun E' ds' w' hD => by
      obtain ⟨l5, e5, hD⟩ := dSl_elim hD; obtain ⟨l6, e6, hD⟩ := dSl_elim hD; obtain ⟨p7, e7, hD⟩ := dPtr_elim hD; exact F63_1_ok R l5 l6 p7 ds' w' E' e5 e6 e7 hD)
theorem F63_5_ok (R : Rt) (l0 : SV) (b1_0 : Bool) (l1_1 : SV) (ds : Ds) (w : World) (E : Env) (e0 : E 0 = .slice l0.a l0.len l0.cap) (e1 : E 1 = .agg #[.bool b1_0, .slice l1_1.a l1_1.len l1_1.cap]) (h : F63_5 R l0 b1_0 l1_1 ds w) :
    TrL prog f63.ntmps [c63_0, c63_1, c63_2, c63_3, c63_4, c63_5, c63_6, c63_7, c63_8, c63_9, c63_10] (F63_q1 R) E ds w :=
  TrL_piece (pre := [c63_0, c63_1, c63_2, c63_3, c63_4, c63_5, c63_6, c63_7]) (K := (F63_k6 R)) (X := F63_5 R l0 b1_0 l1_1 ds w) (setAll_cons e0 (setAll_cons e1 setAll_nil)) (by kernel_rfl) (by kernel_rfl)
    (fun E' ds' w' hD => by
      obtain ⟨p3, e3, hD⟩ := dPtr_elim hD; obtain ⟨l5, e5, hD⟩ := dSl_elim hD; obtain ⟨l6, e6, hD⟩ := dSl_elim hD; obtain ⟨p7, e7, hD⟩ := dPtr_elim hD; obtain ⟨n8, e8, hD⟩ := dInt_elim hD; obtain ⟨l20, e20, hD⟩ := dSl_elim hD; obtain ⟨n21, e21, hD⟩ := dInt_elim hD; obtain ⟨n22, e22, hD⟩ := dInt_elim hD; exact F63_4_ok R p3 l5 l6 p7 n8 l20 n21 n22 ds' w' E' e3 e5 e6 e7 e8 e20 e21 e22 hD) h
theorem F63_calls (l0 : SV) (b1_0 : Bool) (l1_1 : SV) (w : World) (R : Rt) (h : F63_5 R l0 b1_0 l1_1 [] w) : Calls prog 63 #[.slice l0.a l0.len l0.cap, .agg #[.bool b1_0, .slice l1_1.a l1_1.len l1_1.cap]] w R :=
  calls_of_L (l := [c63_0, c63_1, c63_2, c63_3, c63_4, c63_5, c63_6, c63_7, c63_8, c63_9, c63_10]) func63 (by kernel_rfl) (by rw [ntmps63]; exact Nat.le_of_ble_eq_true (by kernel_rfl)) c63_l
    (F63_5_ok R l0 b1_0 l1_1 [] w _ rfl rfl h)
noncomputable def c131_0 := cI11 f131 0
noncomputable def c131_1 := cI11 f131 1
noncomputable def c131_2 := cI11 f131 2
def F131_q1 (R : Rt) : EQ := endQ prog f131.results.toList R
def F131_1 (R : Rt) (s0_0 : ByteArray) (n0_1 n0_2 : Int) (b0_3 : Bool) (n1_0 n1_1 : Int) (s1_2 : ByteArray) (ds : Ds) (w : World) : Prop :=
 alE (.cells #[.string s0_0, .int .i64 n0_1, .int .i64 n0_2, .bool b0_3] 23) w fun r2 w1 =>
 alE (.cells #[.int .i64 n1_0, .int .i64 n1_1, .string s1_2] 25) w1 fun r3 w2 =>
 dwE w2 fun w3 =>
 ∃ S1 : World -> Prop, S1 w3 /\
 ∃ s6 : ByteArray, (∀ w', S1 w' -> w'.cell? ((⟨r3, 0, none⟩ : Addr).add 2) = some (.string s6)) /\
 ∃ n8 : Int, (∀ w', S1 w' -> w'.cell? ((⟨r2, 0, none⟩ : Addr).add 2) = some (.int .i64 n8)) /\
 ∃ s10 : ByteArray, (∀ w', S1 w' -> w'.cell? ((⟨r3, 0, none⟩ : Addr).add 2) = some (.string s10)) /\
 Calls prog 99 #[.string (⟨#[32]⟩ : ByteArray), .int .i64 (IntKind.i64.wrap (n8 - (s10.size : Int)))] w3 fun e w4 =>
 ∃ s13 : ByteArray, e = .returned (.string s13) /\
 S1 w4 /\
 ((s6.size + s13.size : Nat) : Int) ≤ 9223372036854775807 /\
 runD prog ds w4 fun w5 =>
 R (.returned (.string (s6 ++ s13))) w5
theorem c131_l : flat (bodyOf f131) = [c131_0, c131_1, c131_2] := by kernel_rfl
theorem F131_1_ok (R : Rt) (s0_0 : ByteArray) (n0_1 n0_2 : Int) (b0_3 : Bool) (n1_0 n1_1 : Int) (s1_2 : ByteArray) (ds : Ds) (w : World) (E : Env) (e0 : E 0 = .agg #[.string s0_0, .int .i64 n0_1, .int .i64 n0_2, .bool b0_3]) (e1 : E 1 = .agg #[.int .i64 n1_0, .int .i64 n1_1, .string s1_2]) (h : F131_1 R s0_0 n0_1 n0_2 b0_3 n1_0 n1_1 s1_2 ds w) :
    TrL prog f131.ntmps [c131_0, c131_1, c131_2] (F131_q1 R) E ds w :=
  TrL_leaf (X := F131_1 R s0_0 n0_1 n0_2 b0_3 n1_0 n1_1 s1_2 ds w) (setAll_cons e0 (setAll_cons e1 setAll_nil)) (by kernel_rfl) (by kernel_rfl) h
theorem F131_calls (s0_0 : ByteArray) (n0_1 n0_2 : Int) (b0_3 : Bool) (n1_0 n1_1 : Int) (s1_2 : ByteArray) (w : World) (R : Rt) (h : F131_1 R s0_0 n0_1 n0_2 b0_3 n1_0 n1_1 s1_2 [] w) : Calls prog 131 #[.agg #[.string s0_0, .int .i64 n0_1, .int .i64 n0_2, .bool b0_3], .agg #[.int .i64 n1_0, .int .i64 n1_1, .string s1_2]] w R :=
  calls_of_L (l := [c131_0, c131_1, c131_2]) func131 (by kernel_rfl) (by rw [ntmps131]; exact Nat.le_of_ble_eq_true (by kernel_rfl)) c131_l
    (F131_1_ok R s0_0 n0_1 n0_2 b0_3 n1_0 n1_1 s1_2 [] w _ rfl rfl h)
end Go.Proofs.YtecmfdfhpldmmaaGreatDoor

/- Shallow texts of functions, printed by program, each checked by the kernel against the loaded code. No condition. -/
set_option maxRecDepth 100000
set_option linter.unusedVariables false
namespace Go.Proofs.YtecmfdfhpldmmaaGreatDoor
open Go.Sh
open Tryz
@[reducible] noncomputable def cI12 (f : Func) (i : Nat) : Code := itemAt (flat (bodyOf f)) i
noncomputable def c112_0 := cI12 f112 0
noncomputable def c112_1 := cI12 f112 1
noncomputable def c112_2 := cI12 f112 2
def F112_q1 (R : Rt) : EQ := endQ prog f112.results.toList R
def F112_1 (R : Rt) (p0 : Option Addr) (ds : Ds) (w : World) : Prop :=
 dwE w fun w1 =>
 ∃ S1 : World -> Prop, S1 w1 /\
 ptrE p0 fun a2 =>
 ∃ l6 : SV, (∀ w', S1 w' -> w'.cell? (a2.add 1) = some (.slice l6.a l6.len l6.cap)) /\
 ptrE p0 fun a3 =>
 ∃ l11 : SV, (∀ w', S1 w' -> w'.cell? (a3.add 1) = some (.slice l11.a l11.len l11.cap)) /\
 ∃ p7 : Option Addr, ∃ w4 : World, (Builtin.unsafeSliceData_ #[37] 157 #[.slice l6.a l6.len l6.cap]).run prog w1 = .ok (.pointer p7) w4 /\
 S1 w4 /\
 ∃ s13 : ByteArray, ∃ w5 : World, (Builtin.unsafeString_ #[157, 3] 9 #[.pointer p7, .int .i64 (l11.len : Int)]).run prog w4 = .ok (.string s13) w5 /\
 runD prog ds w5 fun w6 =>
 R (.returned (.string s13)) w6
theorem c112_l : flat (bodyOf f112) = [c112_0, c112_1, c112_2] := by kernel_rfl
theorem F112_1_ok (R : Rt) (p0 : Option Addr) (ds : Ds) (w : World) (E : Env) (e0 : E 0 = .pointer p0) (h : F112_1 R p0 ds w) :
    TrL prog f112.ntmps [c112_0, c112_1, c112_2] (F112_q1 R) E ds w :=
  TrL_leaf (X := F112_1 R p0 ds w) (setAll_cons e0 setAll_nil) (by kernel_rfl) (by kernel_rfl) h
theorem F112_calls (p0 : Option Addr) (w : World) (R : Rt) (h : F112_1 R p0 [] w) : Calls prog 112 #[.pointer p0] w R :=
  calls_of_L (l := [c112_0, c112_1, c112_2]) func112 (by kernel_rfl) (by rw [ntmps112]; exact Nat.le_of_ble_eq_true (by kernel_rfl)) c112_l
    (F112_1_ok R p0 [] w _ rfl h)
end Go.Proofs.YtecmfdfhpldmmaaGreatDoor

/- Shallow texts of functions, printed by program, each checked by the kernel against the loaded code. No condition. -/
set_option maxRecDepth 100000
set_option linter.unusedVariables false
namespace Go.Proofs.YtecmfdfhpldmmaaGreatDoor
open Go.Sh
open Tryz
@[reducible] noncomputable def cI13 (f : Func) (i : Nat) : Code := itemAt (flat (bodyOf f)) i
noncomputable def c12_0 := cI13 f12 0
noncomputable def c12_1 := cI13 f12 1
noncomputable def c12_2 := cI13 f12 2
noncomputable def c12_3 := cI13 f12 3
noncomputable def c12_4 := cI13 f12 4
noncomputable def c12_5 := cI13 f12 5
noncomputable def c12_6 := cI13 f12 6
def F12_q1 (R : Rt) : EQ := endQ prog f12.results.toList R
def F12_1 (R : Rt) (ds : Ds) (w : World) : Prop :=
 alE (.cells #[.string (⟨#[65]⟩ : ByteArray), .int .i64 4, .int .i64 3, .bool false] 23) w fun r9 w1 =>
 Calls prog 46 #[.string (⟨#[97, 98]⟩ : ByteArray)] w1 fun e w2 =>
 ∃ n10_0 : Int, ∃ n10_1 : Int, ∃ s10_2 : ByteArray, e = .returned (.agg #[.int .i64 n10_0, .int .i64 n10_1, .string s10_2]) /\
 alE (.cells #[.int .i64 n10_0, .int .i64 n10_1, .string s10_2] 25) w2 fun r11 w3 =>
 alE (.cells #[.bool false, .slice (some ⟨r11, 0, none⟩) 1 1] 46) w3 fun r13 w4 =>
 alE (.cells #[.int .i64 0, .slice none 0 0, .slice none 0 0] 35) w4 fun r1 w5 =>
 stA prog 35 (⟨r1, 0, none⟩ : Addr) #[.int .i64 0, .slice (some ⟨r9, 0, none⟩) 1 1, .slice (some ⟨r13, 0, none⟩) 1 1] w5 fun w6 =>
 ∃ n16_0 : Int, w6.cell? ((⟨r1, 0, none⟩ : Addr).add 0) = some (.int .i64 n16_0) /\
 ∃ l16_1 : SV, w6.cell? ((⟨r1, 0, none⟩ : Addr).add 1) = some (.slice l16_1.a l16_1.len l16_1.cap) /\
 ∃ l16_2 : SV, w6.cell? ((⟨r1, 0, none⟩ : Addr).add 2) = some (.slice l16_2.a l16_2.len l16_2.cap) /\
 Calls prog 19 #[.agg #[.int .i64 n16_0, .slice l16_1.a l16_1.len l16_1.cap, .slice l16_2.a l16_2.len l16_2.cap]] w6 fun e w7 =>
 ∃ l17_0 : SV, ∃ n17_1 : Int, e = .returned (.tuple #[.slice l17_0.a l17_0.len l17_0.cap, .int .i64 n17_1]) /\
 ∃ n21_0 : Int, w7.cell? ((⟨r1, 0, none⟩ : Addr).add 0) = some (.int .i64 n21_0) /\
 ∃ l21_1 : SV, w7.cell? ((⟨r1, 0, none⟩ : Addr).add 1) = some (.slice l21_1.a l21_1.len l21_1.cap) /\
 ∃ l21_2 : SV, w7.cell? ((⟨r1, 0, none⟩ : Addr).add 2) = some (.slice l21_2.a l21_2.len l21_2.cap) /\
 Calls prog 21 #[.agg #[.int .i64 n21_0, .slice l21_1.a l21_1.len l21_1.cap, .slice l21_2.a l21_2.len l21_2.cap], .int .i64 1] w7 fun e w8 =>
 ∃ l22_0 : SV, ∃ n22_1 : Int, e = .returned (.tuple #[.slice l22_0.a l22_0.len l22_0.cap, .int .i64 n22_1]) /\
 Calls prog 46 #[.string (⟨#[97, 98, 32]⟩ : ByteArray)] w8 fun e w9 =>
 ∃ n27_0 : Int, ∃ n27_1 : Int, ∃ s27_2 : ByteArray, e = .returned (.agg #[.int .i64 n27_0, .int .i64 n27_1, .string s27_2]) /\
 Calls prog 13 #[.agg #[.string (⟨#[65]⟩ : ByteArray), .int .i64 4, .int .i64 2, .bool false], .int .i64 0, .agg #[.int .i64 n27_0, .int .i64 n27_1, .string s27_2]] w9 fun e w10 =>
 ∃ n28_0_0 : Int, ∃ n28_0_1 : Int, ∃ s28_0_2 : ByteArray, ∃ n28_1 : Int, e = .returned (.tuple #[.agg #[.int .i64 n28_0_0, .int .i64 n28_0_1, .string s28_0_2], .int .i64 n28_1]) /\
 alE (.cells #[.int .i64 0, .int .i64 0, .string (⟨#[]⟩ : ByteArray)] 25) w10 fun r6 w11 =>
 stA prog 25 (⟨r6, 0, none⟩ : Addr) #[.int .i64 n28_0_0, .int .i64 n28_0_1, .string s28_0_2] w11 fun w12 =>
 Br (n17_1 == 0) (
 Br ((l17_0.len : Int) == 29) (
 Br (n22_1 == 0) (
 ∃ s44 : ByteArray, ∃ w13 : World, (convert 37 9 (.slice l22_0.a l22_0.len l22_0.cap)).run prog w12 = .ok (.string s44) w13 /\
 Br (s44.toList == (⟨#[32, 97, 98, 32]⟩ : ByteArray).toList) (
 Br (n28_1 == 0) (
 ∃ s53 : ByteArray, w13.cell? ((⟨r6, 0, none⟩ : Addr).add 2) = some (.string s53) /\
 runD prog ds w13 fun w14 =>
 R (.returned (.bool (s53.toList == (⟨#[97, 98]⟩ : ByteArray).toList))) w14) (
 runD prog ds w13 fun w15 =>
 R (.returned (.bool false)) w15)) (
 runD prog ds w13 fun w16 =>
 R (.returned (.bool false)) w16)) (
 runD prog ds w12 fun w17 =>
 R (.returned (.bool false)) w17)) (
 runD prog ds w12 fun w18 =>
 R (.returned (.bool false)) w18)) (
 runD prog ds w12 fun w19 =>
 R (.returned (.bool false)) w19)
theorem c12_l : flat (bodyOf f12) = [c12_0, c12_1, c12_2, c12_3, c12_4, c12_5, c12_6] := by kernel_rfl
theorem F12_1_ok (R : Rt) (ds : Ds) (w : World) (E : Env) (h : F12_1 R ds w) :
    TrL prog f12.ntmps [c12_0, c12_1, c12_2, c12_3, c12_4, c12_5, c12_6] (F12_q1 R) E ds w :=
  TrL_leaf (X := F12_1 R ds w) setAll_nil (by kernel_rfl) (by kernel_rfl) h
theorem F12_calls  (w : World) (R : Rt) (h : F12_1 R [] w) : Calls prog 12 #[] w R :=
  calls_of_L (l := [c12_0, c12_1, c12_2, c12_3, c12_4, c12_5, c12_6]) func12 (by kernel_rfl) (by rw [ntmps12]; exact Nat.le_of_ble_eq_true (by kernel_rfl)) c12_l
    (F12_1_ok R [] w _  h)
noncomputable def c15_0 := cI13 f15 0
noncomputable def c15_1 := cI13 f15 1
noncomputable def c15_2 := cI13 f15 2
def F15_q1 (R : Rt) : EQ := endQ prog f15.results.toList R
def F15_1 (R : Rt) (n0_0 n0_1 : Int) (s0_2 : ByteArray) (n1_0 n1_1 : Int) (s1_2 : ByteArray) (ds : Ds) (w : World) : Prop :=
 alE (.cells #[.int .i64 n0_0, .int .i64 n0_1, .string s0_2] 25) w fun r2 w1 =>
 alE (.cells #[.int .i64 n1_0, .int .i64 n1_1, .string s1_2] 25) w1 fun r3 w2 =>
 ∃ n6 : Int, w2.cell? (⟨r2, 0, none⟩ : Addr) = some (.int .i64 n6) /\
 ∃ n8 : Int, w2.cell? (⟨r3, 0, none⟩ : Addr) = some (.int .i64 n8) /\
 Br (n6 == n8) (
 ∃ n12 : Int, w2.cell? ((⟨r2, 0, none⟩ : Addr).add 1) = some (.int .i64 n12) /\
 ∃ n14 : Int, w2.cell? ((⟨r3, 0, none⟩ : Addr).add 1) = some (.int .i64 n14) /\
 Br (n12 == n14) (
 ∃ s19 : ByteArray, w2.cell? ((⟨r2, 0, none⟩ : Addr).add 2) = some (.string s19) /\
 ∃ s21 : ByteArray, w2.cell? ((⟨r3, 0, none⟩ : Addr).add 2) = some (.string s21) /\
 runD prog ds w2 fun w3 =>
 R (.returned (.bool (s19.toList == s21.toList))) w3) (
 runD prog ds w2 fun w4 =>
 R (.returned (.bool false)) w4)) (
 runD prog ds w2 fun w5 =>
 R (.returned (.bool false)) w5)
theorem c15_l : flat (bodyOf f15) = [c15_0, c15_1, c15_2] := by kernel_rfl
theorem F15_1_ok (R : Rt) (n0_0 n0_1 : Int) (s0_2 : ByteArray) (n1_0 n1_1 : Int) (s1_2 : ByteArray) (ds : Ds) (w : World) (E : Env) (e0 : E 0 = .agg #[.int .i64 n0_0, .int .i64 n0_1, .string s0_2]) (e1 : E 1 = .agg #[.int .i64 n1_0, .int .i64 n1_1, .string s1_2]) (h : F15_1 R n0_0 n0_1 s0_2 n1_0 n1_1 s1_2 ds w) :
    TrL prog f15.ntmps [c15_0, c15_1, c15_2] (F15_q1 R) E ds w :=
  TrL_leaf (X := F15_1 R n0_0 n0_1 s0_2 n1_0 n1_1 s1_2 ds w) (setAll_cons e0 (setAll_cons e1 setAll_nil)) (by kernel_rfl) (by kernel_rfl) h
theorem F15_calls (n0_0 n0_1 : Int) (s0_2 : ByteArray) (n1_0 n1_1 : Int) (s1_2 : ByteArray) (w : World) (R : Rt) (h : F15_1 R n0_0 n0_1 s0_2 n1_0 n1_1 s1_2 [] w) : Calls prog 15 #[.agg #[.int .i64 n0_0, .int .i64 n0_1, .string s0_2], .agg #[.int .i64 n1_0, .int .i64 n1_1, .string s1_2]] w R :=
  calls_of_L (l := [c15_0, c15_1, c15_2]) func15 (by kernel_rfl) (by rw [ntmps15]; exact Nat.le_of_ble_eq_true (by kernel_rfl)) c15_l
    (F15_1_ok R n0_0 n0_1 s0_2 n1_0 n1_1 s1_2 [] w _ rfl rfl h)
end Go.Proofs.YtecmfdfhpldmmaaGreatDoor

/- Shallow texts of functions, printed by program, each checked by the kernel against the loaded code. No condition. -/
set_option maxRecDepth 100000
set_option linter.unusedVariables false
namespace Go.Proofs.YtecmfdfhpldmmaaGreatDoor
open Go.Sh
open Tryz
end Go.Proofs.YtecmfdfhpldmmaaGreatDoor

/- Shallow texts of functions, printed by program, each checked by the kernel against the loaded code. No condition. -/
set_option maxRecDepth 100000
set_option linter.unusedVariables false
namespace Go.Proofs.YtecmfdfhpldmmaaGreatDoor
open Go.Sh
open Tryz
@[reducible] noncomputable def cI15 (f : Func) (i : Nat) : Code := itemAt (flat (bodyOf f)) i
@[reducible] noncomputable def cJ15 (c : Code) (i : Nat) : Code := itemAt (flat (innerC c)) i
noncomputable def c16_0 := cI15 f16 0
noncomputable def c16_1 := cI15 f16 1
noncomputable def c16_2 := cI15 f16 2
def F16_q1 (R : Rt) : EQ := endQ prog f16.results.toList R
def F16_1 (R : Rt) (n0_0 : Int) (l0_1 l0_2 : SV) (ds : Ds) (w : World) : Prop :=
 alE (.cells #[.int .i64 n0_0, .slice l0_1.a l0_1.len l0_1.cap, .slice l0_2.a l0_2.len l0_2.cap] 35) w fun r1 w1 =>
 ∃ n3_0 : Int, w1.cell? ((⟨r1, 0, none⟩ : Addr).add 0) = some (.int .i64 n3_0) /\
 ∃ l3_1 : SV, w1.cell? ((⟨r1, 0, none⟩ : Addr).add 1) = some (.slice l3_1.a l3_1.len l3_1.cap) /\
 ∃ l3_2 : SV, w1.cell? ((⟨r1, 0, none⟩ : Addr).add 2) = some (.slice l3_2.a l3_2.len l3_2.cap) /\
 Calls prog 24 #[.agg #[.int .i64 n3_0, .slice l3_1.a l3_1.len l3_1.cap, .slice l3_2.a l3_2.len l3_2.cap]] w1 fun e w2 =>
 ∃ n4 : Int, e = .returned (.int .i64 n4) /\
 runD prog ds w2 fun w3 =>
 R (.returned (.bool (decide (n4 > 2000000)))) w3
theorem c16_l : flat (bodyOf f16) = [c16_0, c16_1, c16_2] := by kernel_rfl
theorem F16_1_ok (R : Rt) (n0_0 : Int) (l0_1 l0_2 : SV) (ds : Ds) (w : World) (E : Env) (e0 : E 0 = .agg #[.int .i64 n0_0, .slice l0_1.a l0_1.len l0_1.cap, .slice l0_2.a l0_2.len l0_2.cap]) (h : F16_1 R n0_0 l0_1 l0_2 ds w) :
    TrL prog f16.ntmps [c16_0, c16_1, c16_2] (F16_q1 R) E ds w :=
  TrL_leaf (X := F16_1 R n0_0 l0_1 l0_2 ds w) (setAll_cons e0 setAll_nil) (by kernel_rfl) (by kernel_rfl) h
theorem F16_calls (n0_0 : Int) (l0_1 l0_2 : SV) (w : World) (R : Rt) (h : F16_1 R n0_0 l0_1 l0_2 [] w) : Calls prog 16 #[.agg #[.int .i64 n0_0, .slice l0_1.a l0_1.len l0_1.cap, .slice l0_2.a l0_2.len l0_2.cap]] w R :=
  calls_of_L (l := [c16_0, c16_1, c16_2]) func16 (by kernel_rfl) (by rw [ntmps16]; exact Nat.le_of_ble_eq_true (by kernel_rfl)) c16_l
    (F16_1_ok R n0_0 l0_1 l0_2 [] w _ rfl h)
noncomputable def c24_0 := cI15 f24 0
noncomputable def c24_1 := cI15 f24 1
noncomputable def c24_2 := cI15 f24 2
noncomputable def c24_3 := cI15 f24 3
noncomputable def c24_4 := cI15 f24 4
noncomputable def c24_5 := cI15 f24 5
noncomputable def c24_6 := cI15 f24 6
noncomputable def c24_7 := cI15 f24 7
noncomputable def c24_5_0 := cJ15 c24_5 0
noncomputable def c24_5_0_0 := cJ15 c24_5_0 0
noncomputable def c24_5_0_1 := cJ15 c24_5_0 1
noncomputable def c24_5_0_2 := cJ15 c24_5_0 2
noncomputable def c24_5_0_3 := cJ15 c24_5_0 3
noncomputable def c24_3_0 := cJ15 c24_3 0
noncomputable def c24_3_0_0 := cJ15 c24_3_0 0
noncomputable def c24_3_0_1 := cJ15 c24_3_0 1
noncomputable def c24_3_0_2 := cJ15 c24_3_0 2
noncomputable def c24_3_0_3 := cJ15 c24_3_0 3
def F24_q1 (R : Rt) : EQ := endQ prog f24.results.toList R
def F24_1 (R : Rt) (n3 : Int) (ds : Ds) (w : World) : Prop :=
 runD prog ds w fun w1 =>
 R (.returned (.int .i64 n3)) w1
def F24_k2 (R : Rt) : EP := (fun E ds w => dInt .i64 (E 3) fun n3 => F24_1 R n3 ds w)
def F24_q3 (R : Rt) : EQ := (thenQ (F24_k2 R) (F24_q1 R))
def F24_q4 (R : Rt) : EQ := (blockQ 2 (F24_q3 R))
def F24_q5 (R : Rt) (J1 : (Int × Int) -> World -> Prop) : EQ := (thenQ (fun E _ w => dInt .i64 (E 3) fun n3 => dInt .i64 (E 5) fun n5 => J1 (n3, n5) w) (F24_q4 R))
def F24_2 (R : Rt) (J1 : (Int × Int) -> World -> Prop) (p1 : Option Addr) (n3 n5 : Int) (ds : Ds) (w : World) : Prop :=
 ptrE p1 fun a2 =>
 ∃ l28 : SV, w.cell? (a2.add 2) = some (.slice l28.a l28.len l28.cap) /\
 Br (decide (n5 < (l28.len : Int))) (
 ptrE p1 fun a3 =>
 ∃ l35 : SV, w.cell? (a3.add 2) = some (.slice l35.a l35.len l35.cap) /\
 ∃ a4 : Addr, l35.a = some a4 /\ 0 ≤ n5 /\ n5 < (l35.len : Int) /\
 ∃ l39 : SV, w.cell? ((a4.add (n5.toNat * 2)).add 1) = some (.slice l39.a l39.len l39.cap) /\
 Calls prog 64 #[.slice l39.a l39.len l39.cap] w fun e w5 =>
 ∃ n40 : Int, e = .returned (.int .i64 n40) /\
 J1 ((IntKind.i64.wrap (n3 + (IntKind.i64.wrap ((8 : Int) + n40)))), (IntKind.i64.wrap (n5 + 1))) w5) (
 F24_1 R n3 ds w)
def F24_3 (R : Rt) (p1 : Option Addr) (n3 n5 : Int) (ds : Ds) (w : World) : Prop :=
 loopT (fun (J1 : (Int × Int) -> World -> Prop) (s : Int × Int) (w : World) => F24_2 R J1 p1 s.1 s.2 ds w) (n3, n5) w
abbrev F24_4 (R : Rt) (p1 : Option Addr) (n3 n5 : Int) (ds : Ds) (w : World) : Prop := F24_3 R p1 n3 n5 ds w
def F24_k6 (R : Rt) : EP := (fun E ds w => dPtr (E 1) fun p1 => dInt .i64 (E 3) fun n3 => dInt .i64 (E 5) fun n5 => F24_4 R p1 n3 n5 ds w)
def F24_5 (R : Rt) (p1 : Option Addr) (n3 : Int) (ds : Ds) (w : World) : Prop :=
 F24_4 R p1 n3 0 ds w
def F24_k7 (R : Rt) : EP := (fun E ds w => dPtr (E 1) fun p1 => dInt .i64 (E 3) fun n3 => F24_5 R p1 n3 ds w)
def F24_q8 (R : Rt) : EQ := (thenQ (F24_k7 R) (F24_q1 R))
def F24_q9 (R : Rt) : EQ := (blockQ 0 (F24_q8 R))
def F24_q10 (R : Rt) (J1 : (Int × Int) -> World -> Prop) : EQ := (thenQ (fun E _ w => dInt .i64 (E 3) fun n3 => dInt .i64 (E 4) fun n4 => J1 (n3, n4) w) (F24_q9 R))
def F24_6 (R : Rt) (J1 : (Int × Int) -> World -> Prop) (p1 : Option Addr) (n3 n4 : Int) (ds : Ds) (w : World) : Prop :=
 ptrE p1 fun a6 =>
 ∃ l12 : SV, w.cell? (a6.add 1) = some (.slice l12.a l12.len l12.cap) /\
 Br (decide (n4 < (l12.len : Int))) (
 ptrE p1 fun a7 =>
 ∃ l19 : SV, w.cell? (a7.add 1) = some (.slice l19.a l19.len l19.cap) /\
 ∃ a8 : Addr, l19.a = some a8 /\ 0 ≤ n4 /\ n4 < (l19.len : Int) /\
 ∃ s23 : ByteArray, w.cell? (a8.add (n4.toNat * 4)) = some (.string s23) /\
 J1 ((IntKind.i64.wrap (n3 + (s23.size : Int))), (IntKind.i64.wrap (n4 + 1))) w) (
 F24_5 R p1 n3 ds w)
def F24_7 (R : Rt) (p1 : Option Addr) (n3 n4 : Int) (ds : Ds) (w : World) : Prop :=
 loopT (fun (J1 : (Int × Int) -> World -> Prop) (s : Int × Int) (w : World) => F24_6 R J1 p1 s.1 s.2 ds w) (n3, n4) w
abbrev F24_8 (R : Rt) (p1 : Option Addr) (n3 n4 : Int) (ds : Ds) (w : World) : Prop := F24_7 R p1 n3 n4 ds w
def F24_k11 (R : Rt) : EP := (fun E ds w => dPtr (E 1) fun p1 => dInt .i64 (E 3) fun n3 => dInt .i64 (E 4) fun n4 => F24_8 R p1 n3 n4 ds w)
def F24_9 (R : Rt) (n0_0 : Int) (l0_1 l0_2 : SV) (ds : Ds) (w : World) : Prop :=
 alE (.cells #[.int .i64 n0_0, .slice l0_1.a l0_1.len l0_1.cap, .slice l0_2.a l0_2.len l0_2.cap] 35) w fun r1 w9 =>
 ∃ l7 : SV, w9.cell? ((⟨r1, 0, none⟩ : Addr).add 1) = some (.slice l7.a l7.len l7.cap) /\
 F24_8 R (some (⟨r1, 0, none⟩ : Addr)) (IntKind.i64.wrap ((16 : Int) * (l7.len : Int))) 0 ds w9
theorem c24_l : flat (bodyOf f24) = [c24_0, c24_1, c24_2, c24_3, c24_4, c24_5, c24_6, c24_7] := by kernel_rfl
theorem c24_5_l : flat (innerC c24_5) = [c24_5_0] := by kernel_rfl
theorem c24_5_0_l : flat (innerC c24_5_0) = [c24_5_0_0, c24_5_0_1, c24_5_0_2, c24_5_0_3] := by kernel_rfl
theorem c24_3_l : flat (innerC c24_3) = [c24_3_0] := by kernel_rfl
theorem c24_3_0_l : flat (innerC c24_3_0) = [c24_3_0_0, c24_3_0_1, c24_3_0_2, c24_3_0_3] := by kernel_rfl
theorem F24_1_ok (R : Rt) (n3 : Int) (ds : Ds) (w : World) (E : Env) (e3 : E 3 = .int .i64 n3) (h : F24_1 R n3 ds w) :
    TrL prog f24.ntmps [c24_6, c24_7] (F24_q1 R) E ds w :=
  TrL_leaf (X := F24_1 R n3 ds w) (setAll_cons e3 setAll_nil) (by kernel_rfl) (by kernel_rfl) h
theorem F24_2_ok (R : Rt) (J1 : (Int × Int) -> World -> Prop) (p1 : Option Addr) (n3 n5 : Int) (ds : Ds) (w : World) (E : Env) (e1 : E 1 = .pointer p1) (e3 : E 3 = .int .i64 n3) (e5 : E 5 = .int .i64 n5) (h : F24_2 R J1 p1 n3 n5 ds w) :
    TrL prog f24.ntmps [c24_5_0_0, c24_5_0_1, c24_5_0_2, c24_5_0_3] (F24_q5 R J1) E ds w :=
  TrL_leaf (X := F24_2 R J1 p1 n3 n5 ds w) (setAll_cons e1 (setAll_cons e3 (setAll_cons e5 setAll_nil))) (by kernel_rfl) (by kernel_rfl) h
theorem F24_3_ok (R : Rt) (p1 : Option Addr) (n3 n5 : Int) (ds : Ds) (w : World) (E : Env) (e1 : E 1 = .pointer p1) (e3 : E 3 = .int .i64 n3) (e5 : E 5 = .int .i64 n5) (h : F24_3 R p1 n3 n5 ds w) :
    TrL prog f24.ntmps [c24_5_0] (F24_q4 R) E ds w :=
  TrL_one (Tr_loop' (c := innerC c24_5_0) (σ := Int × Int) (enc := (fun (s : Int × Int) (E : Env) => E 3 = .int .i64 s.1 /\ E 5 = .int .i64 s.2)) (D := (fun E K => dInt .i64 (E 3) fun n3 => dInt .i64 (E 5) fun n5 => K (n3, n5))) (F := (fun (J1 : (Int × Int) -> World -> Prop) (s : Int × Int) (w : World) => F24_2 R J1 p1 s.1 s.2 ds w)) (s0 := (n3, n5)) (by kernel_rfl) c24_5_0_l ⟨e3, e5⟩ (by kernel_rfl) (fun E K hD => by obtain ⟨n3, e3, hD⟩ := dInt_elim hD; obtain ⟨n5, e5, hD⟩ := dInt_elim hD; exact ⟨(n3, n5), ⟨e3, e5⟩, hD⟩)
      (fun J1 s E' w' he ha hF => by
      obtain ⟨e3', e5'⟩ := he
      exact F24_2_ok R J1 p1 s.1 s.2 ds w' E' ((ha 1 (by kernel_rfl)).trans e1) e3' e5' hF) h)
theorem F24_4_ok (R : Rt) (p1 : Option Addr) (n3 n5 : Int) (ds : Ds) (w : World) (E : Env) (e1 : E 1 = .pointer p1) (e3 : E 3 = .int .i64 n3) (e5 : E 5 = .int .i64 n5) (h : F24_4 R p1 n3 n5 ds w) :
    TrL prog f24.ntmps [c24_5, c24_6, c24_7] (F24_q1 R) E ds w :=
  TrL_head (K := (F24_k2 R)) (Tr_block' (c := innerC c24_5) (by kernel_rfl) c24_5_l (F24_3_ok R p1 n3 n5 ds w E e1 e3 e5 h))
    (fun E' ds' w' hD => by
      obtain ⟨n3, e3, hD⟩ := dInt_elim hD; exact F24_1_ok R n3 ds' w' E' e3 hD)
theorem F24_5_ok (R : Rt) (p1 : Option Addr) (n3 : Int) (ds : Ds) (w : World) (E : Env) (e1 : E 1 = .pointer p1) (e3 : E 3 = .int .i64 n3) (h : F24_5 R p1 n3 ds w) :
    TrL prog f24.ntmps [c24_4, c24_5, c24_6, c24_7] (F24_q1 R) E ds w :=
  TrL_piece (pre := [c24_4]) (K := (F24_k6 R)) (X := F24_5 R p1 n3 ds w) (setAll_cons e1 (setAll_cons e3 setAll_nil)) (by kernel_rfl) (by kernel_rfl)
    (fun E' ds' w' hD => by
      obtain ⟨p1, e1, hD⟩ := dPtr_elim hD; obtain ⟨n3, e3, hD⟩ := dInt_elim hD; obtain ⟨n5, e5, hD⟩ := dInt_elim hD; exact F24_4_ok R p1 n3 n5 ds' w' E' e1 e3 e5 hD) h
theorem F24_6_ok (R : Rt) (J1 : (Int × Int) -> World -> Prop) (p1 : Option Addr) (n3 n4 : Int) (ds : Ds) (w : World) (E : Env) (e1 : E 1 = .pointer p1) (e3 : E 3 = .int .i64 n3) (e4 : E 4 = .int .i64 n4) (h : F24_6 R J1 p1 n3 n4 ds w) :
    TrL prog f24.ntmps [c24_3_0_0, c24_3_0_1, c24_3_0_2, c24_3_0_3] (F24_q10 R J1) E ds w :=
  TrL_leaf (X := F24_6 R J1 p1 n3 n4 ds w) (setAll_cons e1 (setAll_cons e3 (setAll_cons e4 setAll_nil))) (by kernel_rfl) (by kernel_rfl) h
theorem F24_7_ok (R : Rt) (p1 : Option Addr) (n3 n4 : Int) (ds : Ds) (w : World) (E : Env) (e1 : E 1 = .pointer p1) (e3 : E 3 = .int .i64 n3) (e4 : E 4 = .int .i64 n4) (h : F24_7 R p1 n3 n4 ds w) :
    TrL prog f24.ntmps [c24_3_0] (F24_q9 R) E ds w :=
  TrL_one (Tr_loop' (c := innerC c24_3_0) (σ := Int × Int) (enc := (fun (s : Int × Int) (E : Env) => E 3 = .int .i64 s.1 /\ E 4 = .int .i64 s.2)) (D := (fun E K => dInt .i64 (E 3) fun n3 => dInt .i64 (E 4) fun n4 => K (n3, n4))) (F := (fun (J1 : (Int × Int) -> World -> Prop) (s : Int × Int) (w : World) => F24_6 R J1 p1 s.1 s.2 ds w)) (s0 := (n3, n4)) (by kernel_rfl) c24_3_0_l ⟨e3, e4⟩ (by kernel_rfl) (fun E K hD => by obtain ⟨n3, e3, hD⟩ := dInt_elim hD; obtain ⟨n4, e4, hD⟩ := dInt_elim hD; exact ⟨(n3, n4), ⟨e3, e4⟩, hD⟩)
      (fun J1 s E' w' he ha hF => by
      obtain ⟨e3', e4'⟩ := he
      exact F24_6_ok R J1 p1 s.1 s.2 ds w' E' ((ha 1 (by kernel_rfl)).trans e1) e3' e4' hF) h)
theorem F24_8_ok (R : Rt) (p1 : Option Addr) (n3 n4 : Int) (ds : Ds) (w : World) (E : Env) (e1 : E 1 = .pointer p1) (e3 : E 3 = .int .i64 n3) (e4 : E 4 = .int .i64 n4) (h : F24_8 R p1 n3 n4 ds w) :
    TrL prog f24.ntmps [c24_3, c24_4, c24_5, c24_6, c24_7] (F24_q1 R) E ds w :=
  TrL_head (K := (F24_k7 R)) (Tr_block' (c := innerC c24_3) (by kernel_rfl) c24_3_l (F24_7_ok R p1 n3 n4 ds w E e1 e3 e4 h))
    (fun E' ds' w' hD => by
      obtain ⟨p1, e1, hD⟩ := dPtr_elim hD; obtain ⟨n3, e3, hD⟩ := dInt_elim hD; exact F24_5_ok R p1 n3 ds' w' E' e1 e3 hD)
theorem F24_9_ok (R : Rt) (n0_0 : Int) (l0_1 l0_2 : SV) (ds : Ds) (w : World) (E : Env) (e0 : E 0 = .agg #[.int .i64 n0_0, .slice l0_1.a l0_1.len l0_1.cap, .slice l0_2.a l0_2.len l0_2.cap]) (h : F24_9 R n0_0 l0_1 l0_2 ds w) :
    TrL prog f24.ntmps [c24_0, c24_1, c24_2, c24_3, c24_4, c24_5, c24_6, c24_7] (F24_q1 R) E ds w :=
  TrL_piece (pre := [c24_0, c24_1, c24_2]) (K := (F24_k11 R)) (X := F24_9 R n0_0 l0_1 l0_2 ds w) (setAll_cons e0 setAll_nil) (by kernel_rfl) (by kernel_rfl)
    (fun E' ds' w' hD => by
      obtain ⟨p1, e1, hD⟩ := dPtr_elim hD; obtain ⟨n3, e3, hD⟩ := dInt_elim hD; obtain ⟨n4, e4, hD⟩ := dInt_elim hD; exact F24_8_ok R p1 n3 n4 ds' w' E' e1 e3 e4 hD) h
theorem F24_calls (n0_0 : Int) (l0_1 l0_2 : SV) (w : World) (R : Rt) (h : F24_9 R n0_0 l0_1 l0_2 [] w) : Calls prog 24 #[.agg #[.int .i64 n0_0, .slice l0_1.a l0_1.len l0_1.cap, .slice l0_2.a l0_2.len l0_2.cap]] w R :=
  calls_of_L (l := [c24_0, c24_1, c24_2, c24_3, c24_4, c24_5, c24_6, c24_7]) func24 (by kernel_rfl) (by rw [ntmps24]; exact Nat.le_of_ble_eq_true (by kernel_rfl)) c24_l
    (F24_9_ok R n0_0 l0_1 l0_2 [] w _ rfl h)
noncomputable def c64_0 := cI15 f64 0
noncomputable def c64_1 := cI15 f64 1
noncomputable def c64_2 := cI15 f64 2
noncomputable def c64_3 := cI15 f64 3
noncomputable def c64_4 := cI15 f64 4
noncomputable def c64_5 := cI15 f64 5
noncomputable def c64_3_0 := cJ15 c64_3 0
noncomputable def c64_3_0_0 := cJ15 c64_3_0 0
noncomputable def c64_3_0_1 := cJ15 c64_3_0 1
noncomputable def c64_3_0_2 := cJ15 c64_3_0 2
noncomputable def c64_3_0_3 := cJ15 c64_3_0 3
def F64_q1 (R : Rt) : EQ := endQ prog f64.results.toList R
def F64_1 (R : Rt) (n3 : Int) (ds : Ds) (w : World) : Prop :=
 runD prog ds w fun w1 =>
 R (.returned (.int .i64 n3)) w1
def F64_k2 (R : Rt) : EP := (fun E ds w => dInt .i64 (E 3) fun n3 => F64_1 R n3 ds w)
def F64_q3 (R : Rt) : EQ := (thenQ (F64_k2 R) (F64_q1 R))
def F64_q4 (R : Rt) : EQ := (blockQ 0 (F64_q3 R))
def F64_q5 (R : Rt) (J1 : (Int × Int) -> World -> Prop) : EQ := (thenQ (fun E _ w => dInt .i64 (E 3) fun n3 => dInt .i64 (E 4) fun n4 => J1 (n3, n4) w) (F64_q4 R))
def F64_2 (R : Rt) (J1 : (Int × Int) -> World -> Prop) (l0 : SV) (n3 n4 : Int) (ds : Ds) (w : World) : Prop :=
 Br (decide (n4 < (l0.len : Int))) (
 ∃ a2 : Addr, l0.a = some a2 /\ 0 ≤ n4 /\ n4 < (l0.len : Int) /\
 ∃ s19 : ByteArray, w.cell? ((a2.add (n4.toNat * 3)).add 2) = some (.string s19) /\
 J1 ((IntKind.i64.wrap (n3 + (s19.size : Int))), (IntKind.i64.wrap (n4 + 1))) w) (
 F64_1 R n3 ds w)
def F64_3 (R : Rt) (l0 : SV) (n3 n4 : Int) (ds : Ds) (w : World) : Prop :=
 loopT (fun (J1 : (Int × Int) -> World -> Prop) (s : Int × Int) (w : World) => F64_2 R J1 l0 s.1 s.2 ds w) (n3, n4) w
abbrev F64_4 (R : Rt) (l0 : SV) (n3 n4 : Int) (ds : Ds) (w : World) : Prop := F64_3 R l0 n3 n4 ds w
def F64_k6 (R : Rt) : EP := (fun E ds w => dSl (E 0) fun l0 => dInt .i64 (E 3) fun n3 => dInt .i64 (E 4) fun n4 => F64_4 R l0 n3 n4 ds w)
def F64_5 (R : Rt) (l0 : SV) (ds : Ds) (w : World) : Prop :=
 F64_4 R l0 (IntKind.i64.wrap ((8 : Int) * (l0.len : Int))) 0 ds w
theorem c64_l : flat (bodyOf f64) = [c64_0, c64_1, c64_2, c64_3, c64_4, c64_5] := by kernel_rfl
theorem c64_3_l : flat (innerC c64_3) = [c64_3_0] := by kernel_rfl
theorem c64_3_0_l : flat (innerC c64_3_0) = [c64_3_0_0, c64_3_0_1, c64_3_0_2, c64_3_0_3] := by kernel_rfl
theorem F64_1_ok (R : Rt) (n3 : Int) (ds : Ds) (w : World) (E : Env) (e3 : E 3 = .int .i64 n3) (h : F64_1 R n3 ds w) :
    TrL prog f64.ntmps [c64_4, c64_5] (F64_q1 R) E ds w :=
  TrL_leaf (X := F64_1 R n3 ds w) (setAll_cons e3 setAll_nil) (by kernel_rfl) (by kernel_rfl) h
theorem F64_2_ok (R : Rt) (J1 : (Int × Int) -> World -> Prop) (l0 : SV) (n3 n4 : Int) (ds : Ds) (w : World) (E : Env) (e0 : E 0 = .slice l0.a l0.len l0.cap) (e3 : E 3 = .int .i64 n3) (e4 : E 4 = .int .i64 n4) (h : F64_2 R J1 l0 n3 n4 ds w) :
    TrL prog f64.ntmps [c64_3_0_0, c64_3_0_1, c64_3_0_2, c64_3_0_3] (F64_q5 R J1) E ds w :=
  TrL_leaf (X := F64_2 R J1 l0 n3 n4 ds w) (setAll_cons e0 (setAll_cons e3 (setAll_cons e4 setAll_nil))) (by kernel_rfl) (by kernel_rfl) h
theorem F64_3_ok (R : Rt) (l0 : SV) (n3 n4 : Int) (ds : Ds) (w : World) (E : Env) (e0 : E 0 = .slice l0.a l0.len l0.cap) (e3 : E 3 = .int .i64 n3) (e4 : E 4 = .int .i64 n4) (h : F64_3 R l0 n3 n4 ds w) :
    TrL prog f64.ntmps [c64_3_0] (F64_q4 R) E ds w :=
  TrL_one (Tr_loop' (c := innerC c64_3_0) (σ := Int × Int) (enc := (fun (s : Int × Int) (E : Env) => E 3 = .int .i64 s.1 /\ E 4 = .int .i64 s.2)) (D := (fun E K => dInt .i64 (E 3) fun n3 => dInt .i64 (E 4) fun n4 => K (n3, n4))) (F := (fun (J1 : (Int × Int) -> World -> Prop) (s : Int × Int) (w : World) => F64_2 R J1 l0 s.1 s.2 ds w)) (s0 := (n3, n4)) (by kernel_rfl) c64_3_0_l ⟨e3, e4⟩ (by kernel_rfl) (fun E K hD => by obtain ⟨n3, e3, hD⟩ := dInt_elim hD; obtain ⟨n4, e4, hD⟩ := dInt_elim hD; exact ⟨(n3, n4), ⟨e3, e4⟩, hD⟩)
      (fun J1 s E' w' he ha hF => by
      obtain ⟨e3', e4'⟩ := he
      exact F64_2_ok R J1 l0 s.1 s.2 ds w' E' ((ha 0 (by kernel_rfl)).trans e0) e3' e4' hF) h)
theorem F64_4_ok (R : Rt) (l0 : SV) (n3 n4 : Int) (ds : Ds) (w : World) (E : Env) (e0 : E 0 = .slice l0.a l0.len l0.cap) (e3 : E 3 = .int .i64 n3) (e4 : E 4 = .int .i64 n4) (h : F64_4 R l0 n3 n4 ds w) :
    TrL prog f64.ntmps [c64_3, c64_4, c64_5] (F64_q1 R) E ds w :=
  TrL_head (K := (F64_k2 R)) (Tr_block' (c := innerC c64_3) (by kernel_rfl) c64_3_l (F64_3_ok R l0 n3 n4 ds w E e0 e3 e4 h))
    (fun E' ds' w' hD => by
      obtain ⟨n3, e3, hD⟩ := dInt_elim hD; exact F64_1_ok R n3 ds' w' E' e3 hD)
theorem F64_5_ok (R : Rt) (l0 : SV) (ds : Ds) (w : World) (E : Env) (e0 : E 0 = .slice l0.a l0.len l0.cap) (h : F64_5 R l0 ds w) :
    TrL prog f64.ntmps [c64_0, c64_1, c64_2, c64_3, c64_4, c64_5] (F64_q1 R) E ds w :=
  TrL_piece (pre := [c64_0, c64_1, c64_2]) (K := (F64_k6 R)) (X := F64_5 R l0 ds w) (setAll_cons e0 setAll_nil) (by kernel_rfl) (by kernel_rfl)
    (fun E' ds' w' hD => by
      obtain ⟨l0, e0, hD⟩ := dSl_elim hD; obtain ⟨n3, e3, hD⟩ := dInt_elim hD; obtain ⟨n4, e4, hD⟩ := dInt_elim hD; exact F64_4_ok R l0 n3 n4 ds' w' E' e0 e3 e4 hD) h
theorem F64_calls (l0 : SV) (w : World) (R : Rt) (h : F64_5 R l0 [] w) : Calls prog 64 #[.slice l0.a l0.len l0.cap] w R :=
  calls_of_L (l := [c64_0, c64_1, c64_2, c64_3, c64_4, c64_5]) func64 (by kernel_rfl) (by rw [ntmps64]; exact Nat.le_of_ble_eq_true (by kernel_rfl)) c64_l
    (F64_5_ok R l0 [] w _ rfl h)
end Go.Proofs.YtecmfdfhpldmmaaGreatDoor

/- Shallow texts of functions, printed by program, each checked by the kernel against the loaded code. No condition. -/
set_option maxRecDepth 100000
set_option linter.unusedVariables false
namespace Go.Proofs.YtecmfdfhpldmmaaGreatDoor
open Go.Sh
open Tryz
@[reducible] noncomputable def cI16 (f : Func) (i : Nat) : Code := itemAt (flat (bodyOf f)) i
@[reducible] noncomputable def cJ16 (c : Code) (i : Nat) : Code := itemAt (flat (innerC c)) i
noncomputable def c29_0 := cI16 f29 0
noncomputable def c29_1 := cI16 f29 1
noncomputable def c29_2 := cI16 f29 2
def F29_q1 (R : Rt) : EQ := endQ prog f29.results.toList R
def F29_1 (R : Rt) (b0_0 : Bool) (l0_1 : SV) (b1_0 : Bool) (l1_1 : SV) (ds : Ds) (w : World) : Prop :=
 alE (.cells #[.bool b0_0, .slice l0_1.a l0_1.len l0_1.cap] 46) w fun r2 w1 =>
 alE (.cells #[.bool b1_0, .slice l1_1.a l1_1.len l1_1.cap] 46) w1 fun r3 w2 =>
 ∃ b6 : Bool, w2.cell? (⟨r2, 0, none⟩ : Addr) = some (.bool b6) /\
 ∃ b8 : Bool, w2.cell? (⟨r3, 0, none⟩ : Addr) = some (.bool b8) /\
 Br (b6 == b8) (
 ∃ l12 : SV, w2.cell? ((⟨r2, 0, none⟩ : Addr).add 1) = some (.slice l12.a l12.len l12.cap) /\
 ∃ l14 : SV, w2.cell? ((⟨r3, 0, none⟩ : Addr).add 1) = some (.slice l14.a l14.len l14.cap) /\
 Calls prog 68 #[.slice l12.a l12.len l12.cap, .slice l14.a l14.len l14.cap] w2 fun e w3 =>
 ∃ b15 : Bool, e = .returned (.bool b15) /\
 runD prog ds w3 fun w4 =>
 R (.returned (.bool b15)) w4) (
 runD prog ds w2 fun w5 =>
 R (.returned (.bool false)) w5)
theorem c29_l : flat (bodyOf f29) = [c29_0, c29_1, c29_2] := by kernel_rfl
theorem F29_1_ok (R : Rt) (b0_0 : Bool) (l0_1 : SV) (b1_0 : Bool) (l1_1 : SV) (ds : Ds) (w : World) (E : Env) (e0 : E 0 = .agg #[.bool b0_0, .slice l0_1.a l0_1.len l0_1.cap]) (e1 : E 1 = .agg #[.bool b1_0, .slice l1_1.a l1_1.len l1_1.cap]) (h : F29_1 R b0_0 l0_1 b1_0 l1_1 ds w) :
    TrL prog f29.ntmps [c29_0, c29_1, c29_2] (F29_q1 R) E ds w :=
  TrL_leaf (X := F29_1 R b0_0 l0_1 b1_0 l1_1 ds w) (setAll_cons e0 (setAll_cons e1 setAll_nil)) (by kernel_rfl) (by kernel_rfl) h
theorem F29_calls (b0_0 : Bool) (l0_1 : SV) (b1_0 : Bool) (l1_1 : SV) (w : World) (R : Rt) (h : F29_1 R b0_0 l0_1 b1_0 l1_1 [] w) : Calls prog 29 #[.agg #[.bool b0_0, .slice l0_1.a l0_1.len l0_1.cap], .agg #[.bool b1_0, .slice l1_1.a l1_1.len l1_1.cap]] w R :=
  calls_of_L (l := [c29_0, c29_1, c29_2]) func29 (by kernel_rfl) (by rw [ntmps29]; exact Nat.le_of_ble_eq_true (by kernel_rfl)) c29_l
    (F29_1_ok R b0_0 l0_1 b1_0 l1_1 [] w _ rfl rfl h)
noncomputable def c68_0 := cI16 f68 0
noncomputable def c68_1 := cI16 f68 1
noncomputable def c68_2 := cI16 f68 2
noncomputable def c68_3 := cI16 f68 3
noncomputable def c68_4 := cI16 f68 4
noncomputable def c68_5 := cI16 f68 5
noncomputable def c68_6 := cI16 f68 6
noncomputable def c68_4_0 := cJ16 c68_4 0
noncomputable def c68_4_0_0 := cJ16 c68_4_0 0
noncomputable def c68_4_0_1 := cJ16 c68_4_0 1
noncomputable def c68_4_0_2 := cJ16 c68_4_0 2
noncomputable def c68_4_0_3 := cJ16 c68_4_0 3
def F68_q1 (R : Rt) : EQ := endQ prog f68.results.toList R
def F68_1 (R : Rt) (ds : Ds) (w : World) : Prop :=
 runD prog ds w fun w1 =>
 R (.returned (.bool true)) w1
def F68_k2 (R : Rt) : EP := (fun E ds w => F68_1 R ds w)
def F68_q3 (R : Rt) : EQ := (thenQ (F68_k2 R) (F68_q1 R))
def F68_q4 (R : Rt) : EQ := (blockQ 0 (F68_q3 R))
def F68_q5 (R : Rt) (J1 : (Int) -> World -> Prop) : EQ := (thenQ (fun E _ w => dInt .i64 (E 5) fun n5 => J1 n5 w) (F68_q4 R))
def F68_2 (R : Rt) (J1 : (Int) -> World -> Prop) (l0 l1 : SV) (n5 : Int) (ds : Ds) (w : World) : Prop :=
 Br (decide (n5 < (l0.len : Int))) (
 dwE w fun w2 =>
 ∃ a3 : Addr, l0.a = some a3 /\ 0 ≤ n5 /\ n5 < (l0.len : Int) /\
 ∃ n20_0 : Int, w2.cell? ((a3.add (n5.toNat * 3)).add 0) = some (.int .i64 n20_0) /\
 ∃ n20_1 : Int, w2.cell? ((a3.add (n5.toNat * 3)).add 1) = some (.int .i64 n20_1) /\
 ∃ s20_2 : ByteArray, w2.cell? ((a3.add (n5.toNat * 3)).add 2) = some (.string s20_2) /\
 ∃ a4 : Addr, l1.a = some a4 /\ 0 ≤ n5 /\ n5 < (l1.len : Int) /\
 ∃ n24_0 : Int, w2.cell? ((a4.add (n5.toNat * 3)).add 0) = some (.int .i64 n24_0) /\
 ∃ n24_1 : Int, w2.cell? ((a4.add (n5.toNat * 3)).add 1) = some (.int .i64 n24_1) /\
 ∃ s24_2 : ByteArray, w2.cell? ((a4.add (n5.toNat * 3)).add 2) = some (.string s24_2) /\
 Calls prog 15 #[.agg #[.int .i64 n20_0, .int .i64 n20_1, .string s20_2], .agg #[.int .i64 n24_0, .int .i64 n24_1, .string s24_2]] w2 fun e w5 =>
 ∃ b25 : Bool, e = .returned (.bool b25) /\
 Br (!b25) (
 runD prog ds w5 fun w6 =>
 R (.returned (.bool false)) w6) (
 J1 (IntKind.i64.wrap (n5 + 1)) w5)) (
 F68_1 R ds w)
def F68_3 (R : Rt) (l0 l1 : SV) (n5 : Int) (ds : Ds) (w : World) : Prop :=
 loopT (fun (J1 : (Int) -> World -> Prop) (s : Int) (w : World) => F68_2 R J1 l0 l1 s ds w) n5 w
abbrev F68_4 (R : Rt) (l0 l1 : SV) (n5 : Int) (ds : Ds) (w : World) : Prop := F68_3 R l0 l1 n5 ds w
def F68_k6 (R : Rt) : EP := (fun E ds w => dSl (E 0) fun l0 => dSl (E 1) fun l1 => dInt .i64 (E 5) fun n5 => F68_4 R l0 l1 n5 ds w)
def F68_5 (R : Rt) (l0 l1 : SV) (ds : Ds) (w : World) : Prop :=
 Br ((l0.len : Int) != (l1.len : Int)) (
 runD prog ds w fun w7 =>
 R (.returned (.bool false)) w7) (
 F68_4 R l0 l1 0 ds w)
theorem c68_l : flat (bodyOf f68) = [c68_0, c68_1, c68_2, c68_3, c68_4, c68_5, c68_6] := by kernel_rfl
theorem c68_4_l : flat (innerC c68_4) = [c68_4_0] := by kernel_rfl
theorem c68_4_0_l : flat (innerC c68_4_0) = [c68_4_0_0, c68_4_0_1, c68_4_0_2, c68_4_0_3] := by kernel_rfl
theorem F68_1_ok (R : Rt) (ds : Ds) (w : World) (E : Env) (h : F68_1 R ds w) :
    TrL prog f68.ntmps [c68_5, c68_6] (F68_q1 R) E ds w :=
  TrL_leaf (X := F68_1 R ds w) setAll_nil (by kernel_rfl) (by kernel_rfl) h
theorem F68_2_ok (R : Rt) (J1 : (Int) -> World -> Prop) (l0 l1 : SV) (n5 : Int) (ds : Ds) (w : World) (E : Env) (e0 : E 0 = .slice l0.a l0.len l0.cap) (e1 : E 1 = .slice l1.a l1.len l1.cap) (e5 : E 5 = .int .i64 n5) (h : F68_2 R J1 l0 l1 n5 ds w) :
    TrL prog f68.ntmps [c68_4_0_0, c68_4_0_1, c68_4_0_2, c68_4_0_3] (F68_q5 R J1) E ds w :=
  TrL_leaf (X := F68_2 R J1 l0 l1 n5 ds w) (setAll_cons e0 (setAll_cons e1 (setAll_cons e5 setAll_nil))) (by kernel_rfl) (by kernel_rfl) h
theorem F68_3_ok (R : Rt) (l0 l1 : SV) (n5 : Int) (ds : Ds) (w : World) (E : Env) (e0 : E 0 = .slice l0.a l0.len l0.cap) (e1 : E 1 = .slice l1.a l1.len l1.cap) (e5 : E 5 = .int .i64 n5) (h : F68_3 R l0 l1 n5 ds w) :
    TrL prog f68.ntmps [c68_4_0] (F68_q4 R) E ds w :=
  TrL_one (Tr_loop' (c := innerC c68_4_0) (σ := Int) (enc := (fun (s : Int) (E : Env) => E 5 = .int .i64 s)) (D := (fun E K => dInt .i64 (E 5) fun n5 => K n5)) (F := (fun (J1 : (Int) -> World -> Prop) (s : Int) (w : World) => F68_2 R J1 l0 l1 s ds w)) (s0 := n5) (by kernel_rfl) c68_4_0_l e5 (by kernel_rfl) (fun E K hD => by obtain ⟨n5, e5, hD⟩ := dInt_elim hD; exact ⟨n5, e5, hD⟩)
      (fun J1 s E' w' he ha hF => by
      have e5' := he
      exact F68_2_ok R J1 l0 l1 s ds w' E' ((ha 0 (by kernel_rfl)).trans e0) ((ha 1 (by kernel_rfl)).trans e1) e5' hF) h)
theorem F68_4_ok (R : Rt) (l0 l1 : SV) (n5 : Int) (ds : Ds) (w : World) (E : Env) (e0 : E 0 = .slice l0.a l0.len l0.cap) (e1 : E 1 = .slice l1.a l1.len l1.cap) (e5 : E 5 = .int .i64 n5) (h : F68_4 R l0 l1 n5 ds w) :
    TrL prog f68.ntmps [c68_4, c68_5, c68_6] (F68_q1 R) E ds w :=
  TrL_head (K := (F68_k2 R)) (Tr_block' (c := innerC c68_4) (by kernel_rfl) c68_4_l (F68_3_ok R l0 l1 n5 ds w E e0 e1 e5 h))
    (fun E' ds' w' hD => by
      exact F68_1_ok R ds' w' E'  hD)
theorem F68_5_ok (R : Rt) (l0 l1 : SV) (ds : Ds) (w : World) (E : Env) (e0 : E 0 = .slice l0.a l0.len l0.cap) (e1 : E 1 = .slice l1.a l1.len l1.cap) (h : F68_5 R l0 l1 ds w) :
    TrL prog f68.ntmps [c68_0, c68_1, c68_2, c68_3, c68_4, c68_5, c68_6] (F68_q1 R) E ds w :=
  TrL_piece (pre := [c68_0, c68_1, c68_2, c68_3]) (K := (F68_k6 R)) (X := F68_5 R l0 l1 ds w) (setAll_cons e0 (setAll_cons e1 setAll_nil)) (by kernel_rfl) (by kernel_rfl)
    (fun E' ds' w' hD => by
      obtain ⟨l0, e0, hD⟩ := dSl_elim hD; obtain ⟨l1, e1, hD⟩ := dSl_elim hD; obtain ⟨n5, e5, hD⟩ := dInt_elim hD; exact F68_4_ok R l0 l1 n5 ds' w' E' e0 e1 e5 hD) h
theorem F68_calls (l0 l1 : SV) (w : World) (R : Rt) (h : F68_5 R l0 l1 [] w) : Calls prog 68 #[.slice l0.a l0.len l0.cap, .slice l1.a l1.len l1.cap] w R :=
  calls_of_L (l := [c68_0, c68_1, c68_2, c68_3, c68_4, c68_5, c68_6]) func68 (by kernel_rfl) (by rw [ntmps68]; exact Nat.le_of_ble_eq_true (by kernel_rfl)) c68_l
    (F68_5_ok R l0 l1 [] w _ rfl rfl h)
end Go.Proofs.YtecmfdfhpldmmaaGreatDoor

/- Shallow texts of functions, printed by program, each checked by the kernel against the loaded code. No condition. -/
set_option maxRecDepth 100000
set_option linter.unusedVariables false
namespace Go.Proofs.YtecmfdfhpldmmaaGreatDoor
open Go.Sh
open Tryz
@[reducible] noncomputable def cI17 (f : Func) (i : Nat) : Code := itemAt (flat (bodyOf f)) i
noncomputable def c118_0 := cI17 f118 0
noncomputable def c118_1 := cI17 f118 1
noncomputable def c118_2 := cI17 f118 2
def F118_q1 (R : Rt) : EQ := endQ prog f118.results.toList R
def F118_1 (R : Rt) (n0 : Int) (ds : Ds) (w : World) : Prop :=
 alE (.cells #[.int .i64 0, .int .i64 0, .string (⟨#[]⟩ : ByteArray)] 25) w fun r2 w1 =>
 stA prog 25 (⟨r2, 0, none⟩ : Addr) #[.int .i64 2, .int .i64 n0, .string (⟨#[]⟩ : ByteArray)] w1 fun w2 =>
 runD prog ds w2 fun w3 =>
 ∃ nR0_0 : Int, w3.cell? ((⟨r2, 0, none⟩ : Addr).add 0) = some (.int .i64 nR0_0) /\
 ∃ nR0_1 : Int, w3.cell? ((⟨r2, 0, none⟩ : Addr).add 1) = some (.int .i64 nR0_1) /\
 ∃ sR0_2 : ByteArray, w3.cell? ((⟨r2, 0, none⟩ : Addr).add 2) = some (.string sR0_2) /\
 R (.returned (.agg #[.int .i64 nR0_0, .int .i64 nR0_1, .string sR0_2])) w3
theorem c118_l : flat (bodyOf f118) = [c118_0, c118_1, c118_2] := by kernel_rfl
theorem F118_1_ok (R : Rt) (n0 : Int) (ds : Ds) (w : World) (E : Env) (e0 : E 0 = .int .i64 n0) (h : F118_1 R n0 ds w) :
    TrL prog f118.ntmps [c118_0, c118_1, c118_2] (F118_q1 R) E ds w :=
  TrL_leaf (X := F118_1 R n0 ds w) (setAll_cons e0 setAll_nil) (by kernel_rfl) (by kernel_rfl) h
theorem F118_calls (n0 : Int) (w : World) (R : Rt) (h : F118_1 R n0 [] w) : Calls prog 118 #[.int .i64 n0] w R :=
  calls_of_L (l := [c118_0, c118_1, c118_2]) func118 (by kernel_rfl) (by rw [ntmps118]; exact Nat.le_of_ble_eq_true (by kernel_rfl)) c118_l
    (F118_1_ok R n0 [] w _ rfl h)
end Go.Proofs.YtecmfdfhpldmmaaGreatDoor

/- Shallow texts of functions, printed by program, each checked by the kernel against the loaded code. No condition. -/
set_option maxRecDepth 100000
set_option linter.unusedVariables false
namespace Go.Proofs.YtecmfdfhpldmmaaGreatDoor
open Go.Sh
open Tryz
@[reducible] noncomputable def cI18 (f : Func) (i : Nat) : Code := itemAt (flat (bodyOf f)) i
@[reducible] noncomputable def cJ18 (c : Code) (i : Nat) : Code := itemAt (flat (innerC c)) i
noncomputable def c79_0 := cI18 f79 0
noncomputable def c79_1 := cI18 f79 1
noncomputable def c79_2 := cI18 f79 2
noncomputable def c79_3 := cI18 f79 3
noncomputable def c79_4 := cI18 f79 4
noncomputable def c79_5 := cI18 f79 5
noncomputable def c79_6 := cI18 f79 6
noncomputable def c79_4_0 := cJ18 c79_4 0
noncomputable def c79_4_0_0 := cJ18 c79_4_0 0
noncomputable def c79_4_0_1 := cJ18 c79_4_0 1
noncomputable def c79_4_0_2 := cJ18 c79_4_0 2
noncomputable def c79_4_0_3 := cJ18 c79_4_0 3
def F79_q1 (R : Rt) : EQ := endQ prog f79.results.toList R
def F79_1 (R : Rt) (ds : Ds) (w : World) : Prop :=
 runD prog ds w fun w1 =>
 R (.returned (.bool true)) w1
def F79_k2 (R : Rt) : EP := (fun E ds w => F79_1 R ds w)
def F79_q3 (R : Rt) : EQ := (thenQ (F79_k2 R) (F79_q1 R))
def F79_q4 (R : Rt) : EQ := (blockQ 0 (F79_q3 R))
def F79_q5 (R : Rt) (J1 : (Int) -> World -> Prop) : EQ := (thenQ (fun E _ w => dInt .i64 (E 5) fun n5 => J1 n5 w) (F79_q4 R))
def F79_2 (R : Rt) (J1 : (Int) -> World -> Prop) (l0 l1 : SV) (n5 : Int) (ds : Ds) (w : World) : Prop :=
 Br (decide (n5 < (l0.len : Int))) (
 dwE w fun w2 =>
 ∃ a3 : Addr, l0.a = some a3 /\ 0 ≤ n5 /\ n5 < (l0.len : Int) /\
 ∃ s20_0 : ByteArray, w2.cell? ((a3.add (n5.toNat * 4)).add 0) = some (.string s20_0) /\
 ∃ n20_1 : Int, w2.cell? ((a3.add (n5.toNat * 4)).add 1) = some (.int .i64 n20_1) /\
 ∃ n20_2 : Int, w2.cell? ((a3.add (n5.toNat * 4)).add 2) = some (.int .i64 n20_2) /\
 ∃ b20_3 : Bool, w2.cell? ((a3.add (n5.toNat * 4)).add 3) = some (.bool b20_3) /\
 ∃ a4 : Addr, l1.a = some a4 /\ 0 ≤ n5 /\ n5 < (l1.len : Int) /\
 ∃ s24_0 : ByteArray, w2.cell? ((a4.add (n5.toNat * 4)).add 0) = some (.string s24_0) /\
 ∃ n24_1 : Int, w2.cell? ((a4.add (n5.toNat * 4)).add 1) = some (.int .i64 n24_1) /\
 ∃ n24_2 : Int, w2.cell? ((a4.add (n5.toNat * 4)).add 2) = some (.int .i64 n24_2) /\
 ∃ b24_3 : Bool, w2.cell? ((a4.add (n5.toNat * 4)).add 3) = some (.bool b24_3) /\
 ∃ b25 : Bool, (∀ w, (eqS .neq 23 (.tmp 20) (.tmp 24) (.agg #[.string s20_0, .int .i64 n20_1, .int .i64 n20_2, .bool b20_3]) (.agg #[.string s24_0, .int .i64 n24_1, .int .i64 n24_2, .bool b24_3])).run prog w = .ok (.bool b25) w) /\
 Br b25 (
 runD prog ds w2 fun w5 =>
 R (.returned (.bool false)) w5) (
 J1 (IntKind.i64.wrap (n5 + 1)) w2)) (
 F79_1 R ds w)
def F79_3 (R : Rt) (l0 l1 : SV) (n5 : Int) (ds : Ds) (w : World) : Prop :=
 loopT (fun (J1 : (Int) -> World -> Prop) (s : Int) (w : World) => F79_2 R J1 l0 l1 s ds w) n5 w
abbrev F79_4 (R : Rt) (l0 l1 : SV) (n5 : Int) (ds : Ds) (w : World) : Prop := F79_3 R l0 l1 n5 ds w
def F79_k6 (R : Rt) : EP := (fun E ds w => dSl (E 0) fun l0 => dSl (E 1) fun l1 => dInt .i64 (E 5) fun n5 => F79_4 R l0 l1 n5 ds w)
def F79_5 (R : Rt) (l0 l1 : SV) (ds : Ds) (w : World) : Prop :=
 Br ((l0.len : Int) != (l1.len : Int)) (
 runD prog ds w fun w6 =>
 R (.returned (.bool false)) w6) (
 F79_4 R l0 l1 0 ds w)
theorem c79_l : flat (bodyOf f79) = [c79_0, c79_1, c79_2, c79_3, c79_4, c79_5, c79_6] := by kernel_rfl
theorem c79_4_l : flat (innerC c79_4) = [c79_4_0] := by kernel_rfl
theorem c79_4_0_l : flat (innerC c79_4_0) = [c79_4_0_0, c79_4_0_1, c79_4_0_2, c79_4_0_3] := by kernel_rfl
theorem F79_1_ok (R : Rt) (ds : Ds) (w : World) (E : Env) (h : F79_1 R ds w) :
    TrL prog f79.ntmps [c79_5, c79_6] (F79_q1 R) E ds w :=
  TrL_leaf (X := F79_1 R ds w) setAll_nil (by kernel_rfl) (by kernel_rfl) h
theorem F79_2_ok (R : Rt) (J1 : (Int) -> World -> Prop) (l0 l1 : SV) (n5 : Int) (ds : Ds) (w : World) (E : Env) (e0 : E 0 = .slice l0.a l0.len l0.cap) (e1 : E 1 = .slice l1.a l1.len l1.cap) (e5 : E 5 = .int .i64 n5) (h : F79_2 R J1 l0 l1 n5 ds w) :
    TrL prog f79.ntmps [c79_4_0_0, c79_4_0_1, c79_4_0_2, c79_4_0_3] (F79_q5 R J1) E ds w :=
  TrL_leaf (X := F79_2 R J1 l0 l1 n5 ds w) (setAll_cons e0 (setAll_cons e1 (setAll_cons e5 setAll_nil))) (by kernel_rfl) (by kernel_rfl) h
theorem F79_3_ok (R : Rt) (l0 l1 : SV) (n5 : Int) (ds : Ds) (w : World) (E : Env) (e0 : E 0 = .slice l0.a l0.len l0.cap) (e1 : E 1 = .slice l1.a l1.len l1.cap) (e5 : E 5 = .int .i64 n5) (h : F79_3 R l0 l1 n5 ds w) :
    TrL prog f79.ntmps [c79_4_0] (F79_q4 R) E ds w :=
  TrL_one (Tr_loop' (c := innerC c79_4_0) (σ := Int) (enc := (fun (s : Int) (E : Env) => E 5 = .int .i64 s)) (D := (fun E K => dInt .i64 (E 5) fun n5 => K n5)) (F := (fun (J1 : (Int) -> World -> Prop) (s : Int) (w : World) => F79_2 R J1 l0 l1 s ds w)) (s0 := n5) (by kernel_rfl) c79_4_0_l e5 (by kernel_rfl) (fun E K hD => by obtain ⟨n5, e5, hD⟩ := dInt_elim hD; exact ⟨n5, e5, hD⟩)
      (fun J1 s E' w' he ha hF => by
      have e5' := he
      exact F79_2_ok R J1 l0 l1 s ds w' E' ((ha 0 (by kernel_rfl)).trans e0) ((ha 1 (by kernel_rfl)).trans e1) e5' hF) h)
theorem F79_4_ok (R : Rt) (l0 l1 : SV) (n5 : Int) (ds : Ds) (w : World) (E : Env) (e0 : E 0 = .slice l0.a l0.len l0.cap) (e1 : E 1 = .slice l1.a l1.len l1.cap) (e5 : E 5 = .int .i64 n5) (h : F79_4 R l0 l1 n5 ds w) :
    TrL prog f79.ntmps [c79_4, c79_5, c79_6] (F79_q1 R) E ds w :=
  TrL_head (K := (F79_k2 R)) (Tr_block' (c := innerC c79_4) (by kernel_rfl) c79_4_l (F79_3_ok R l0 l1 n5 ds w E e0 e1 e5 h))
    (fun E' ds' w' hD => by
      exact F79_1_ok R ds' w' E'  hD)
theorem F79_5_ok (R : Rt) (l0 l1 : SV) (ds : Ds) (w : World) (E : Env) (e0 : E 0 = .slice l0.a l0.len l0.cap) (e1 : E 1 = .slice l1.a l1.len l1.cap) (h : F79_5 R l0 l1 ds w) :
    TrL prog f79.ntmps [c79_0, c79_1, c79_2, c79_3, c79_4, c79_5, c79_6] (F79_q1 R) E ds w :=
  TrL_piece (pre := [c79_0, c79_1, c79_2, c79_3]) (K := (F79_k6 R)) (X := F79_5 R l0 l1 ds w) (setAll_cons e0 (setAll_cons e1 setAll_nil)) (by kernel_rfl) (by kernel_rfl)
    (fun E' ds' w' hD => by
      obtain ⟨l0, e0, hD⟩ := dSl_elim hD; obtain ⟨l1, e1, hD⟩ := dSl_elim hD; obtain ⟨n5, e5, hD⟩ := dInt_elim hD; exact F79_4_ok R l0 l1 n5 ds' w' E' e0 e1 e5 hD) h
theorem F79_calls (l0 l1 : SV) (w : World) (R : Rt) (h : F79_5 R l0 l1 [] w) : Calls prog 79 #[.slice l0.a l0.len l0.cap, .slice l1.a l1.len l1.cap] w R :=
  calls_of_L (l := [c79_0, c79_1, c79_2, c79_3, c79_4, c79_5, c79_6]) func79 (by kernel_rfl) (by rw [ntmps79]; exact Nat.le_of_ble_eq_true (by kernel_rfl)) c79_l
    (F79_5_ok R l0 l1 [] w _ rfl rfl h)
end Go.Proofs.YtecmfdfhpldmmaaGreatDoor

/- Shallow texts of functions, printed by program, each checked by the kernel against the loaded code. No condition. -/
set_option maxRecDepth 100000
set_option linter.unusedVariables false
namespace Go.Proofs.YtecmfdfhpldmmaaGreatDoor
open Go.Sh
open Tryz
@[reducible] noncomputable def cI19 (f : Func) (i : Nat) : Code := itemAt (flat (bodyOf f)) i
noncomputable def c125_0 := cI19 f125 0
noncomputable def c125_1 := cI19 f125 1
noncomputable def c125_2 := cI19 f125 2
def F125_q1 (R : Rt) : EQ := endQ prog f125.results.toList R
def F125_1 (R : Rt) (s0_0 : ByteArray) (n0_1 n0_2 : Int) (b0_3 : Bool) (n1_0 n1_1 : Int) (s1_2 : ByteArray) (ds : Ds) (w : World) : Prop :=
 alE (.cells #[.string s0_0, .int .i64 n0_1, .int .i64 n0_2, .bool b0_3] 23) w fun r2 w1 =>
 alE (.cells #[.int .i64 n1_0, .int .i64 n1_1, .string s1_2] 25) w1 fun r3 w2 =>
 ∃ n6 : Int, w2.cell? ((⟨r3, 0, none⟩ : Addr).add 1) = some (.int .i64 n6) /\
 ∃ n8 : Int, w2.cell? ((⟨r3, 0, none⟩ : Addr).add 1) = some (.int .i64 n8) /\
 0 ≤ (IntKind.i64.wrap (n8 + 1)) /\ (IntKind.i64.wrap (n8 + 1)).toNat ≤ (⟨#[70, 84]⟩ : ByteArray).size /\ 0 ≤ n6 /\ n6.toNat ≤ (IntKind.i64.wrap (n8 + 1)).toNat /\
 runD prog ds w2 fun w3 =>
 R (.returned (.string ((⟨#[70, 84]⟩ : ByteArray).extract n6.toNat ((IntKind.i64.wrap (n8 + 1)).toNat)))) w3
theorem c125_l : flat (bodyOf f125) = [c125_0, c125_1, c125_2] := by kernel_rfl
theorem F125_1_ok (R : Rt) (s0_0 : ByteArray) (n0_1 n0_2 : Int) (b0_3 : Bool) (n1_0 n1_1 : Int) (s1_2 : ByteArray) (ds : Ds) (w : World) (E : Env) (e0 : E 0 = .agg #[.string s0_0, .int .i64 n0_1, .int .i64 n0_2, .bool b0_3]) (e1 : E 1 = .agg #[.int .i64 n1_0, .int .i64 n1_1, .string s1_2]) (h : F125_1 R s0_0 n0_1 n0_2 b0_3 n1_0 n1_1 s1_2 ds w) :
    TrL prog f125.ntmps [c125_0, c125_1, c125_2] (F125_q1 R) E ds w :=
  TrL_leaf (X := F125_1 R s0_0 n0_1 n0_2 b0_3 n1_0 n1_1 s1_2 ds w) (setAll_cons e0 (setAll_cons e1 setAll_nil)) (by kernel_rfl) (by kernel_rfl) h
theorem F125_calls (s0_0 : ByteArray) (n0_1 n0_2 : Int) (b0_3 : Bool) (n1_0 n1_1 : Int) (s1_2 : ByteArray) (w : World) (R : Rt) (h : F125_1 R s0_0 n0_1 n0_2 b0_3 n1_0 n1_1 s1_2 [] w) : Calls prog 125 #[.agg #[.string s0_0, .int .i64 n0_1, .int .i64 n0_2, .bool b0_3], .agg #[.int .i64 n1_0, .int .i64 n1_1, .string s1_2]] w R :=
  calls_of_L (l := [c125_0, c125_1, c125_2]) func125 (by kernel_rfl) (by rw [ntmps125]; exact Nat.le_of_ble_eq_true (by kernel_rfl)) c125_l
    (F125_1_ok R s0_0 n0_1 n0_2 b0_3 n1_0 n1_1 s1_2 [] w _ rfl rfl h)
noncomputable def c129_0 := cI19 f129 0
noncomputable def c129_1 := cI19 f129 1
noncomputable def c129_2 := cI19 f129 2
noncomputable def c129_3 := cI19 f129 3
def F129_q1 (R : Rt) : EQ := endQ prog f129.results.toList R
def F129_1 (R : Rt) (s0_0 : ByteArray) (n0_1 n0_2 : Int) (b0_3 : Bool) (n1_0 n1_1 : Int) (s1_2 : ByteArray) (ds : Ds) (w : World) : Prop :=
 alE (.cells #[.string s0_0, .int .i64 n0_1, .int .i64 n0_2, .bool b0_3] 23) w fun r2 w1 =>
 alE (.cells #[.int .i64 n1_0, .int .i64 n1_1, .string s1_2] 25) w1 fun r3 w2 =>
 ∃ n9 : Int, w2.cell? ((⟨r3, 0, none⟩ : Addr).add 1) = some (.int .i64 n9) /\
 Calls prog 156 #[.int .i64 n9] w2 fun e w3 =>
 ∃ s10_0 : ByteArray, ∃ n10_1 : Int, e = .returned (.tuple #[.string s10_0, .int .i64 n10_1]) /\
 runD prog ds w3 fun w4 =>
 R (.returned (.string s10_0)) w4
theorem c129_l : flat (bodyOf f129) = [c129_0, c129_1, c129_2, c129_3] := by kernel_rfl
theorem F129_1_ok (R : Rt) (s0_0 : ByteArray) (n0_1 n0_2 : Int) (b0_3 : Bool) (n1_0 n1_1 : Int) (s1_2 : ByteArray) (ds : Ds) (w : World) (E : Env) (e0 : E 0 = .agg #[.string s0_0, .int .i64 n0_1, .int .i64 n0_2, .bool b0_3]) (e1 : E 1 = .agg #[.int .i64 n1_0, .int .i64 n1_1, .string s1_2]) (h : F129_1 R s0_0 n0_1 n0_2 b0_3 n1_0 n1_1 s1_2 ds w) :
    TrL prog f129.ntmps [c129_0, c129_1, c129_2, c129_3] (F129_q1 R) E ds w :=
  TrL_leaf (X := F129_1 R s0_0 n0_1 n0_2 b0_3 n1_0 n1_1 s1_2 ds w) (setAll_cons e0 (setAll_cons e1 setAll_nil)) (by kernel_rfl) (by kernel_rfl) h
theorem F129_calls (s0_0 : ByteArray) (n0_1 n0_2 : Int) (b0_3 : Bool) (n1_0 n1_1 : Int) (s1_2 : ByteArray) (w : World) (R : Rt) (h : F129_1 R s0_0 n0_1 n0_2 b0_3 n1_0 n1_1 s1_2 [] w) : Calls prog 129 #[.agg #[.string s0_0, .int .i64 n0_1, .int .i64 n0_2, .bool b0_3], .agg #[.int .i64 n1_0, .int .i64 n1_1, .string s1_2]] w R :=
  calls_of_L (l := [c129_0, c129_1, c129_2, c129_3]) func129 (by kernel_rfl) (by rw [ntmps129]; exact Nat.le_of_ble_eq_true (by kernel_rfl)) c129_l
    (F129_1_ok R s0_0 n0_1 n0_2 b0_3 n1_0 n1_1 s1_2 [] w _ rfl rfl h)
end Go.Proofs.YtecmfdfhpldmmaaGreatDoor

/- Shallow texts of functions, printed by program, each checked by the kernel against the loaded code. No condition. -/
set_option maxRecDepth 100000
set_option linter.unusedVariables false
namespace Go.Proofs.YtecmfdfhpldmmaaGreatDoor
open Go.Sh
open Tryz
end Go.Proofs.YtecmfdfhpldmmaaGreatDoor

/- Shallow texts of functions, printed by program, each checked by the kernel against the loaded code. No condition. -/
set_option maxRecDepth 100000
set_option linter.unusedVariables false
namespace Go.Proofs.YtecmfdfhpldmmaaGreatDoor
open Go.Sh
open Tryz
@[reducible] noncomputable def cI21 (f : Func) (i : Nat) : Code := itemAt (flat (bodyOf f)) i
@[reducible] noncomputable def cJ21 (c : Code) (i : Nat) : Code := itemAt (flat (innerC c)) i
noncomputable def c152_0 := cI21 f152 0
noncomputable def c152_1 := cI21 f152 1
noncomputable def c152_2 := cI21 f152 2
noncomputable def c152_3 := cI21 f152 3
noncomputable def c152_4 := cI21 f152 4
noncomputable def c152_5 := cI21 f152 5
noncomputable def c152_6 := cI21 f152 6
noncomputable def c152_7 := cI21 f152 7
def F152_q1 (R : Rt) : EQ := endQ prog f152.results.toList R
def F152_1 (R : Rt) (s0 : ByteArray) (ds : Ds) (w : World) : Prop :=
 Br (s0.toList == (⟨#[32, 32, 32, 32, 32, 32, 32, 32]⟩ : ByteArray).toList) (
 runD prog ds w fun w1 =>
 R (.returned (.tuple #[.int .i64 0, .bool true])) w1) (
 Br ((s0.size : Int) != 8) (
 runD prog ds w fun w2 =>
 R (.returned (.tuple #[.int .i64 0, .bool false])) w2) (
 Calls prog 135 #[.string s0, .string (⟨#[48, 49, 50, 51, 52, 53, 54, 55, 56, 57]⟩ : ByteArray)] w fun e w3 =>
 ∃ s13 : ByteArray, e = .returned (.string s13) /\
 Br (!(s13.toList == (⟨#[]⟩ : ByteArray).toList)) (
 runD prog ds w3 fun w4 =>
 R (.returned (.tuple #[.int .i64 0, .bool false])) w4) (
 dwE w3 fun w5 =>
 0 ≤ (4 : Int) /\ (4 : Int).toNat ≤ s0.size /\ 0 ≤ (4 : Int).toNat /\
 0 ≤ (6 : Int) /\ (6 : Int).toNat ≤ s0.size /\ 0 ≤ (4 : Int) /\ (4 : Int).toNat ≤ (6 : Int).toNat /\
 s0.size ≤ s0.size /\ 0 ≤ (6 : Int) /\ (6 : Int).toNat ≤ s0.size /\
 Calls prog 151 #[.string (s0.extract 0 ((4 : Int).toNat))] w5 fun e w6 =>
 ∃ n19 : Int, e = .returned (.int .i64 n19) /\
 Calls prog 151 #[.string (s0.extract ((4 : Int).toNat) ((6 : Int).toNat))] w6 fun e w7 =>
 ∃ n22 : Int, e = .returned (.int .i64 n22) /\
 Calls prog 151 #[.string (s0.extract ((6 : Int).toNat) s0.size)] w7 fun e w8 =>
 ∃ n25 : Int, e = .returned (.int .i64 n25) /\
 Calls prog 169 #[.int .i64 n19, .int .i64 n22, .int .i64 n25] w8 fun e w9 =>
 ∃ n26_0 : Int, ∃ n26_1 : Int, e = .returned (.tuple #[.int .i64 n26_0, .int .i64 n26_1]) /\
 runD prog ds w9 fun w10 =>
 R (.returned (.tuple #[.int .i64 n26_0, .bool (n26_1 == 0)])) w10)))
theorem c152_l : flat (bodyOf f152) = [c152_0, c152_1, c152_2, c152_3, c152_4, c152_5, c152_6, c152_7] := by kernel_rfl
theorem F152_1_ok (R : Rt) (s0 : ByteArray) (ds : Ds) (w : World) (E : Env) (e0 : E 0 = .string s0) (h : F152_1 R s0 ds w) :
    TrL prog f152.ntmps [c152_0, c152_1, c152_2, c152_3, c152_4, c152_5, c152_6, c152_7] (F152_q1 R) E ds w :=
  TrL_leaf (X := F152_1 R s0 ds w) (setAll_cons e0 setAll_nil) (by kernel_rfl) (by kernel_rfl) h
theorem F152_calls (s0 : ByteArray) (w : World) (R : Rt) (h : F152_1 R s0 [] w) : Calls prog 152 #[.string s0] w R :=
  calls_of_L (l := [c152_0, c152_1, c152_2, c152_3, c152_4, c152_5, c152_6, c152_7]) func152 (by kernel_rfl) (by rw [ntmps152]; exact Nat.le_of_ble_eq_true (by kernel_rfl)) c152_l
    (F152_1_ok R s0 [] w _ rfl h)
noncomputable def c151_0 := cI21 f151 0
noncomputable def c151_1 := cI21 f151 1
noncomputable def c151_2 := cI21 f151 2
noncomputable def c151_3 := cI21 f151 3
noncomputable def c151_4 := cI21 f151 4
noncomputable def c151_5 := cI21 f151 5
noncomputable def c151_6 := cI21 f151 6
noncomputable def c151_7 := cI21 f151 7
noncomputable def c151_8 := cI21 f151 8
noncomputable def c151_9 := cI21 f151 9
noncomputable def c151_7_0 := cJ21 c151_7 0
noncomputable def c151_7_0_0 := cJ21 c151_7_0 0
noncomputable def c151_7_0_1 := cJ21 c151_7_0 1
noncomputable def c151_7_0_2 := cJ21 c151_7_0 2
noncomputable def c151_7_0_3 := cJ21 c151_7_0 3
def F151_q1 (R : Rt) : EQ := endQ prog f151.results.toList R
def F151_1 (R : Rt) (n3 n4 : Int) (ds : Ds) (w : World) : Prop :=
 runD prog ds w fun w1 =>
 R (.returned (.int .i64 (IntKind.i64.wrap (n3 * n4)))) w1
def F151_k2 (R : Rt) : EP := (fun E ds w => dInt .i64 (E 3) fun n3 => dInt .i64 (E 4) fun n4 => F151_1 R n3 n4 ds w)
def F151_q3 (R : Rt) : EQ := (thenQ (F151_k2 R) (F151_q1 R))
def F151_q4 (R : Rt) : EQ := (blockQ 0 (F151_q3 R))
def F151_q5 (R : Rt) (J1 : (Int × Int) -> World -> Prop) : EQ := (thenQ (fun E _ w => dInt .i64 (E 4) fun n4 => dInt .i64 (E 27) fun n27 => J1 (n4, n27) w) (F151_q4 R))
def F151_2 (R : Rt) (J1 : (Int × Int) -> World -> Prop) (s0 : ByteArray) (n3 n4 n26 n27 : Int) (ds : Ds) (w : World) : Prop :=
 Br (decide (n27 < n26)) (
 ∃ b32 : UInt8, 0 ≤ n27 /\ s0[n27.toNat]? = some b32 /\
 Br (decide ((b32.toNat : Int) < 48)) (
 F151_1 R n3 n4 ds w) (
 ∃ b37 : UInt8, 0 ≤ n27 /\ s0[n27.toNat]? = some b37 /\
 Br (decide ((b37.toNat : Int) > 57)) (
 F151_1 R n3 n4 ds w) (
 ∃ b44 : UInt8, 0 ≤ n27 /\ s0[n27.toNat]? = some b44 /\
 ∃ n48 : Int, ∃ w2 : World, (Builtin.min_ #[3, 3] 3 #[.int .i64 (IntKind.i64.wrap ((IntKind.i64.wrap (n4 * 10)) + (IntKind.i64.wrap (IntKind.u8.wrap ((b44.toNat : Int) - 48))))), .int .i64 1000000000000000]).run prog w = .ok (.int .i64 n48) w2 /\
 J1 (n48, (IntKind.i64.wrap (n27 + 1))) w2))) (
 F151_1 R n3 n4 ds w)
def F151_3 (R : Rt) (s0 : ByteArray) (n3 n4 n26 n27 : Int) (ds : Ds) (w : World) : Prop :=
 loopT (fun (J1 : (Int × Int) -> World -> Prop) (s : Int × Int) (w : World) => F151_2 R J1 s0 n3 s.1 n26 s.2 ds w) (n4, n27) w
abbrev F151_4 (R : Rt) (s0 : ByteArray) (n3 n4 n26 n27 : Int) (ds : Ds) (w : World) : Prop := F151_3 R s0 n3 n4 n26 n27 ds w
def F151_k6 (R : Rt) : EP := (fun E ds w => dStr (E 0) fun s0 => dInt .i64 (E 3) fun n3 => dInt .i64 (E 4) fun n4 => dInt .i64 (E 26) fun n26 => dInt .i64 (E 27) fun n27 => F151_4 R s0 n3 n4 n26 n27 ds w)
def F151_5 (R : Rt) (s0 : ByteArray) (n3 : Int) (ds : Ds) (w : World) : Prop :=
 F151_4 R s0 n3 0 (s0.size : Int) 0 ds w
def F151_k7 (R : Rt) : EP := (fun E ds w => dStr (E 0) fun s0 => dInt .i64 (E 3) fun n3 => F151_5 R s0 n3 ds w)
def F151_6 (R : Rt) (s0 : ByteArray) (ds : Ds) (w : World) : Prop :=
 Calls prog 168 #[.string s0, .string (⟨#[32]⟩ : ByteArray)] w fun e w3 =>
 ∃ s7 : ByteArray, e = .returned (.string s7) /\
 Br (!(s7.toList == (⟨#[]⟩ : ByteArray).toList)) (
 ∃ b12 : UInt8, 0 ≤ (0 : Int) /\ s7[(0 : Int).toNat]? = some b12 /\
 Br ((b12.toNat : Int) == 45) (
 ∃ b21 : UInt8, 0 ≤ (0 : Int) /\ s7[(0 : Int).toNat]? = some b21 /\
 Br ((b21.toNat : Int) == 45) (
 s7.size ≤ s7.size /\ 0 ≤ (1 : Int) /\ (1 : Int).toNat ≤ s7.size /\
 F151_5 R (s7.extract ((1 : Int).toNat) s7.size) (-1) ds w3) (
 s7.size ≤ s7.size /\ 0 ≤ (1 : Int) /\ (1 : Int).toNat ≤ s7.size /\
 F151_5 R (s7.extract ((1 : Int).toNat) s7.size) 1 ds w3)) (
 ∃ b16 : UInt8, 0 ≤ (0 : Int) /\ s7[(0 : Int).toNat]? = some b16 /\
 Br ((b16.toNat : Int) == 43) (
 ∃ b21 : UInt8, 0 ≤ (0 : Int) /\ s7[(0 : Int).toNat]? = some b21 /\
 Br ((b21.toNat : Int) == 45) (
 s7.size ≤ s7.size /\ 0 ≤ (1 : Int) /\ (1 : Int).toNat ≤ s7.size /\
 F151_5 R (s7.extract ((1 : Int).toNat) s7.size) (-1) ds w3) (
 s7.size ≤ s7.size /\ 0 ≤ (1 : Int) /\ (1 : Int).toNat ≤ s7.size /\
 F151_5 R (s7.extract ((1 : Int).toNat) s7.size) 1 ds w3)) (
 F151_5 R s7 1 ds w3))) (
 F151_5 R s7 1 ds w3)
theorem c151_l : flat (bodyOf f151) = [c151_0, c151_1, c151_2, c151_3, c151_4, c151_5, c151_6, c151_7, c151_8, c151_9] := by kernel_rfl
theorem c151_7_l : flat (innerC c151_7) = [c151_7_0] := by kernel_rfl
theorem c151_7_0_l : flat (innerC c151_7_0) = [c151_7_0_0, c151_7_0_1, c151_7_0_2, c151_7_0_3] := by kernel_rfl
theorem F151_1_ok (R : Rt) (n3 n4 : Int) (ds : Ds) (w : World) (E : Env) (e3 : E 3 = .int .i64 n3) (e4 : E 4 = .int .i64 n4) (h : F151_1 R n3 n4 ds w) :
    TrL prog f151.ntmps [c151_8, c151_9] (F151_q1 R) E ds w :=
  TrL_leaf (X := F151_1 R n3 n4 ds w) (setAll_cons e3 (setAll_cons e4 setAll_nil)) (by kernel_rfl) (by kernel_rfl) h
theorem F151_2_ok (R : Rt) (J1 : (Int × Int) -> World -> Prop) (s0 : ByteArray) (n3 n4 n26 n27 : Int) (ds : Ds) (w : World) (E : Env) (e0 : E 0 = .string s0) (e3 : E 3 = .int .i64 n3) (e4 : E 4 = .int .i64 n4) (e26 : E 26 = .int .i64 n26) (e27 : E 27 = .int .i64 n27) (h : F151_2 R J1 s0 n3 n4 n26 n27 ds w) :
    TrL prog f151.ntmps [c151_7_0_0, c151_7_0_1, c151_7_0_2, c151_7_0_3] (F151_q5 R J1) E ds w :=
  TrL_leaf (X := F151_2 R J1 s0 n3 n4 n26 n27 ds w) (setAll_cons e0 (setAll_cons e3 (setAll_cons e4 (setAll_cons e26 (setAll_cons e27 setAll_nil))))) (by kernel_rfl) (by kernel_rfl) h
theorem F151_3_ok (R : Rt) (s0 : ByteArray) (n3 n4 n26 n27 : Int) (ds : Ds) (w : World) (E : Env) (e0 : E 0 = .string s0) (e3 : E 3 = .int .i64 n3) (e4 : E 4 = .int .i64 n4) (e26 : E 26 = .int .i64 n26) (e27 : E 27 = .int .i64 n27) (h : F151_3 R s0 n3 n4 n26 n27 ds w) :
    TrL prog f151.ntmps [c151_7_0] (F151_q4 R) E ds w :=
  TrL_one (Tr_loop' (c := innerC c151_7_0) (σ := Int × Int) (enc := (fun (s : Int × Int) (E : Env) => E 4 = .int .i64 s.1 /\ E 27 = .int .i64 s.2)) (D := (fun E K => dInt .i64 (E 4) fun n4 => dInt .i64 (E 27) fun n27 => K (n4, n27))) (F := (fun (J1 : (Int × Int) -> World -> Prop) (s : Int × Int) (w : World) => F151_2 R J1 s0 n3 s.1 n26 s.2 ds w)) (s0 := (n4, n27)) (by kernel_rfl) c151_7_0_l ⟨e4, e27⟩ (by kernel_rfl) (fun E K hD => by obtain ⟨n4, e4, hD⟩ := dInt_elim hD; obtain ⟨n27, e27, hD⟩ := dInt_elim hD; exact ⟨(n4, n27), ⟨e4, e27⟩, hD⟩)
      (fun J1 s E' w' he ha hF => by
      obtain ⟨e4', e27'⟩ := he
      exact F151_2_ok R J1 s0 n3 s.1 n26 s.2 ds w' E' ((ha 0 (by kernel_rfl)).trans e0) ((ha 3 (by kernel_rfl)).trans e3) e4' ((ha 26 (by kernel_rfl)).trans e26) e27' hF) h)
theorem F151_4_ok (R : Rt) (s0 : ByteArray) (n3 n4 n26 n27 : Int) (ds : Ds) (w : World) (E : Env) (e0 : E 0 = .string s0) (e3 : E 3 = .int .i64 n3) (e4 : E 4 = .int .i64 n4) (e26 : E 26 = .int .i64 n26) (e27 : E 27 = .int .i64 n27) (h : F151_4 R s0 n3 n4 n26 n27 ds w) :
    TrL prog f151.ntmps [c151_7, c151_8, c151_9] (F151_q1 R) E ds w :=
  TrL_head (K := (F151_k2 R)) (Tr_block' (c := innerC c151_7) (by kernel_rfl) c151_7_l (F151_3_ok R s0 n3 n4 n26 n27 ds w E e0 e3 e4 e26 e27 h))
    (fun E' ds' w' hD => by
      obtain ⟨n3, e3, hD⟩ := dInt_elim hD; obtain ⟨n4, e4, hD⟩ := dInt_elim hD; exact F151_1_ok R n3 n4 ds' w' E' e3 e4 hD)
theorem F151_5_ok (R : Rt) (s0 : ByteArray) (n3 : Int) (ds : Ds) (w : World) (E : Env) (e0 : E 0 = .string s0) (e3 : E 3 = .int .i64 n3) (h : F151_5 R s0 n3 ds w) :
    TrL prog f151.ntmps [c151_5, c151_6, c151_7, c151_8, c151_9] (F151_q1 R) E ds w :=
  TrL_piece (pre := [c151_5, c151_6]) (K := (F151_k6 R)) (X := F151_5 R s0 n3 ds w) (setAll_cons e0 (setAll_cons e3 setAll_nil)) (by kernel_rfl) (by kernel_rfl)
    (fun E' ds' w' hD => by
      obtain ⟨s0, e0, hD⟩ := dStr_elim hD; obtain ⟨n3, e3, hD⟩ := dInt_elim hD; obtain ⟨n4, e4, hD⟩ := dInt_elim hD; obtain ⟨n26, e26, hD⟩ := dInt_elim hD; obtain ⟨n27, e27, hD⟩ := dInt_elim hD; exact F151_4_ok R s0 n3 n4 n26 n27 ds' w' E' e0 e3 e4 e26 e27 hD) h
theorem F151_6_ok (R : Rt) (s0 : ByteArray) (ds : Ds) (w : World) (E : Env) (e0 : E 0 = .string s0) (h : F151_6 R s0 ds w) :
    TrL prog f151.ntmps [c151_0, c151_1, c151_2, c151_3, c151_4, c151_5, c151_6, c151_7, c151_8, c151_9] (F151_q1 R) E ds w :=
  TrL_piece (pre := [c151_0, c151_1, c151_2, c151_3, c151_4]) (K := (F151_k7 R)) (X := F151_6 R s0 ds w) (setAll_cons e0 setAll_nil) (by kernel_rfl) (by kernel_rfl)
    (fun E' ds' w' hD => by
      obtain ⟨s0, e0, hD⟩ := dStr_elim hD; obtain ⟨n3, e3, hD⟩ := dInt_elim hD; exact F151_5_ok R s0 n3 ds' w' E' e0 e3 hD) h
theorem F151_calls (s0 : ByteArray) (w : World) (R : Rt) (h : F151_6 R s0 [] w) : Calls prog 151 #[.string s0] w R :=
  calls_of_L (l := [c151_0, c151_1, c151_2, c151_3, c151_4, c151_5, c151_6, c151_7, c151_8, c151_9]) func151 (by kernel_rfl) (by rw [ntmps151]; exact Nat.le_of_ble_eq_true (by kernel_rfl)) c151_l
    (F151_6_ok R s0 [] w _ rfl h)
end Go.Proofs.YtecmfdfhpldmmaaGreatDoor
