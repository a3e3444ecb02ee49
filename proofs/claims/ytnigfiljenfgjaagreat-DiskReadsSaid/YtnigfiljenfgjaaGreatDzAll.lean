import Derived.Test.YtnigfiljenfgjaaGreatProg
import Derived.Test.YtnigfiljenfgjaaGreatShEight
/- Shallow texts of functions, printed by program, each checked by the kernel against the loaded code. No condition. -/
set_option maxRecDepth 100000
set_option linter.unusedVariables false
namespace Go.Proofs.YtnigfiljenfgjaaGreat
open Go.Sh
open Tryz
@[reducible] noncomputable def cI0 (f : Func) (i : Nat) : Code := itemAt (flat (bodyOf f)) i
@[reducible] noncomputable def cJ0 (c : Code) (i : Nat) : Code := itemAt (flat (innerC c)) i
noncomputable def c9_0 := cI0 f9 0
noncomputable def c9_1 := cI0 f9 1
noncomputable def c9_2 := cI0 f9 2
noncomputable def c9_3 := cI0 f9 3
noncomputable def c9_4 := cI0 f9 4
noncomputable def c9_5 := cI0 f9 5
noncomputable def c9_3_0 := cJ0 c9_3 0
noncomputable def c9_3_0_0 := cJ0 c9_3_0 0
noncomputable def c9_3_0_1 := cJ0 c9_3_0 1
noncomputable def c9_3_0_2 := cJ0 c9_3_0 2
noncomputable def c9_3_0_3 := cJ0 c9_3_0 3
def F9_q1 (R : Rt) : EQ := endQ prog f9.results.toList R
def F9_1 (R : Rt) (p1 : Option Addr) (ds : Ds) (w : World) : Prop :=
 runD prog ds w fun w1 =>
 R (.returned (.pointer p1)) w1
def F9_k2 (R : Rt) : EP := (fun E ds w => dPtr (E 1) fun p1 => F9_1 R p1 ds w)
def F9_q3 (R : Rt) : EQ := (thenQ (F9_k2 R) (F9_q1 R))
def F9_q4 (R : Rt) : EQ := (blockQ 0 (F9_q3 R))
def F9_q5 (R : Rt) (J1 : (Int) -> World -> Prop) : EQ := (thenQ (fun E _ w => dInt .i64 (E 6) fun n6 => J1 n6 w) (F9_q4 R))
def F9_2 (R : Rt) (J1 : (Int) -> World -> Prop) (p1 : Option Addr) (n6 : Int) (ds : Ds) (w : World) : Prop :=
 Br (decide (n6 < 4)) (
 alE (.map #[] 0) w fun r11 w2 =>
 ptrE p1 fun a3 =>
 0 <= n6 /\ n6 < (4 : Int) /\
 st1 ((a3.add 3).add (n6.toNat * 1)) (.map (some r11)) w2 fun w4 =>
 J1 (IntKind.i64.wrap (n6 + 1)) w4) (
 F9_1 R p1 ds w)
def F9_3 (R : Rt) (p1 : Option Addr) (n6 : Int) (ds : Ds) (w : World) : Prop :=
 loopT (fun (J1 : (Int) -> World -> Prop) (s : Int) (w : World) => F9_2 R J1 p1 s ds w) n6 w
abbrev F9_4 (R : Rt) (p1 : Option Addr) (n6 : Int) (ds : Ds) (w : World) : Prop := F9_3 R p1 n6 ds w
def F9_k6 (R : Rt) : EP := (fun E ds w => dPtr (E 1) fun p1 => dInt .i64 (E 6) fun n6 => F9_4 R p1 n6 ds w)
def F9_5 (R : Rt) (ds : Ds) (w : World) : Prop :=
 alE (.map #[] 0) w fun r3 w5 =>
 alE (.cells #[.int .i32 0, .int .u32 0, .map (some r3), .map none, .map none, .map none, .map none, .slice none 0 0] 67) w5 fun r5 w6 =>
 F9_4 R (some (⟨r5, 0, none⟩ : Addr)) 0 ds w6
theorem c9_l : flat (bodyOf f9) = [c9_0, c9_1, c9_2, c9_3, c9_4, c9_5] := by kernel_rfl
theorem c9_3_l : flat (innerC c9_3) = [c9_3_0] := by kernel_rfl
theorem c9_3_0_l : flat (innerC c9_3_0) = [c9_3_0_0, c9_3_0_1, c9_3_0_2, c9_3_0_3] := by kernel_rfl
theorem F9_1_ok (R : Rt) (p1 : Option Addr) (ds : Ds) (w : World) (E : Env) (e1 : E 1 = .pointer p1) (h : F9_1 R p1 ds w) :
    TrL prog f9.ntmps [c9_4, c9_5] (F9_q1 R) E ds w :=
  TrL_leaf (X := F9_1 R p1 ds w) (setAll_cons e1 setAll_nil) (by kernel_rfl) (by kernel_rfl) h
theorem F9_2_ok (R : Rt) (J1 : (Int) -> World -> Prop) (p1 : Option Addr) (n6 : Int) (ds : Ds) (w : World) (E : Env) (e1 : E 1 = .pointer p1) (e6 : E 6 = .int .i64 n6) (h : F9_2 R J1 p1 n6 ds w) :
    TrL prog f9.ntmps [c9_3_0_0, c9_3_0_1, c9_3_0_2, c9_3_0_3] (F9_q5 R J1) E ds w :=
  TrL_leaf (X := F9_2 R J1 p1 n6 ds w) (setAll_cons e1 (setAll_cons e6 setAll_nil)) (by kernel_rfl) (by kernel_rfl) h
theorem F9_3_ok (R : Rt) (p1 : Option Addr) (n6 : Int) (ds : Ds) (w : World) (E : Env) (e1 : E 1 = .pointer p1) (e6 : E 6 = .int .i64 n6) (h : F9_3 R p1 n6 ds w) :
    TrL prog f9.ntmps [c9_3_0] (F9_q4 R) E ds w :=
  TrL_one (Tr_loop' (c := innerC c9_3_0) (σ := Int) (enc := (fun (s : Int) (E : Env) => E 6 = .int .i64 s)) (D := (fun E K => dInt .i64 (E 6) fun n6 => K n6)) (F := (fun (J1 : (Int) -> World -> Prop) (s : Int) (w : World) => F9_2 R J1 p1 s ds w)) (s0 := n6) (by kernel_rfl) c9_3_0_l e6 (by kernel_rfl) (fun E K hD => by obtain ⟨n6, e6, hD⟩ := dInt_elim hD; exact ⟨n6, e6, hD⟩)
      (fun J1 s E' w' he ha hF => by
      have e6' := he
      exact F9_2_ok R J1 p1 s ds w' E' ((ha 1 (by kernel_rfl)).trans e1) e6' hF) h)
theorem F9_4_ok (R : Rt) (p1 : Option Addr) (n6 : Int) (ds : Ds) (w : World) (E : Env) (e1 : E 1 = .pointer p1) (e6 : E 6 = .int .i64 n6) (h : F9_4 R p1 n6 ds w) :
    TrL prog f9.ntmps [c9_3, c9_4, c9_5] (F9_q1 R) E ds w :=
  TrL_head (K := (F9_k2 R)) (Tr_block' (c := innerC c9_3) (by kernel_rfl) c9_3_l (F9_3_ok R p1 n6 ds w E e1 e6 h))
    (fun E' ds' w' hD => by
      obtain ⟨p1, e1, hD⟩ := dPtr_elim hD; exact F9_1_ok R p1 ds' w' E' e1 hD)
theorem F9_5_ok (R : Rt) (ds : Ds) (w : World) (E : Env) (h : F9_5 R ds w) :
    TrL prog f9.ntmps [c9_0, c9_1, c9_2, c9_3, c9_4, c9_5] (F9_q1 R) E ds w :=
  TrL_piece (pre := [c9_0, c9_1, c9_2]) (K := (F9_k6 R)) (X := F9_5 R ds w) setAll_nil (by kernel_rfl) (by kernel_rfl)
    (fun E' ds' w' hD => by
      obtain ⟨p1, e1, hD⟩ := dPtr_elim hD; obtain ⟨n6, e6, hD⟩ := dInt_elim hD; exact F9_4_ok R p1 n6 ds' w' E' e1 e6 hD) h
theorem F9_calls  (w : World) (R : Rt) (h : F9_5 R [] w) : Calls prog 9 #[] w R :=
  calls_of_L (l := [c9_0, c9_1, c9_2, c9_3, c9_4, c9_5]) func9 (by kernel_rfl) (by rw [ntmps9]; exact Nat.le_of_ble_eq_true (by kernel_rfl)) c9_l
    (F9_5_ok R [] w _  h)
noncomputable def c16_0 := cI0 f16 0
noncomputable def c16_1 := cI0 f16 1
noncomputable def c16_2 := cI0 f16 2
noncomputable def c16_3 := cI0 f16 3
noncomputable def c16_4 := cI0 f16 4
noncomputable def c16_5 := cI0 f16 5
noncomputable def c16_6 := cI0 f16 6
def F16_q1 (R : Rt) : EQ := endQ prog f16.results.toList R
def F16_1 (R : Rt) (p0 : Option Addr) (s1 : ByteArray) (ds : Ds) (w : World) : Prop :=
 Calls prog 43 #[.pointer p0, .int .i64 0, .string s1] w fun e w1 =>
 ∃ v10_0 : Value, ∃ n10_1 : Int, e = .returned (.tuple #[v10_0, .int .i64 n10_1]) /\
 fnE v10_0 fun fx firstx capx =>
 Br (n10_1 == 0) (
 runD prog ({ target := .fn (.func fx) capx, args := (firstx.toList ++ ([] : List Value)).toArray } :: ds) w1 fun w2 =>
 R (.returned (.int .i64 5)) w2) (
 Br (n10_1 != 4) (
 runD prog ({ target := .fn (.func fx) capx, args := (firstx.toList ++ ([] : List Value)).toArray } :: ds) w1 fun w3 =>
 R (.returned (.int .i64 n10_1)) w3) (
 ptrE p0 fun a4 =>
 ∃ m25 : Option Nat, w1.cell? (a4.add 2) = some (.map m25) /\
 ∃ n26 : Int, ∃ w5 : World, (Builtin.len_ #[55] 3 #[.map m25]).run prog w1 = .ok (.int .i64 n26) w5 /\
 Br (decide (n26 ≥ 8)) (
 runD prog ({ target := .fn (.func fx) capx, args := (firstx.toList ++ ([] : List Value)).toArray } :: ds) w5 fun w6 =>
 R (.returned (.int .i64 3)) w6) (
 ptrE p0 fun a7 =>
 ∃ m31 : Option Nat, w5.cell? (a7.add 2) = some (.map m31) /\
 doE prog (Instr.mapUpdate 55 (.map m31) (.string s1) (.slice none 0 0)) w5 fun w8 =>
 runD prog ({ target := .fn (.func fx) capx, args := (firstx.toList ++ ([] : List Value)).toArray } :: ds) w8 fun w9 =>
 R (.returned (.int .i64 0)) w9)))
theorem c16_l : flat (bodyOf f16) = [c16_0, c16_1, c16_2, c16_3, c16_4, c16_5, c16_6] := by kernel_rfl
theorem F16_1_ok (R : Rt) (p0 : Option Addr) (s1 : ByteArray) (ds : Ds) (w : World) (E : Env) (e0 : E 0 = .pointer p0) (e1 : E 1 = .string s1) (h : F16_1 R p0 s1 ds w) :
    TrL prog f16.ntmps [c16_0, c16_1, c16_2, c16_3, c16_4, c16_5, c16_6] (F16_q1 R) E ds w :=
  TrL_leaf (X := F16_1 R p0 s1 ds w) (setAll_cons e0 (setAll_cons e1 setAll_nil)) (by kernel_rfl) (by kernel_rfl) h
theorem F16_calls (p0 : Option Addr) (s1 : ByteArray) (w : World) (R : Rt) (h : F16_1 R p0 s1 [] w) : Calls prog 16 #[.pointer p0, .string s1] w R :=
  calls_of_L (l := [c16_0, c16_1, c16_2, c16_3, c16_4, c16_5, c16_6]) func16 (by kernel_rfl) (by rw [ntmps16]; exact Nat.le_of_ble_eq_true (by kernel_rfl)) c16_l
    (F16_1_ok R p0 s1 [] w _ rfl rfl h)
noncomputable def c24_0 := cI0 f24 0
noncomputable def c24_1 := cI0 f24 1
noncomputable def c24_2 := cI0 f24 2
noncomputable def c24_3 := cI0 f24 3
noncomputable def c24_4 := cI0 f24 4
noncomputable def c24_5 := cI0 f24 5
noncomputable def c24_6 := cI0 f24 6
noncomputable def c24_7 := cI0 f24 7
noncomputable def c24_8 := cI0 f24 8
noncomputable def c24_9 := cI0 f24 9
noncomputable def c24_10 := cI0 f24 10
noncomputable def c24_11 := cI0 f24 11
noncomputable def c24_12 := cI0 f24 12
noncomputable def c24_13 := cI0 f24 13
noncomputable def c24_11_0 := cJ0 c24_11 0
noncomputable def c24_11_0_0 := cJ0 c24_11_0 0
noncomputable def c24_11_0_1 := cJ0 c24_11_0 1
noncomputable def c24_11_0_2 := cJ0 c24_11_0 2
noncomputable def c24_11_0_3 := cJ0 c24_11_0 3
def F24_q1 (R : Rt) : EQ := endQ prog f24.results.toList R
def F24_1 (R : Rt) (ds : Ds) (w : World) : Prop :=
 runD prog ds w fun w1 =>
 R (.returned (.int .i64 0)) w1
def F24_k2 (R : Rt) : EP := (fun E ds w => F24_1 R ds w)
def F24_q3 (R : Rt) : EQ := (thenQ (F24_k2 R) (F24_q1 R))
def F24_q4 (R : Rt) : EQ := (blockQ 0 (F24_q3 R))
def F24_q5 (R : Rt) (J1 : (Int) -> World -> Prop) : EQ := (thenQ (fun E _ w => dInt .i64 (E 43) fun n43 => J1 n43 w) (F24_q4 R))
def F24_2 (R : Rt) (J1 : (Int) -> World -> Prop) (p0 : Option Addr) (s1 : ByteArray) (n2 n43 : Int) (ds : Ds) (w : World) : Prop :=
 Br (decide (n43 < 4)) (
 Calls prog 67 #[.pointer p0, .int .i64 n43, .string s1, .int .i64 n2] w fun e w2 =>
 e = .returned (.tuple #[]) /\
 J1 (IntKind.i64.wrap (n43 + 1)) w2) (
 F24_1 R ds w)
def F24_3 (R : Rt) (p0 : Option Addr) (s1 : ByteArray) (n2 n43 : Int) (ds : Ds) (w : World) : Prop :=
 loopT (fun (J1 : (Int) -> World -> Prop) (s : Int) (w : World) => F24_2 R J1 p0 s1 n2 s ds w) n43 w
abbrev F24_4 (R : Rt) (p0 : Option Addr) (s1 : ByteArray) (n2 n43 : Int) (ds : Ds) (w : World) : Prop := F24_3 R p0 s1 n2 n43 ds w
def F24_k6 (R : Rt) : EP := (fun E ds w => dPtr (E 0) fun p0 => dStr (E 1) fun s1 => dInt .i64 (E 2) fun n2 => dInt .i64 (E 43) fun n43 => F24_4 R p0 s1 n2 n43 ds w)
def F24_5 (R : Rt) (p0 : Option Addr) (s1 : ByteArray) (n2 : Int) (ds : Ds) (w : World) : Prop :=
 Calls prog 43 #[.pointer p0, .int .i64 0, .string s1] w fun e w3 =>
 ∃ v14_0 : Value, ∃ n14_1 : Int, e = .returned (.tuple #[v14_0, .int .i64 n14_1]) /\
 fnE v14_0 fun fx firstx capx =>
 Br (n14_1 != 0) (
 runD prog ({ target := .fn (.func fx) capx, args := (firstx.toList ++ ([] : List Value)).toArray } :: ds) w3 fun w4 =>
 R (.returned (.int .i64 n14_1)) w4) (
 Br (decide (n2 < 0)) (
 runD prog ({ target := .fn (.func fx) capx, args := (firstx.toList ++ ([] : List Value)).toArray } :: ds) w3 fun w5 =>
 R (.returned (.int .i64 1)) w5) (
 Br (decide (n2 > 65536)) (
 runD prog ({ target := .fn (.func fx) capx, args := (firstx.toList ++ ([] : List Value)).toArray } :: ds) w3 fun w6 =>
 R (.returned (.int .i64 1)) w6) (
 ∃ l28 : SV, ∃ w7 : World, (Instr.makeSlice 36 (.int .i64 n2) (.int .i64 n2)).run prog w3 = .ok (.slice l28.a l28.len l28.cap) w7 /\
 ptrE p0 fun a8 =>
 ∃ m33 : Option Nat, w7.cell? (a8.add 2) = some (.map m33) /\
 ∃ l35 : SV, ∃ w9 : World, (Instr.lookup 55 (.map m33) (.string s1) false).run prog w7 = .ok (.slice l35.a l35.len l35.cap) w9 /\
 ∃ n36 : Int, ∃ w10 : World, (Builtin.copy_ #[36, 36] 3 #[.slice l28.a l28.len l28.cap, .slice l35.a l35.len l35.cap]).run prog w9 = .ok (.int .i64 n36) w10 /\
 ptrE p0 fun a11 =>
 ∃ m40 : Option Nat, w10.cell? (a11.add 2) = some (.map m40) /\
 doE prog (Instr.mapUpdate 55 (.map m40) (.string s1) (.slice l28.a l28.len l28.cap)) w10 fun w12 =>
 F24_4 R p0 s1 n2 0 ({ target := .fn (.func fx) capx, args := (firstx.toList ++ ([] : List Value)).toArray } :: ds) w12)))
theorem c24_l : flat (bodyOf f24) = [c24_0, c24_1, c24_2, c24_3, c24_4, c24_5, c24_6, c24_7, c24_8, c24_9, c24_10, c24_11, c24_12, c24_13] := by kernel_rfl
theorem c24_11_l : flat (innerC c24_11) = [c24_11_0] := by kernel_rfl
theorem c24_11_0_l : flat (innerC c24_11_0) = [c24_11_0_0, c24_11_0_1, c24_11_0_2, c24_11_0_3] := by kernel_rfl
theorem F24_1_ok (R : Rt) (ds : Ds) (w : World) (E : Env) (h : F24_1 R ds w) :
    TrL prog f24.ntmps [c24_12, c24_13] (F24_q1 R) E ds w :=
  TrL_leaf (X := F24_1 R ds w) setAll_nil (by kernel_rfl) (by kernel_rfl) h
theorem F24_2_ok (R : Rt) (J1 : (Int) -> World -> Prop) (p0 : Option Addr) (s1 : ByteArray) (n2 n43 : Int) (ds : Ds) (w : World) (E : Env) (e0 : E 0 = .pointer p0) (e1 : E 1 = .string s1) (e2 : E 2 = .int .i64 n2) (e43 : E 43 = .int .i64 n43) (h : F24_2 R J1 p0 s1 n2 n43 ds w) :
    TrL prog f24.ntmps [c24_11_0_0, c24_11_0_1, c24_11_0_2, c24_11_0_3] (F24_q5 R J1) E ds w :=
  TrL_leaf (X := F24_2 R J1 p0 s1 n2 n43 ds w) (setAll_cons e0 (setAll_cons e1 (setAll_cons e2 (setAll_cons e43 setAll_nil)))) (by kernel_rfl) (by kernel_rfl) h
theorem F24_3_ok (R : Rt) (p0 : Option Addr) (s1 : ByteArray) (n2 n43 : Int) (ds : Ds) (w : World) (E : Env) (e0 : E 0 = .pointer p0) (e1 : E 1 = .string s1) (e2 : E 2 = .int .i64 n2) (e43 : E 43 = .int .i64 n43) (h : F24_3 R p0 s1 n2 n43 ds w) :
    TrL prog f24.ntmps [c24_11_0] (F24_q4 R) E ds w :=
  TrL_one (Tr_loop' (c := innerC c24_11_0) (σ := Int) (enc := (fun (s : Int) (E : Env) => E 43 = .int .i64 s)) (D := (fun E K => dInt .i64 (E 43) fun n43 => K n43)) (F := (fun (J1 : (Int) -> World -> Prop) (s : Int) (w : World) => F24_2 R J1 p0 s1 n2 s ds w)) (s0 := n43) (by kernel_rfl) c24_11_0_l e43 (by kernel_rfl) (fun E K hD => by obtain ⟨n43, e43, hD⟩ := dInt_elim hD; exact ⟨n43, e43, hD⟩)
      (fun J1 s E' w' he ha hF => by
      have e43' := he
      exact F24_2_ok R J1 p0 s1 n2 s ds w' E' ((ha 0 (by kernel_rfl)).trans e0) ((ha 1 (by kernel_rfl)).trans e1) ((ha 2 (by kernel_rfl)).trans e2) e43' hF) h)
theorem F24_4_ok (R : Rt) (p0 : Option Addr) (s1 : ByteArray) (n2 n43 : Int) (ds : Ds) (w : World) (E : Env) (e0 : E 0 = .pointer p0) (e1 : E 1 = .string s1) (e2 : E 2 = .int .i64 n2) (e43 : E 43 = .int .i64 n43) (h : F24_4 R p0 s1 n2 n43 ds w) :
    TrL prog f24.ntmps [c24_11, c24_12, c24_13] (F24_q1 R) E ds w :=
  TrL_head (K := (F24_k2 R)) (Tr_block' (c := innerC c24_11) (by kernel_rfl) c24_11_l (F24_3_ok R p0 s1 n2 n43 ds w E e0 e1 e2 e43 h))
    (fun E' ds' w' hD => by
      exact F24_1_ok R ds' w' E'  hD)
theorem F24_5_ok (R : Rt) (p0 : Option Addr) (s1 : ByteArray) (n2 : Int) (ds : Ds) (w : World) (E : Env) (e0 : E 0 = .pointer p0) (e1 : E 1 = .string s1) (e2 : E 2 = .int .i64 n2) (h : F24_5 R p0 s1 n2 ds w) :
    TrL prog f24.ntmps [c24_0, c24_1, c24_2, c24_3, c24_4, c24_5, c24_6, c24_7, c24_8, c24_9, c24_10, c24_11, c24_12, c24_13] (F24_q1 R) E ds w :=
  TrL_piece (pre := [c24_0, c24_1, c24_2, c24_3, c24_4, c24_5, c24_6, c24_7, c24_8, c24_9, c24_10]) (K := (F24_k6 R)) (X := F24_5 R p0 s1 n2 ds w) (setAll_cons e0 (setAll_cons e1 (setAll_cons e2 setAll_nil))) (by kernel_rfl) (by kernel_rfl)
    (fun E' ds' w' hD => by
      obtain ⟨p0, e0, hD⟩ := dPtr_elim hD; obtain ⟨s1, e1, hD⟩ := dStr_elim hD; obtain ⟨n2, e2, hD⟩ := dInt_elim hD; obtain ⟨n43, e43, hD⟩ := dInt_elim hD; exact F24_4_ok R p0 s1 n2 n43 ds' w' E' e0 e1 e2 e43 hD) h
theorem F24_calls (p0 : Option Addr) (s1 : ByteArray) (n2 : Int) (w : World) (R : Rt) (h : F24_5 R p0 s1 n2 [] w) : Calls prog 24 #[.pointer p0, .string s1, .int .i64 n2] w R :=
  calls_of_L (l := [c24_0, c24_1, c24_2, c24_3, c24_4, c24_5, c24_6, c24_7, c24_8, c24_9, c24_10, c24_11, c24_12, c24_13]) func24 (by kernel_rfl) (by rw [ntmps24]; exact Nat.le_of_ble_eq_true (by kernel_rfl)) c24_l
    (F24_5_ok R p0 s1 n2 [] w _ rfl rfl rfl h)
noncomputable def c25_0 := cI0 f25 0
noncomputable def c25_1 := cI0 f25 1
noncomputable def c25_2 := cI0 f25 2
noncomputable def c25_3 := cI0 f25 3
noncomputable def c25_4 := cI0 f25 4
noncomputable def c25_5 := cI0 f25 5
noncomputable def c25_6 := cI0 f25 6
noncomputable def c25_7 := cI0 f25 7
noncomputable def c25_8 := cI0 f25 8
noncomputable def c25_9 := cI0 f25 9
def F25_q1 (R : Rt) : EQ := endQ prog f25.results.toList R
def F25_1 (R : Rt) (p0 : Option Addr) (n1 : Int) (s2 : ByteArray) (n3 : Int) (l4 : SV) (ds : Ds) (w : World) : Prop :=
 alE (.cells #[.slice l4.a l4.len l4.cap] 36) w fun r9 w1 =>
 Calls prog 43 #[.pointer p0, .int .i64 n1, .string s2] w1 fun e w2 =>
 ∃ v17_0 : Value, ∃ n17_1 : Int, e = .returned (.tuple #[v17_0, .int .i64 n17_1]) /\
 fnE v17_0 fun fx firstx capx =>
 Br (n17_1 != 0) (
 runD prog ({ target := .fn (.func fx) capx, args := (firstx.toList ++ ([] : List Value)).toArray } :: ds) w2 fun w3 =>
 R (.returned (.int .i64 n17_1)) w3) (
 dwE w2 fun w4 =>
 Br (decide (n3 < 0)) (
 runD prog ({ target := .fn (.func fx) capx, args := (firstx.toList ++ ([] : List Value)).toArray } :: ds) w4 fun w5 =>
 R (.returned (.int .i64 1)) w5) (
 ptrE p0 fun a6 =>
 ∃ m31 : Option Nat, w4.cell? (a6.add 2) = some (.map m31) /\
 ∃ l33 : SV, (Instr.lookup 55 (.map m31) (.string s2) false).run prog w4 = .ok (.slice l33.a l33.len l33.cap) w4 /\
 Br (decide (n3 > (l33.len : Int))) (
 runD prog ({ target := .fn (.func fx) capx, args := (firstx.toList ++ ([] : List Value)).toArray } :: ds) w4 fun w7 =>
 R (.returned (.int .i64 1)) w7) (
 ∃ l38 : SV, w4.cell? (⟨r9, 0, none⟩ : Addr) = some (.slice l38.a l38.len l38.cap) /\
 ptrE p0 fun a8 =>
 ∃ m43 : Option Nat, w4.cell? (a8.add 2) = some (.map m43) /\
 ∃ l45 : SV, (Instr.lookup 55 (.map m43) (.string s2) false).run prog w4 = .ok (.slice l45.a l45.len l45.cap) w4 /\
 Br (decide ((l38.len : Int) > (IntKind.i64.wrap ((l45.len : Int) - n3)))) (
 runD prog ({ target := .fn (.func fx) capx, args := (firstx.toList ++ ([] : List Value)).toArray } :: ds) w4 fun w9 =>
 R (.returned (.int .i64 1)) w9) (
 ∃ l55 : SV, w4.cell? (⟨r9, 0, none⟩ : Addr) = some (.slice l55.a l55.len l55.cap) /\
 Calls prog 44 #[.pointer p0, .int .i64 n1, .string s2, .int .i64 n3, .int .i64 (l55.len : Int), .func (.func 68) #[] #[.pointer (some (⟨r9, 0, none⟩ : Addr))]] w4 fun e w10 =>
 e = .returned (.tuple #[]) /\
 runD prog ({ target := .fn (.func fx) capx, args := (firstx.toList ++ ([] : List Value)).toArray } :: ds) w10 fun w11 =>
 R (.returned (.int .i64 0)) w11))))
theorem c25_l : flat (bodyOf f25) = [c25_0, c25_1, c25_2, c25_3, c25_4, c25_5, c25_6, c25_7, c25_8, c25_9] := by kernel_rfl
theorem F25_1_ok (R : Rt) (p0 : Option Addr) (n1 : Int) (s2 : ByteArray) (n3 : Int) (l4 : SV) (ds : Ds) (w : World) (E : Env) (e0 : E 0 = .pointer p0) (e1 : E 1 = .int .i64 n1) (e2 : E 2 = .string s2) (e3 : E 3 = .int .i64 n3) (e4 : E 4 = .slice l4.a l4.len l4.cap) (h : F25_1 R p0 n1 s2 n3 l4 ds w) :
    TrL prog f25.ntmps [c25_0, c25_1, c25_2, c25_3, c25_4, c25_5, c25_6, c25_7, c25_8, c25_9] (F25_q1 R) E ds w :=
  TrL_leaf (X := F25_1 R p0 n1 s2 n3 l4 ds w) (setAll_cons e0 (setAll_cons e1 (setAll_cons e2 (setAll_cons e3 (setAll_cons e4 setAll_nil))))) (by kernel_rfl) (by kernel_rfl) h
theorem F25_calls (p0 : Option Addr) (n1 : Int) (s2 : ByteArray) (n3 : Int) (l4 : SV) (w : World) (R : Rt) (h : F25_1 R p0 n1 s2 n3 l4 [] w) : Calls prog 25 #[.pointer p0, .int .i64 n1, .string s2, .int .i64 n3, .slice l4.a l4.len l4.cap] w R :=
  calls_of_L (l := [c25_0, c25_1, c25_2, c25_3, c25_4, c25_5, c25_6, c25_7, c25_8, c25_9]) func25 (by kernel_rfl) (by rw [ntmps25]; exact Nat.le_of_ble_eq_true (by kernel_rfl)) c25_l
    (F25_1_ok R p0 n1 s2 n3 l4 [] w _ rfl rfl rfl rfl rfl h)
noncomputable def c26_0 := cI0 f26 0
noncomputable def c26_1 := cI0 f26 1
noncomputable def c26_2 := cI0 f26 2
noncomputable def c26_3 := cI0 f26 3
noncomputable def c26_4 := cI0 f26 4
noncomputable def c26_5 := cI0 f26 5
noncomputable def c26_6 := cI0 f26 6
noncomputable def c26_7 := cI0 f26 7
noncomputable def c26_8 := cI0 f26 8
noncomputable def c26_9 := cI0 f26 9
noncomputable def c26_7_0 := cJ0 c26_7 0
noncomputable def c26_7_0_0 := cJ0 c26_7_0 0
noncomputable def c26_7_0_1 := cJ0 c26_7_0 1
noncomputable def c26_7_0_2 := cJ0 c26_7_0 2
noncomputable def c26_7_0_3 := cJ0 c26_7_0 3
def F26_q1 (R : Rt) : EQ := endQ prog f26.results.toList R
def F26_1 (R : Rt) (n10 : Int) (ds : Ds) (w : World) : Prop :=
 runD prog ds w fun w1 =>
 R (.returned (.tuple #[.int .i64 n10, .int .i64 0])) w1
def F26_k2 (R : Rt) : EP := (fun E ds w => dInt .i64 (E 10) fun n10 => F26_1 R n10 ds w)
def F26_q3 (R : Rt) : EQ := (thenQ (F26_k2 R) (F26_q1 R))
def F26_q4 (R : Rt) : EQ := (blockQ 0 (F26_q3 R))
def F26_q5 (R : Rt) (J1 : (Int × Int) -> World -> Prop) : EQ := (thenQ (fun E _ w => dInt .i64 (E 10) fun n10 => dInt .i64 (E 29) fun n29 => J1 (n10, n29) w) (F26_q4 R))
def F26_2 (R : Rt) (J1 : (Int × Int) -> World -> Prop) (p0 : Option Addr) (n1 n10 : Int) (l27 : SV) (n28 n29 : Int) (ds : Ds) (w : World) : Prop :=
 Br (decide (n29 < n28)) (
 ∃ a2 : Addr, l27.a = some a2 /\ 0 <= n29 /\ n29 < (l27.len : Int) /\
 ∃ s32_0 : ByteArray, w.cell? ((a2.add (n29.toNat * 2)).add 0) = some (.string s32_0) /\
 ∃ n32_1 : Int, w.cell? ((a2.add (n29.toNat * 2)).add 1) = some (.int .i64 n32_1) /\
 alE (.cells #[.string (⟨#[]⟩ : ByteArray), .int .i64 0] 92) w fun r12 w3 =>
 stA prog 92 (⟨r12, 0, none⟩ : Addr) #[.string s32_0, .int .i64 n32_1] w3 fun w4 =>
 ∃ s36_0 : ByteArray, w4.cell? ((⟨r12, 0, none⟩ : Addr).add 0) = some (.string s36_0) /\
 ∃ n36_1 : Int, w4.cell? ((⟨r12, 0, none⟩ : Addr).add 1) = some (.int .i64 n36_1) /\
 Calls prog 70 #[.pointer p0, .int .i64 n1, .agg #[.string s36_0, .int .i64 n36_1]] w4 fun e w5 =>
 ∃ n37 : Int, e = .returned (.int .i64 n37) /\
 J1 ((IntKind.i64.wrap (n10 + n37)), (IntKind.i64.wrap (n29 + 1))) w5) (
 F26_1 R n10 ds w)
def F26_3 (R : Rt) (p0 : Option Addr) (n1 n10 : Int) (l27 : SV) (n28 n29 : Int) (ds : Ds) (w : World) : Prop :=
 loopT (fun (J1 : (Int × Int) -> World -> Prop) (s : Int × Int) (w : World) => F26_2 R J1 p0 n1 s.1 l27 n28 s.2 ds w) (n10, n29) w
abbrev F26_4 (R : Rt) (p0 : Option Addr) (n1 n10 : Int) (l27 : SV) (n28 n29 : Int) (ds : Ds) (w : World) : Prop := F26_3 R p0 n1 n10 l27 n28 n29 ds w
def F26_k6 (R : Rt) : EP := (fun E ds w => dPtr (E 0) fun p0 => dInt .i64 (E 1) fun n1 => dInt .i64 (E 10) fun n10 => dSl (E 27) fun l27 => dInt .i64 (E 28) fun n28 => dInt .i64 (E 29) fun n29 => F26_4 R p0 n1 n10 l27 n28 n29 ds w)
def F26_5 (R : Rt) (p0 : Option Addr) (n1 : Int) (s2 : ByteArray) (ds : Ds) (w : World) : Prop :=
 Calls prog 43 #[.pointer p0, .int .i64 n1, .string s2] w fun e w6 =>
 ∃ v17_0 : Value, ∃ n17_1 : Int, e = .returned (.tuple #[v17_0, .int .i64 n17_1]) /\
 fnE v17_0 fun fx firstx capx =>
 Br (n17_1 != 0) (
 runD prog ({ target := .fn (.func fx) capx, args := (firstx.toList ++ ([] : List Value)).toArray } :: ds) w6 fun w7 =>
 R (.returned (.tuple #[.int .i64 0, .int .i64 n17_1])) w7) (
 Calls prog 69 #[.pointer p0, .int .i64 n1, .string s2, .int .i64 0, .int .i64 65536] w6 fun e w8 =>
 ∃ l27 : SV, e = .returned (.slice l27.a l27.len l27.cap) /\
 F26_4 R p0 n1 0 l27 (l27.len : Int) 0 ({ target := .fn (.func fx) capx, args := (firstx.toList ++ ([] : List Value)).toArray } :: ds) w8)
theorem c26_l : flat (bodyOf f26) = [c26_0, c26_1, c26_2, c26_3, c26_4, c26_5, c26_6, c26_7, c26_8, c26_9] := by kernel_rfl
theorem c26_7_l : flat (innerC c26_7) = [c26_7_0] := by kernel_rfl
theorem c26_7_0_l : flat (innerC c26_7_0) = [c26_7_0_0, c26_7_0_1, c26_7_0_2, c26_7_0_3] := by kernel_rfl
theorem F26_1_ok (R : Rt) (n10 : Int) (ds : Ds) (w : World) (E : Env) (e10 : E 10 = .int .i64 n10) (h : F26_1 R n10 ds w) :
    TrL prog f26.ntmps [c26_8, c26_9] (F26_q1 R) E ds w :=
  TrL_leaf (X := F26_1 R n10 ds w) (setAll_cons e10 setAll_nil) (by kernel_rfl) (by kernel_rfl) h
theorem F26_2_ok (R : Rt) (J1 : (Int × Int) -> World -> Prop) (p0 : Option Addr) (n1 n10 : Int) (l27 : SV) (n28 n29 : Int) (ds : Ds) (w : World) (E : Env) (e0 : E 0 = .pointer p0) (e1 : E 1 = .int .i64 n1) (e10 : E 10 = .int .i64 n10) (e27 : E 27 = .slice l27.a l27.len l27.cap) (e28 : E 28 = .int .i64 n28) (e29 : E 29 = .int .i64 n29) (h : F26_2 R J1 p0 n1 n10 l27 n28 n29 ds w) :
    TrL prog f26.ntmps [c26_7_0_0, c26_7_0_1, c26_7_0_2, c26_7_0_3] (F26_q5 R J1) E ds w :=
  TrL_leaf (X := F26_2 R J1 p0 n1 n10 l27 n28 n29 ds w) (setAll_cons e0 (setAll_cons e1 (setAll_cons e10 (setAll_cons e27 (setAll_cons e28 (setAll_cons e29 setAll_nil)))))) (by kernel_rfl) (by kernel_rfl) h
theorem F26_3_ok (R : Rt) (p0 : Option Addr) (n1 n10 : Int) (l27 : SV) (n28 n29 : Int) (ds : Ds) (w : World) (E : Env) (e0 : E 0 = .pointer p0) (e1 : E 1 = .int .i64 n1) (e10 : E 10 = .int .i64 n10) (e27 : E 27 = .slice l27.a l27.len l27.cap) (e28 : E 28 = .int .i64 n28) (e29 : E 29 = .int .i64 n29) (h : F26_3 R p0 n1 n10 l27 n28 n29 ds w) :
    TrL prog f26.ntmps [c26_7_0] (F26_q4 R) E ds w :=
  TrL_one (Tr_loop' (c := innerC c26_7_0) (σ := Int × Int) (enc := (fun (s : Int × Int) (E : Env) => E 10 = .int .i64 s.1 /\ E 29 = .int .i64 s.2)) (D := (fun E K => dInt .i64 (E 10) fun n10 => dInt .i64 (E 29) fun n29 => K (n10, n29))) (F := (fun (J1 : (Int × Int) -> World -> Prop) (s : Int × Int) (w : World) => F26_2 R J1 p0 n1 s.1 l27 n28 s.2 ds w)) (s0 := (n10, n29)) (by kernel_rfl) c26_7_0_l ⟨e10, e29⟩ (by kernel_rfl) (fun E K hD => by obtain ⟨n10, e10, hD⟩ := dInt_elim hD; obtain ⟨n29, e29, hD⟩ := dInt_elim hD; exact ⟨(n10, n29), ⟨e10, e29⟩, hD⟩)
      (fun J1 s E' w' he ha hF => by
      obtain ⟨e10', e29'⟩ := he
      exact F26_2_ok R J1 p0 n1 s.1 l27 n28 s.2 ds w' E' ((ha 0 (by kernel_rfl)).trans e0) ((ha 1 (by kernel_rfl)).trans e1) e10' ((ha 27 (by kernel_rfl)).trans e27) ((ha 28 (by kernel_rfl)).trans e28) e29' hF) h)
theorem F26_4_ok (R : Rt) (p0 : Option Addr) (n1 n10 : Int) (l27 : SV) (n28 n29 : Int) (ds : Ds) (w : World) (E : Env) (e0 : E 0 = .pointer p0) (e1 : E 1 = .int .i64 n1) (e10 : E 10 = .int .i64 n10) (e27 : E 27 = .slice l27.a l27.len l27.cap) (e28 : E 28 = .int .i64 n28) (e29 : E 29 = .int .i64 n29) (h : F26_4 R p0 n1 n10 l27 n28 n29 ds w) :
    TrL prog f26.ntmps [c26_7, c26_8, c26_9] (F26_q1 R) E ds w :=
  TrL_head (K := (F26_k2 R)) (Tr_block' (c := innerC c26_7) (by kernel_rfl) c26_7_l (F26_3_ok R p0 n1 n10 l27 n28 n29 ds w E e0 e1 e10 e27 e28 e29 h))
    (fun E' ds' w' hD => by
      obtain ⟨n10, e10, hD⟩ := dInt_elim hD; exact F26_1_ok R n10 ds' w' E' e10 hD)
theorem F26_5_ok (R : Rt) (p0 : Option Addr) (n1 : Int) (s2 : ByteArray) (ds : Ds) (w : World) (E : Env) (e0 : E 0 = .pointer p0) (e1 : E 1 = .int .i64 n1) (e2 : E 2 = .string s2) (h : F26_5 R p0 n1 s2 ds w) :
    TrL prog f26.ntmps [c26_0, c26_1, c26_2, c26_3, c26_4, c26_5, c26_6, c26_7, c26_8, c26_9] (F26_q1 R) E ds w :=
  TrL_piece (pre := [c26_0, c26_1, c26_2, c26_3, c26_4, c26_5, c26_6]) (K := (F26_k6 R)) (X := F26_5 R p0 n1 s2 ds w) (setAll_cons e0 (setAll_cons e1 (setAll_cons e2 setAll_nil))) (by kernel_rfl) (by kernel_rfl)
    (fun E' ds' w' hD => by
      obtain ⟨p0, e0, hD⟩ := dPtr_elim hD; obtain ⟨n1, e1, hD⟩ := dInt_elim hD; obtain ⟨n10, e10, hD⟩ := dInt_elim hD; obtain ⟨l27, e27, hD⟩ := dSl_elim hD; obtain ⟨n28, e28, hD⟩ := dInt_elim hD; obtain ⟨n29, e29, hD⟩ := dInt_elim hD; exact F26_4_ok R p0 n1 n10 l27 n28 n29 ds' w' E' e0 e1 e10 e27 e28 e29 hD) h
theorem F26_calls (p0 : Option Addr) (n1 : Int) (s2 : ByteArray) (w : World) (R : Rt) (h : F26_5 R p0 n1 s2 [] w) : Calls prog 26 #[.pointer p0, .int .i64 n1, .string s2] w R :=
  calls_of_L (l := [c26_0, c26_1, c26_2, c26_3, c26_4, c26_5, c26_6, c26_7, c26_8, c26_9]) func26 (by kernel_rfl) (by rw [ntmps26]; exact Nat.le_of_ble_eq_true (by kernel_rfl)) c26_l
    (F26_5_ok R p0 n1 s2 [] w _ rfl rfl rfl h)
noncomputable def c15_0 := cI0 f15 0
noncomputable def c15_1 := cI0 f15 1
noncomputable def c15_2 := cI0 f15 2
noncomputable def c15_3 := cI0 f15 3
noncomputable def c15_4 := cI0 f15 4
noncomputable def c15_5 := cI0 f15 5
noncomputable def c15_6 := cI0 f15 6
def F15_q1 (R : Rt) : EQ := endQ prog f15.results.toList R
def F15_1 (R : Rt) (p0 : Option Addr) (s1 : ByteArray) (ds : Ds) (w : World) : Prop :=
 Calls prog 43 #[.pointer p0, .int .i64 0, .string s1] w fun e w1 =>
 ∃ v11_0 : Value, ∃ n11_1 : Int, e = .returned (.tuple #[v11_0, .int .i64 n11_1]) /\
 fnE v11_0 fun fx firstx capx =>
 Br (n11_1 != 0) (
 runD prog ({ target := .fn (.func fx) capx, args := (firstx.toList ++ ([] : List Value)).toArray } :: ds) w1 fun w2 =>
 R (.returned (.tuple #[.slice none 0 0, .int .i64 n11_1])) w2) (
 ptrE p0 fun a3 =>
 ∃ m21 : Option Nat, w1.cell? (a3.add 2) = some (.map m21) /\
 ∃ l23 : SV, ∃ w4 : World, (Instr.lookup 55 (.map m21) (.string s1) false).run prog w1 = .ok (.slice l23.a l23.len l23.cap) w4 /\
 Calls prog 50 #[.slice l23.a l23.len l23.cap] w4 fun e w5 =>
 ∃ l24 : SV, e = .returned (.slice l24.a l24.len l24.cap) /\
 runD prog ({ target := .fn (.func fx) capx, args := (firstx.toList ++ ([] : List Value)).toArray } :: ds) w5 fun w6 =>
 R (.returned (.tuple #[.slice l24.a l24.len l24.cap, .int .i64 0])) w6)
theorem c15_l : flat (bodyOf f15) = [c15_0, c15_1, c15_2, c15_3, c15_4, c15_5, c15_6] := by kernel_rfl
theorem F15_1_ok (R : Rt) (p0 : Option Addr) (s1 : ByteArray) (ds : Ds) (w : World) (E : Env) (e0 : E 0 = .pointer p0) (e1 : E 1 = .string s1) (h : F15_1 R p0 s1 ds w) :
    TrL prog f15.ntmps [c15_0, c15_1, c15_2, c15_3, c15_4, c15_5, c15_6] (F15_q1 R) E ds w :=
  TrL_leaf (X := F15_1 R p0 s1 ds w) (setAll_cons e0 (setAll_cons e1 setAll_nil)) (by kernel_rfl) (by kernel_rfl) h
theorem F15_calls (p0 : Option Addr) (s1 : ByteArray) (w : World) (R : Rt) (h : F15_1 R p0 s1 [] w) : Calls prog 15 #[.pointer p0, .string s1] w R :=
  calls_of_L (l := [c15_0, c15_1, c15_2, c15_3, c15_4, c15_5, c15_6]) func15 (by kernel_rfl) (by rw [ntmps15]; exact Nat.le_of_ble_eq_true (by kernel_rfl)) c15_l
    (F15_1_ok R p0 s1 [] w _ rfl rfl h)
noncomputable def c8_0 := cI0 f8 0
noncomputable def c8_1 := cI0 f8 1
noncomputable def c8_2 := cI0 f8 2
noncomputable def c8_3 := cI0 f8 3
noncomputable def c8_4 := cI0 f8 4
noncomputable def c8_5 := cI0 f8 5
noncomputable def c8_6 := cI0 f8 6
noncomputable def c8_7 := cI0 f8 7
noncomputable def c8_8 := cI0 f8 8
noncomputable def c8_9 := cI0 f8 9
noncomputable def c8_10 := cI0 f8 10
noncomputable def c8_11 := cI0 f8 11
def F8_q1 (R : Rt) : EQ := endQ prog f8.results.toList R
def F8_1 (R : Rt) (b0 : Bool) (ds : Ds) (w : World) : Prop :=
 runD prog ds w fun w1 =>
 R (.returned (.bool b0)) w1
def F8_k2 (R : Rt) : EP := (fun E ds w => dBl (E 0) fun b0 => F8_1 R b0 ds w)
def F8_2 (R : Rt) (n2 n3 : Int) (l4 : SV) (n5 n6 : Int) (l7 : SV) (n8 : Int) (ds : Ds) (w : World) : Prop :=
 Br (n2 == 1) (
 Br (n3 == 0) (
 Br (n5 == 0) (
 Br (n6 == 0) (
 Br (n8 == 0) (
 ∃ s64 : ByteArray, ∃ w2 : World, (convert 36 9 (.slice l4.a l4.len l4.cap)).run prog w = .ok (.string s64) w2 /\
 Br (s64.toList == (⟨#[0]⟩ : ByteArray).toList) (
 ∃ s69 : ByteArray, ∃ w3 : World, (convert 36 9 (.slice l7.a l7.len l7.cap)).run prog w2 = .ok (.string s69) w3 /\
 F8_1 R (s69.toList == (⟨#[7]⟩ : ByteArray).toList) ds w3) (
 F8_1 R false ds w2)) (
 F8_1 R false ds w)) (
 F8_1 R false ds w)) (
 F8_1 R false ds w)) (
 F8_1 R false ds w)) (
 F8_1 R false ds w)
def F8_k3 (R : Rt) : EP := (fun E ds w => dInt .i64 (E 2) fun n2 => dInt .i64 (E 3) fun n3 => dSl (E 4) fun l4 => dInt .i64 (E 5) fun n5 => dInt .i64 (E 6) fun n6 => dSl (E 7) fun l7 => dInt .i64 (E 8) fun n8 => F8_2 R n2 n3 l4 n5 n6 l7 n8 ds w)
def F8_3 (R : Rt) (p1 : Option Addr) (n2 n3 : Int) (l4 : SV) (n5 n6 : Int) (ds : Ds) (w : World) : Prop :=
 Calls prog 13 #[.pointer p1, .int .i64 0, .string (⟨#[70]⟩ : ByteArray), .int .i64 0, .int .i64 1] w fun e w4 =>
 ∃ l41_0 : SV, ∃ n41_1 : Int, e = .returned (.tuple #[.slice l41_0.a l41_0.len l41_0.cap, .int .i64 n41_1]) /\
 F8_2 R n2 n3 l4 n5 n6 l41_0 n41_1 ds w4
def F8_k4 (R : Rt) : EP := (fun E ds w => dPtr (E 1) fun p1 => dInt .i64 (E 2) fun n2 => dInt .i64 (E 3) fun n3 => dSl (E 4) fun l4 => dInt .i64 (E 5) fun n5 => dInt .i64 (E 6) fun n6 => F8_3 R p1 n2 n3 l4 n5 n6 ds w)
def F8_4 (R : Rt) (ds : Ds) (w : World) : Prop :=
 Calls prog 9 #[] w fun e w5 =>
 ∃ p9 : Option Addr, e = .returned (.pointer p9) /\
 ∃ b11 : Bool, ∃ w6 : World, (eqS .eql 25 (.tmp 10) (.const (.pointer none)) (.pointer p9) (.pointer none)).run prog w5 = .ok (.bool b11) w6 /\
 Br b11 (
 runD prog ds w6 fun w7 =>
 R (.returned (.bool false)) w7) (
 Calls prog 16 #[.pointer p9, .string (⟨#[70]⟩ : ByteArray)] w6 fun e w8 =>
 ∃ n14 : Int, e = .returned (.int .i64 n14) /\
 Br (n14 != 0) (
 runD prog ds w8 fun w9 =>
 R (.returned (.bool false)) w9) (
 Calls prog 24 #[.pointer p9, .string (⟨#[70]⟩ : ByteArray), .int .i64 4] w8 fun e w10 =>
 ∃ n19 : Int, e = .returned (.int .i64 n19) /\
 Br (n19 != 0) (
 runD prog ds w10 fun w11 =>
 R (.returned (.bool false)) w11) (
 Calls prog 13 #[.pointer p9, .int .i64 0, .string (⟨#[70]⟩ : ByteArray), .int .i64 0, .int .i64 1] w10 fun e w12 =>
 ∃ l23_0 : SV, ∃ n23_1 : Int, e = .returned (.tuple #[.slice l23_0.a l23_0.len l23_0.cap, .int .i64 n23_1]) /\
 alE (.cells #[.int .u8 7] 5) w12 fun r25 w13 =>
 Calls prog 25 #[.pointer p9, .int .i64 1, .string (⟨#[70]⟩ : ByteArray), .int .i64 0, .slice (some ⟨r25, 0, none⟩) 1 1] w13 fun e w14 =>
 ∃ n26 : Int, e = .returned (.int .i64 n26) /\
 Calls prog 26 #[.pointer p9, .int .i64 1, .string (⟨#[70]⟩ : ByteArray)] w14 fun e w15 =>
 ∃ n29_0 : Int, ∃ n29_1 : Int, e = .returned (.tuple #[.int .i64 n29_0, .int .i64 n29_1]) /\
 Calls prog 13 #[.pointer p9, .int .i64 0, .string (⟨#[70]⟩ : ByteArray), .int .i64 0, .int .i64 1] w15 fun e w16 =>
 ∃ l34_0 : SV, ∃ n34_1 : Int, e = .returned (.tuple #[.slice l34_0.a l34_0.len l34_0.cap, .int .i64 n34_1]) /\
 Calls prog 27 #[.pointer p9, .int .i64 0, .string (⟨#[70]⟩ : ByteArray), .int .i64 0, .int .i64 1] w16 fun e w17 =>
 ∃ n38 : Int, e = .returned (.int .i64 n38) /\
 F8_3 R p9 n29_0 n29_1 l34_0 n34_1 n38 ds w17)))
theorem c8_l : flat (bodyOf f8) = [c8_0, c8_1, c8_2, c8_3, c8_4, c8_5, c8_6, c8_7, c8_8, c8_9, c8_10, c8_11] := by kernel_rfl
theorem F8_1_ok (R : Rt) (b0 : Bool) (ds : Ds) (w : World) (E : Env) (e0 : E 0 = .bool b0) (h : F8_1 R b0 ds w) :
    TrL prog f8.ntmps [c8_11] (F8_q1 R) E ds w :=
  TrL_leaf (X := F8_1 R b0 ds w) (setAll_cons e0 setAll_nil) (by kernel_rfl) (by kernel_rfl) h
theorem F8_2_ok (R : Rt) (n2 n3 : Int) (l4 : SV) (n5 n6 : Int) (l7 : SV) (n8 : Int) (ds : Ds) (w : World) (E : Env) (e2 : E 2 = .int .i64 n2) (e3 : E 3 = .int .i64 n3) (e4 : E 4 = .slice l4.a l4.len l4.cap) (e5 : E 5 = .int .i64 n5) (e6 : E 6 = .int .i64 n6) (e7 : E 7 = .slice l7.a l7.len l7.cap) (e8 : E 8 = .int .i64 n8) (h : F8_2 R n2 n3 l4 n5 n6 l7 n8 ds w) :
    TrL prog f8.ntmps [c8_10, c8_11] (F8_q1 R) E ds w :=
  TrL_piece (pre := [c8_10]) (K := (F8_k2 R)) (X := F8_2 R n2 n3 l4 n5 n6 l7 n8 ds w) (setAll_cons e2 (setAll_cons e3 (setAll_cons e4 (setAll_cons e5 (setAll_cons e6 (setAll_cons e7 (setAll_cons e8 setAll_nil))))))) (by kernel_rfl) (by kernel_rfl)
    (fun E' ds' w' hD => by
      obtain ⟨b0, e0, hD⟩ := dBl_elim hD; exact F8_1_ok R b0 ds' w' E' e0 hD) h
theorem F8_3_ok (R : Rt) (p1 : Option Addr) (n2 n3 : Int) (l4 : SV) (n5 n6 : Int) (ds : Ds) (w : World) (E : Env) (e1 : E 1 = .pointer p1) (e2 : E 2 = .int .i64 n2) (e3 : E 3 = .int .i64 n3) (e4 : E 4 = .slice l4.a l4.len l4.cap) (e5 : E 5 = .int .i64 n5) (e6 : E 6 = .int .i64 n6) (h : F8_3 R p1 n2 n3 l4 n5 n6 ds w) :
    TrL prog f8.ntmps [c8_9, c8_10, c8_11] (F8_q1 R) E ds w :=
  TrL_piece (pre := [c8_9]) (K := (F8_k3 R)) (X := F8_3 R p1 n2 n3 l4 n5 n6 ds w) (setAll_cons e1 (setAll_cons e2 (setAll_cons e3 (setAll_cons e4 (setAll_cons e5 (setAll_cons e6 setAll_nil)))))) (by kernel_rfl) (by kernel_rfl)
    (fun E' ds' w' hD => by
      obtain ⟨n2, e2, hD⟩ := dInt_elim hD; obtain ⟨n3, e3, hD⟩ := dInt_elim hD; obtain ⟨l4, e4, hD⟩ := dSl_elim hD; obtain ⟨n5, e5, hD⟩ := dInt_elim hD; obtain ⟨n6, e6, hD⟩ := dInt_elim hD; obtain ⟨l7, e7, hD⟩ := dSl_elim hD; obtain ⟨n8, e8, hD⟩ := dInt_elim hD; exact F8_2_ok R n2 n3 l4 n5 n6 l7 n8 ds' w' E' e2 e3 e4 e5 e6 e7 e8 hD) h
theorem F8_4_ok (R : Rt) (ds : Ds) (w : World) (E : Env) (h : F8_4 R ds w) :
    TrL prog f8.ntmps [c8_0, c8_1, c8_2, c8_3, c8_4, c8_5, c8_6, c8_7, c8_8, c8_9, c8_10, c8_11] (F8_q1 R) E ds w :=
  TrL_piece (pre := [c8_0, c8_1, c8_2, c8_3, c8_4, c8_5, c8_6, c8_7, c8_8]) (K := (F8_k4 R)) (X := F8_4 R ds w) setAll_nil (by kernel_rfl) (by kernel_rfl)
    (fun E' ds' w' hD => by
      obtain ⟨p1, e1, hD⟩ := dPtr_elim hD; obtain ⟨n2, e2, hD⟩ := dInt_elim hD; obtain ⟨n3, e3, hD⟩ := dInt_elim hD; obtain ⟨l4, e4, hD⟩ := dSl_elim hD; obtain ⟨n5, e5, hD⟩ := dInt_elim hD; obtain ⟨n6, e6, hD⟩ := dInt_elim hD; exact F8_3_ok R p1 n2 n3 l4 n5 n6 ds' w' E' e1 e2 e3 e4 e5 e6 hD) h
theorem F8_calls  (w : World) (R : Rt) (h : F8_4 R [] w) : Calls prog 8 #[] w R :=
  calls_of_L (l := [c8_0, c8_1, c8_2, c8_3, c8_4, c8_5, c8_6, c8_7, c8_8, c8_9, c8_10, c8_11]) func8 (by kernel_rfl) (by rw [ntmps8]; exact Nat.le_of_ble_eq_true (by kernel_rfl)) c8_l
    (F8_4_ok R [] w _  h)
noncomputable def c13_0 := cI0 f13 0
noncomputable def c13_1 := cI0 f13 1
noncomputable def c13_2 := cI0 f13 2
noncomputable def c13_3 := cI0 f13 3
noncomputable def c13_4 := cI0 f13 4
noncomputable def c13_5 := cI0 f13 5
noncomputable def c13_6 := cI0 f13 6
noncomputable def c13_7 := cI0 f13 7
noncomputable def c13_8 := cI0 f13 8
noncomputable def c13_9 := cI0 f13 9
noncomputable def c13_10 := cI0 f13 10
def F13_q1 (R : Rt) : EQ := endQ prog f13.results.toList R
def F13_1 (R : Rt) (p0 : Option Addr) (n1 : Int) (s2 : ByteArray) (n3 n4 : Int) (ds : Ds) (w : World) : Prop :=
 Calls prog 43 #[.pointer p0, .int .i64 n1, .string s2] w fun e w1 =>
 ∃ v19_0 : Value, ∃ n19_1 : Int, e = .returned (.tuple #[v19_0, .int .i64 n19_1]) /\
 fnE v19_0 fun fx firstx capx =>
 Br (n19_1 != 0) (
 runD prog ({ target := .fn (.func fx) capx, args := (firstx.toList ++ ([] : List Value)).toArray } :: ds) w1 fun w2 =>
 R (.returned (.tuple #[.slice none 0 0, .int .i64 n19_1])) w2) (
 Br (decide (n3 < 0)) (
 runD prog ({ target := .fn (.func fx) capx, args := (firstx.toList ++ ([] : List Value)).toArray } :: ds) w1 fun w3 =>
 R (.returned (.tuple #[.slice none 0 0, .int .i64 1])) w3) (
 Br (decide (n4 < 0)) (
 runD prog ({ target := .fn (.func fx) capx, args := (firstx.toList ++ ([] : List Value)).toArray } :: ds) w1 fun w4 =>
 R (.returned (.tuple #[.slice none 0 0, .int .i64 1])) w4) (
 ptrE p0 fun a5 =>
 ∃ m37 : Option Nat, w1.cell? (a5.add 2) = some (.map m37) /\
 ∃ l39 : SV, ∃ w6 : World, (Instr.lookup 55 (.map m37) (.string s2) false).run prog w1 = .ok (.slice l39.a l39.len l39.cap) w6 /\
 Br (decide (n3 > (l39.len : Int))) (
 runD prog ({ target := .fn (.func fx) capx, args := (firstx.toList ++ ([] : List Value)).toArray } :: ds) w6 fun w7 =>
 R (.returned (.tuple #[.slice none 0 0, .int .i64 1])) w7) (
 ptrE p0 fun a8 =>
 ∃ m48 : Option Nat, w6.cell? (a8.add 2) = some (.map m48) /\
 ∃ l50 : SV, ∃ w9 : World, (Instr.lookup 55 (.map m48) (.string s2) false).run prog w6 = .ok (.slice l50.a l50.len l50.cap) w9 /\
 Br (decide (n4 > (IntKind.i64.wrap ((l50.len : Int) - n3)))) (
 runD prog ({ target := .fn (.func fx) capx, args := (firstx.toList ++ ([] : List Value)).toArray } :: ds) w9 fun w10 =>
 R (.returned (.tuple #[.slice none 0 0, .int .i64 1])) w10) (
 ∃ l57 : SV, ∃ w11 : World, (Instr.makeSlice 36 (.int .i64 n4) (.int .i64 n4)).run prog w9 = .ok (.slice l57.a l57.len l57.cap) w11 /\
 alE (.cells #[.slice none 0 0] 36) w11 fun r14 w12 =>
 st1 (⟨r14, 0, none⟩ : Addr) (.slice l57.a l57.len l57.cap) w12 fun w13 =>
 Calls prog 44 #[.pointer p0, .int .i64 n1, .string s2, .int .i64 n3, .int .i64 n4, .func (.func 45) #[] #[.pointer (some (⟨r14, 0, none⟩ : Addr))]] w13 fun e w14 =>
 e = .returned (.tuple #[]) /\
 ∃ l65 : SV, w14.cell? (⟨r14, 0, none⟩ : Addr) = some (.slice l65.a l65.len l65.cap) /\
 runD prog ({ target := .fn (.func fx) capx, args := (firstx.toList ++ ([] : List Value)).toArray } :: ds) w14 fun w15 =>
 R (.returned (.tuple #[.slice l65.a l65.len l65.cap, .int .i64 0])) w15)))))
theorem c13_l : flat (bodyOf f13) = [c13_0, c13_1, c13_2, c13_3, c13_4, c13_5, c13_6, c13_7, c13_8, c13_9, c13_10] := by kernel_rfl
theorem F13_1_ok (R : Rt) (p0 : Option Addr) (n1 : Int) (s2 : ByteArray) (n3 n4 : Int) (ds : Ds) (w : World) (E : Env) (e0 : E 0 = .pointer p0) (e1 : E 1 = .int .i64 n1) (e2 : E 2 = .string s2) (e3 : E 3 = .int .i64 n3) (e4 : E 4 = .int .i64 n4) (h : F13_1 R p0 n1 s2 n3 n4 ds w) :
    TrL prog f13.ntmps [c13_0, c13_1, c13_2, c13_3, c13_4, c13_5, c13_6, c13_7, c13_8, c13_9, c13_10] (F13_q1 R) E ds w :=
  TrL_leaf (X := F13_1 R p0 n1 s2 n3 n4 ds w) (setAll_cons e0 (setAll_cons e1 (setAll_cons e2 (setAll_cons e3 (setAll_cons e4 setAll_nil))))) (by kernel_rfl) (by kernel_rfl) h
theorem F13_calls (p0 : Option Addr) (n1 : Int) (s2 : ByteArray) (n3 n4 : Int) (w : World) (R : Rt) (h : F13_1 R p0 n1 s2 n3 n4 [] w) : Calls prog 13 #[.pointer p0, .int .i64 n1, .string s2, .int .i64 n3, .int .i64 n4] w R :=
  calls_of_L (l := [c13_0, c13_1, c13_2, c13_3, c13_4, c13_5, c13_6, c13_7, c13_8, c13_9, c13_10]) func13 (by kernel_rfl) (by rw [ntmps13]; exact Nat.le_of_ble_eq_true (by kernel_rfl)) c13_l
    (F13_1_ok R p0 n1 s2 n3 n4 [] w _ rfl rfl rfl rfl rfl h)
noncomputable def c27_0 := cI0 f27 0
noncomputable def c27_1 := cI0 f27 1
noncomputable def c27_2 := cI0 f27 2
noncomputable def c27_3 := cI0 f27 3
noncomputable def c27_4 := cI0 f27 4
noncomputable def c27_5 := cI0 f27 5
noncomputable def c27_6 := cI0 f27 6
noncomputable def c27_7 := cI0 f27 7
noncomputable def c27_8 := cI0 f27 8
noncomputable def c27_9 := cI0 f27 9
noncomputable def c27_10 := cI0 f27 10
noncomputable def c27_11 := cI0 f27 11
noncomputable def c27_12 := cI0 f27 12
noncomputable def c27_13 := cI0 f27 13
noncomputable def c27_14 := cI0 f27 14
noncomputable def c27_15 := cI0 f27 15
noncomputable def c27_16 := cI0 f27 16
noncomputable def c27_14_0 := cJ0 c27_14 0
noncomputable def c27_14_0_0 := cJ0 c27_14_0 0
noncomputable def c27_14_0_1 := cJ0 c27_14_0 1
noncomputable def c27_14_0_2 := cJ0 c27_14_0 2
noncomputable def c27_14_0_3 := cJ0 c27_14_0 3
noncomputable def c27_14_0_2_0 := cJ0 c27_14_0_2 0
noncomputable def c27_14_0_2_1 := cJ0 c27_14_0_2 1
noncomputable def c27_14_0_2_2 := cJ0 c27_14_0_2 2
noncomputable def c27_14_0_2_3 := cJ0 c27_14_0_2 3
noncomputable def c27_14_0_2_4 := cJ0 c27_14_0_2 4
noncomputable def c27_14_0_2_3_0 := cJ0 c27_14_0_2_3 0
noncomputable def c27_14_0_2_3_0_0 := cJ0 c27_14_0_2_3_0 0
noncomputable def c27_14_0_2_3_0_1 := cJ0 c27_14_0_2_3_0 1
noncomputable def c27_14_0_2_3_0_2 := cJ0 c27_14_0_2_3_0 2
noncomputable def c27_14_0_2_3_0_3 := cJ0 c27_14_0_2_3_0 3
def F27_q1 (R : Rt) : EQ := endQ prog f27.results.toList R
def F27_1 (R : Rt) (ds : Ds) (w : World) : Prop :=
 runD prog ds w fun w1 =>
 R (.returned (.int .i64 0)) w1
def F27_k2 (R : Rt) : EP := (fun E ds w => F27_1 R ds w)
def F27_q3 (R : Rt) : EQ := (thenQ (F27_k2 R) (F27_q1 R))
def F27_q4 (R : Rt) : EQ := (blockQ 0 (F27_q3 R))
def F27_q5 (R : Rt) (J1 : (Int) -> World -> Prop) : EQ := (thenQ (fun E _ w => dInt .i64 (E 79) fun n79 => J1 n79 w) (F27_q4 R))
def F27_2 (R : Rt) (J1 : (Int) -> World -> Prop) (p0 p6 p7 : Option Addr) (l77 : SV) (n78 n79 : Int) (ds : Ds) (w : World) : Prop :=
 J1 (IntKind.i64.wrap (n79 + 1)) w
def F27_k6 (R : Rt) (J1 : (Int) -> World -> Prop) : EP := (fun E ds w => dPtr (E 0) fun p0 => dPtr (E 6) fun p6 => dPtr (E 7) fun p7 => dSl (E 77) fun l77 => dInt .i64 (E 78) fun n78 => dInt .i64 (E 79) fun n79 => F27_2 R J1 p0 p6 p7 l77 n78 n79 ds w)
def F27_q7 (R : Rt) (J1 : (Int) -> World -> Prop) : EQ := (thenQ (F27_k6 R J1) (F27_q5 R J1))
def F27_q8 (R : Rt) (J1 : (Int) -> World -> Prop) : EQ := (blockQ 1 (F27_q7 R J1))
def F27_3 (R : Rt) (J1 : (Int) -> World -> Prop) (p0 p6 p7 p15 p16 : Option Addr) (l77 : SV) (n78 n79 : Int) (ds : Ds) (w : World) : Prop :=
 dwE w fun w2 =>
 ptrE p6 fun a3 =>
 ∃ n123 : Int, w2.cell? a3 = some (.int .i64 n123) /\
 ptrE p0 fun a4 =>
 0 <= n123 /\ n123 < (4 : Int) /\
 ∃ m127 : Option Nat, w2.cell? ((a4.add 3).add (n123.toNat * 1)) = some (.map m127) /\
 ptrE p15 fun a5 =>
 ∃ s128_0 : ByteArray, w2.cell? (a5.add 0) = some (.string s128_0) /\
 ∃ n128_1 : Int, w2.cell? (a5.add 1) = some (.int .i64 n128_1) /\
 ptrE p16 fun a6 =>
 ∃ c129 : Array Value, c129.size = 96 /\ (∀ i, i < 96 -> w2.cell? (a6.add i) = c129[i]?) /\
 doE prog (Instr.mapUpdate 63 (.map m127) (.agg #[.string s128_0, .int .i64 n128_1]) (.agg c129)) w2 fun w7 =>
 F27_2 R J1 p0 p6 p7 l77 n78 n79 ds w7
def F27_k9 (R : Rt) (J1 : (Int) -> World -> Prop) : EP := (fun E ds w => dPtr (E 0) fun p0 => dPtr (E 6) fun p6 => dPtr (E 7) fun p7 => dPtr (E 15) fun p15 => dPtr (E 16) fun p16 => dSl (E 77) fun l77 => dInt .i64 (E 78) fun n78 => dInt .i64 (E 79) fun n79 => F27_3 R J1 p0 p6 p7 p15 p16 l77 n78 n79 ds w)
def F27_q10 (R : Rt) (J1 : (Int) -> World -> Prop) : EQ := (thenQ (F27_k9 R J1) (F27_q8 R J1))
def F27_q11 (R : Rt) (J1 : (Int) -> World -> Prop) : EQ := (blockQ 2 (F27_q10 R J1))
def F27_q12 (R : Rt) (J1 : (Int) -> World -> Prop) (J2 : (Int) -> World -> Prop) : EQ := (thenQ (fun E _ w => dInt .i64 (E 91) fun n91 => J2 n91 w) (F27_q11 R J1))
def F27_4 (R : Rt) (J1 : (Int) -> World -> Prop) (J2 : (Int) -> World -> Prop) (p0 p6 p7 p15 p16 : Option Addr) (l77 : SV) (n78 n79 n91 : Int) (ds : Ds) (w : World) : Prop :=
 Br (decide (n91 < 32)) (
 ptrE p16 fun a8 =>
 0 <= n91 /\ n91 < (32 : Int) /\
 ∃ b97 : Bool, w.cell? ((a8.add 32).add (n91.toNat * 1)) = some (.bool b97) /\
 Br b97 (
 ptrE p16 fun a9 =>
 0 <= n91 /\ n91 < (32 : Int) /\
 ∃ b102 : Bool, w.cell? ((a9.add 64).add (n91.toNat * 1)) = some (.bool b102) /\
 Br (!b102) (
 dwE w fun w10 =>
 ptrE p0 fun a11 =>
 ∃ m109 : Option Nat, w10.cell? (a11.add 2) = some (.map m109) /\
 ptrE p7 fun a12 =>
 ∃ s110 : ByteArray, w10.cell? a12 = some (.string s110) /\
 ∃ l111 : SV, (Instr.lookup 55 (.map m109) (.string s110) false).run prog w10 = .ok (.slice l111.a l111.len l111.cap) w10 /\
 ptrE p15 fun a13 =>
 ∃ n113 : Int, w10.cell? (a13.add 1) = some (.int .i64 n113) /\
 ∃ a14 : Addr, l111.a = some a14 /\ 0 <= (IntKind.i64.wrap ((IntKind.i64.wrap (n113 * 32)) + n91)) /\ (IntKind.i64.wrap ((IntKind.i64.wrap (n113 * 32)) + n91)) < (l111.len : Int) /\
 ∃ n118 : Int, w10.cell? (a14.add ((IntKind.i64.wrap ((IntKind.i64.wrap (n113 * 32)) + n91)).toNat * 1)) = some (.int .u8 n118) /\
 ptrE p16 fun a15 =>
 0 <= n91 /\ n91 < (32 : Int) /\
 st1 (a15.add (n91.toNat * 1)) (.int .u8 n118) w10 fun w16 =>
 J2 (IntKind.i64.wrap (n91 + 1)) w16) (
 J2 (IntKind.i64.wrap (n91 + 1)) w)) (
 J2 (IntKind.i64.wrap (n91 + 1)) w)) (
 F27_3 R J1 p0 p6 p7 p15 p16 l77 n78 n79 ds w)
def F27_5 (R : Rt) (J1 : (Int) -> World -> Prop) (p0 p6 p7 p15 p16 : Option Addr) (l77 : SV) (n78 n79 n91 : Int) (ds : Ds) (w : World) : Prop :=
 loopT (fun (J2 : (Int) -> World -> Prop) (s : Int) (w : World) => F27_4 R J1 J2 p0 p6 p7 p15 p16 l77 n78 n79 s ds w) n91 w
abbrev F27_6 (R : Rt) (J1 : (Int) -> World -> Prop) (p0 p6 p7 p15 p16 : Option Addr) (l77 : SV) (n78 n79 n91 : Int) (ds : Ds) (w : World) : Prop := F27_5 R J1 p0 p6 p7 p15 p16 l77 n78 n79 n91 ds w
def F27_k13 (R : Rt) (J1 : (Int) -> World -> Prop) : EP := (fun E ds w => dPtr (E 0) fun p0 => dPtr (E 6) fun p6 => dPtr (E 7) fun p7 => dPtr (E 15) fun p15 => dPtr (E 16) fun p16 => dSl (E 77) fun l77 => dInt .i64 (E 78) fun n78 => dInt .i64 (E 79) fun n79 => dInt .i64 (E 91) fun n91 => F27_6 R J1 p0 p6 p7 p15 p16 l77 n78 n79 n91 ds w)
def F27_7 (R : Rt) (J1 : (Int) -> World -> Prop) (p0 p6 p7 : Option Addr) (l77 : SV) (n78 n79 : Int) (ds : Ds) (w : World) : Prop :=
 ∃ a17 : Addr, l77.a = some a17 /\ 0 <= n79 /\ n79 < (l77.len : Int) /\
 ∃ s82_0 : ByteArray, w.cell? ((a17.add (n79.toNat * 2)).add 0) = some (.string s82_0) /\
 ∃ n82_1 : Int, w.cell? ((a17.add (n79.toNat * 2)).add 1) = some (.int .i64 n82_1) /\
 alE (.cells #[.string (⟨#[]⟩ : ByteArray), .int .i64 0] 92) w fun r15 w18 =>
 stA prog 92 (⟨r15, 0, none⟩ : Addr) #[.string s82_0, .int .i64 n82_1] w18 fun w19 =>
 dwE w19 fun w20 =>
 ∃ S3 : World -> Prop, S3 w20 /\
 ptrE p6 fun a21 =>
 ∃ n84 : Int, (∀ w', S3 w' -> w'.cell? a21 = some (.int .i64 n84)) /\
 ptrE p0 fun a22 =>
 0 <= n84 /\ n84 < (4 : Int) /\
 ∃ m88 : Option Nat, (∀ w', S3 w' -> w'.cell? ((a22.add 3).add (n84.toNat * 1)) = some (.map m88)) /\
 ∃ s89_0 : ByteArray, (∀ w', S3 w' -> w'.cell? ((⟨r15, 0, none⟩ : Addr).add 0) = some (.string s89_0)) /\
 ∃ n89_1 : Int, (∀ w', S3 w' -> w'.cell? ((⟨r15, 0, none⟩ : Addr).add 1) = some (.int .i64 n89_1)) /\
 ∃ c90 : Array Value, c90.size = 96 /\ (∀ w', S3 w' -> (Instr.lookup 63 (.map m88) (.agg #[.string s89_0, .int .i64 n89_1]) false).run prog w' = .ok (.agg c90) w') /\
 alE (.cells (zc prog 89) 89) w20 fun r16 w23 =>
 S3 w23 /\
 stA prog 89 (⟨r16, 0, none⟩ : Addr) c90 w23 fun w24 =>
 F27_6 R J1 p0 p6 p7 (some (⟨r15, 0, none⟩ : Addr)) (some (⟨r16, 0, none⟩ : Addr)) l77 n78 n79 0 ds w24
abbrev F27_8 (R : Rt) (J1 : (Int) -> World -> Prop) (p0 p6 p7 : Option Addr) (l77 : SV) (n78 n79 : Int) (ds : Ds) (w : World) : Prop := F27_7 R J1 p0 p6 p7 l77 n78 n79 ds w
def F27_k14 (R : Rt) (J1 : (Int) -> World -> Prop) : EP := (fun E ds w => dPtr (E 0) fun p0 => dPtr (E 6) fun p6 => dPtr (E 7) fun p7 => dSl (E 77) fun l77 => dInt .i64 (E 78) fun n78 => dInt .i64 (E 79) fun n79 => F27_8 R J1 p0 p6 p7 l77 n78 n79 ds w)
def F27_9 (R : Rt) (J1 : (Int) -> World -> Prop) (p0 p6 p7 : Option Addr) (l77 : SV) (n78 n79 : Int) (ds : Ds) (w : World) : Prop :=
 Br (decide (n79 < n78)) (
 F27_8 R J1 p0 p6 p7 l77 n78 n79 ds w) (
 F27_1 R ds w)
def F27_10 (R : Rt) (p0 p6 p7 : Option Addr) (l77 : SV) (n78 n79 : Int) (ds : Ds) (w : World) : Prop :=
 loopT (fun (J1 : (Int) -> World -> Prop) (s : Int) (w : World) => F27_9 R J1 p0 p6 p7 l77 n78 s ds w) n79 w
abbrev F27_11 (R : Rt) (p0 p6 p7 : Option Addr) (l77 : SV) (n78 n79 : Int) (ds : Ds) (w : World) : Prop := F27_10 R p0 p6 p7 l77 n78 n79 ds w
def F27_k15 (R : Rt) : EP := (fun E ds w => dPtr (E 0) fun p0 => dPtr (E 6) fun p6 => dPtr (E 7) fun p7 => dSl (E 77) fun l77 => dInt .i64 (E 78) fun n78 => dInt .i64 (E 79) fun n79 => F27_11 R p0 p6 p7 l77 n78 n79 ds w)
def F27_12 (R : Rt) (p0 p6 p7 p8 p9 p13 : Option Addr) (ds : Ds) (w : World) : Prop :=
 dwE w fun w25 =>
 ptrE p0 fun a26 =>
 ∃ l55 : SV, w25.cell? (a26.add 7) = some (.slice l55.a l55.len l55.cap) /\
 ptrE p13 fun a27 =>
 ∃ v56 : Value, w25.cell? a27 = some (v56) /\
 Calls prog 73 #[.slice l55.a l55.len l55.cap, v56] w25 fun e w28 =>
 ∃ b57 : Bool, e = .returned (.bool b57) /\
 Br b57 (
 runD prog ds w28 fun w29 =>
 R (.returned (.int .i64 12)) w29) (
 dwE w28 fun w30 =>
 ∃ S5 : World -> Prop, S5 w30 /\
 ptrE p0 fun a31 =>
 ∃ l62 : SV, (∀ w', S5 w' -> w'.cell? (a31.add 7) = some (.slice l62.a l62.len l62.cap)) /\
 ptrE p6 fun a32 =>
 ∃ n63 : Int, (∀ w', S5 w' -> w'.cell? a32 = some (.int .i64 n63)) /\
 ptrE p7 fun a33 =>
 ∃ s64 : ByteArray, (∀ w', S5 w' -> w'.cell? a33 = some (.string s64)) /\
 ptrE p8 fun a34 =>
 ∃ n65 : Int, (∀ w', S5 w' -> w'.cell? a34 = some (.int .i64 n65)) /\
 ptrE p9 fun a35 =>
 ∃ n66 : Int, (∀ w', S5 w' -> w'.cell? a35 = some (.int .i64 n66)) /\
 alE (.cells #[.int .i64 n63, .string s64, .int .i64 n65, .int .i64 n66] 95) w30 fun r68 w36 =>
 S5 w36 /\
 ∃ l69 : SV, ∃ w37 : World, (Builtin.append_ #[65, 65] 65 #[.slice l62.a l62.len l62.cap, .slice (some ⟨r68, 0, none⟩) 1 1]).run prog w36 = .ok (.slice l69.a l69.len l69.cap) w37 /\
 ptrE p0 fun a38 =>
 st1 (a38.add 7) (.slice l69.a l69.len l69.cap) w37 fun w39 =>
 ptrE p6 fun a40 =>
 ∃ n73 : Int, w39.cell? a40 = some (.int .i64 n73) /\
 ptrE p7 fun a41 =>
 ∃ s74 : ByteArray, w39.cell? a41 = some (.string s74) /\
 ptrE p8 fun a42 =>
 ∃ n75 : Int, w39.cell? a42 = some (.int .i64 n75) /\
 ptrE p9 fun a43 =>
 ∃ n76 : Int, w39.cell? a43 = some (.int .i64 n76) /\
 Calls prog 69 #[.pointer p0, .int .i64 n73, .string s74, .int .i64 n75, .int .i64 n76] w39 fun e w44 =>
 ∃ l77 : SV, e = .returned (.slice l77.a l77.len l77.cap) /\
 F27_11 R p0 p6 p7 l77 (l77.len : Int) 0 ds w44)
def F27_k16 (R : Rt) : EP := (fun E ds w => dPtr (E 0) fun p0 => dPtr (E 6) fun p6 => dPtr (E 7) fun p7 => dPtr (E 8) fun p8 => dPtr (E 9) fun p9 => dPtr (E 13) fun p13 => F27_12 R p0 p6 p7 p8 p9 p13 ds w)
def F27_13 (R : Rt) (p0 : Option Addr) (n1 : Int) (s2 : ByteArray) (n3 n4 : Int) (ds : Ds) (w : World) : Prop :=
 alE (.cells #[.int .i64 n1] 3) w fun r6 w45 =>
 alE (.cells #[.string s2] 9) w45 fun r7 w46 =>
 alE (.cells #[.int .i64 n3] 3) w46 fun r8 w47 =>
 alE (.cells #[.int .i64 n4] 3) w47 fun r9 w48 =>
 ∃ n20 : Int, w48.cell? (⟨r6, 0, none⟩ : Addr) = some (.int .i64 n20) /\
 ∃ s21 : ByteArray, w48.cell? (⟨r7, 0, none⟩ : Addr) = some (.string s21) /\
 Calls prog 43 #[.pointer p0, .int .i64 n20, .string s21] w48 fun e w49 =>
 ∃ v22_0 : Value, ∃ n22_1 : Int, e = .returned (.tuple #[v22_0, .int .i64 n22_1]) /\
 fnE v22_0 fun fx firstx capx =>
 Br (n22_1 != 0) (
 runD prog ({ target := .fn (.func fx) capx, args := (firstx.toList ++ ([] : List Value)).toArray } :: ds) w49 fun w50 =>
 R (.returned (.int .i64 n22_1)) w50) (
 ∃ n29 : Int, w49.cell? (⟨r8, 0, none⟩ : Addr) = some (.int .i64 n29) /\
 Br (decide (n29 < 0)) (
 runD prog ({ target := .fn (.func fx) capx, args := (firstx.toList ++ ([] : List Value)).toArray } :: ds) w49 fun w51 =>
 R (.returned (.int .i64 1)) w51) (
 ∃ n32 : Int, w49.cell? (⟨r9, 0, none⟩ : Addr) = some (.int .i64 n32) /\
 Br (decide (n32 < 1)) (
 runD prog ({ target := .fn (.func fx) capx, args := (firstx.toList ++ ([] : List Value)).toArray } :: ds) w49 fun w52 =>
 R (.returned (.int .i64 1)) w52) (
 ∃ n36 : Int, w49.cell? (⟨r8, 0, none⟩ : Addr) = some (.int .i64 n36) /\
 Br (decide (n36 > 131072)) (
 runD prog ({ target := .fn (.func fx) capx, args := (firstx.toList ++ ([] : List Value)).toArray } :: ds) w49 fun w53 =>
 R (.returned (.int .i64 1)) w53) (
 ∃ n40 : Int, w49.cell? (⟨r9, 0, none⟩ : Addr) = some (.int .i64 n40) /\
 ∃ n41 : Int, w49.cell? (⟨r8, 0, none⟩ : Addr) = some (.int .i64 n41) /\
 Br (decide (n40 > (IntKind.i64.wrap ((131072 : Int) - n41)))) (
 runD prog ({ target := .fn (.func fx) capx, args := (firstx.toList ++ ([] : List Value)).toArray } :: ds) w49 fun w54 =>
 R (.returned (.int .i64 1)) w54) (
 alE (.cells #[.nilFunc] 96) w49 fun r13 w55 =>
 st1 (⟨r13, 0, none⟩ : Addr) (.func (.func 71) #[] #[.pointer (some (⟨r7, 0, none⟩ : Addr)), .pointer (some (⟨r8, 0, none⟩ : Addr)), .pointer (some (⟨r9, 0, none⟩ : Addr))]) w55 fun w56 =>
 ptrE p0 fun a57 =>
 ∃ l49 : SV, w56.cell? (a57.add 7) = some (.slice l49.a l49.len l49.cap) /\
 Calls prog 73 #[.slice l49.a l49.len l49.cap, .func (.func 74) #[] #[.pointer (some (⟨r6, 0, none⟩ : Addr)), .pointer (some (⟨r13, 0, none⟩ : Addr))]] w56 fun e w58 =>
 ∃ b51 : Bool, e = .returned (.bool b51) /\
 Br b51 (
 runD prog ({ target := .fn (.func fx) capx, args := (firstx.toList ++ ([] : List Value)).toArray } :: ds) w58 fun w59 =>
 R (.returned (.int .i64 5)) w59) (
 F27_12 R p0 (some (⟨r6, 0, none⟩ : Addr)) (some (⟨r7, 0, none⟩ : Addr)) (some (⟨r8, 0, none⟩ : Addr)) (some (⟨r9, 0, none⟩ : Addr)) (some (⟨r13, 0, none⟩ : Addr)) ({ target := .fn (.func fx) capx, args := (firstx.toList ++ ([] : List Value)).toArray } :: ds) w58))))))
theorem c27_l : flat (bodyOf f27) = [c27_0, c27_1, c27_2, c27_3, c27_4, c27_5, c27_6, c27_7, c27_8, c27_9, c27_10, c27_11, c27_12, c27_13, c27_14, c27_15, c27_16] := by kernel_rfl
theorem c27_14_l : flat (innerC c27_14) = [c27_14_0] := by kernel_rfl
theorem c27_14_0_l : flat (innerC c27_14_0) = [c27_14_0_0, c27_14_0_1, c27_14_0_2, c27_14_0_3] := by kernel_rfl
theorem c27_14_0_2_l : flat (innerC c27_14_0_2) = [c27_14_0_2_0, c27_14_0_2_1, c27_14_0_2_2, c27_14_0_2_3, c27_14_0_2_4] := by kernel_rfl
theorem c27_14_0_2_3_l : flat (innerC c27_14_0_2_3) = [c27_14_0_2_3_0] := by kernel_rfl
theorem c27_14_0_2_3_0_l : flat (innerC c27_14_0_2_3_0) = [c27_14_0_2_3_0_0, c27_14_0_2_3_0_1, c27_14_0_2_3_0_2, c27_14_0_2_3_0_3] := by kernel_rfl
theorem F27_1_ok (R : Rt) (ds : Ds) (w : World) (E : Env) (h : F27_1 R ds w) :
    TrL prog f27.ntmps [c27_15, c27_16] (F27_q1 R) E ds w :=
  TrL_leaf (X := F27_1 R ds w) setAll_nil (by kernel_rfl) (by kernel_rfl) h
theorem F27_2_ok (R : Rt) (J1 : (Int) -> World -> Prop) (p0 p6 p7 : Option Addr) (l77 : SV) (n78 n79 : Int) (ds : Ds) (w : World) (E : Env) (e0 : E 0 = .pointer p0) (e6 : E 6 = .pointer p6) (e7 : E 7 = .pointer p7) (e77 : E 77 = .slice l77.a l77.len l77.cap) (e78 : E 78 = .int .i64 n78) (e79 : E 79 = .int .i64 n79) (h : F27_2 R J1 p0 p6 p7 l77 n78 n79 ds w) :
    TrL prog f27.ntmps [c27_14_0_3] (F27_q5 R J1) E ds w :=
  TrL_leaf (X := F27_2 R J1 p0 p6 p7 l77 n78 n79 ds w) (setAll_cons e0 (setAll_cons e6 (setAll_cons e7 (setAll_cons e77 (setAll_cons e78 (setAll_cons e79 setAll_nil)))))) (by kernel_rfl) (by kernel_rfl) h
theorem F27_3_ok (R : Rt) (J1 : (Int) -> World -> Prop) (p0 p6 p7 p15 p16 : Option Addr) (l77 : SV) (n78 n79 : Int) (ds : Ds) (w : World) (E : Env) (e0 : E 0 = .pointer p0) (e6 : E 6 = .pointer p6) (e7 : E 7 = .pointer p7) (e15 : E 15 = .pointer p15) (e16 : E 16 = .pointer p16) (e77 : E 77 = .slice l77.a l77.len l77.cap) (e78 : E 78 = .int .i64 n78) (e79 : E 79 = .int .i64 n79) (h : F27_3 R J1 p0 p6 p7 p15 p16 l77 n78 n79 ds w) :
    TrL prog f27.ntmps [c27_14_0_2_4] (F27_q8 R J1) E ds w :=
  TrL_leaf (X := F27_3 R J1 p0 p6 p7 p15 p16 l77 n78 n79 ds w) (setAll_cons e0 (setAll_cons e6 (setAll_cons e7 (setAll_cons e15 (setAll_cons e16 (setAll_cons e77 (setAll_cons e78 (setAll_cons e79 setAll_nil)))))))) (by kernel_rfl) (by kernel_rfl) h
theorem F27_4_ok (R : Rt) (J1 : (Int) -> World -> Prop) (J2 : (Int) -> World -> Prop) (p0 p6 p7 p15 p16 : Option Addr) (l77 : SV) (n78 n79 n91 : Int) (ds : Ds) (w : World) (E : Env) (e0 : E 0 = .pointer p0) (e6 : E 6 = .pointer p6) (e7 : E 7 = .pointer p7) (e15 : E 15 = .pointer p15) (e16 : E 16 = .pointer p16) (e77 : E 77 = .slice l77.a l77.len l77.cap) (e78 : E 78 = .int .i64 n78) (e79 : E 79 = .int .i64 n79) (e91 : E 91 = .int .i64 n91) (h : F27_4 R J1 J2 p0 p6 p7 p15 p16 l77 n78 n79 n91 ds w) :
    TrL prog f27.ntmps [c27_14_0_2_3_0_0, c27_14_0_2_3_0_1, c27_14_0_2_3_0_2, c27_14_0_2_3_0_3] (F27_q12 R J1 J2) E ds w :=
  TrL_leaf (X := F27_4 R J1 J2 p0 p6 p7 p15 p16 l77 n78 n79 n91 ds w) (setAll_cons e0 (setAll_cons e6 (setAll_cons e7 (setAll_cons e15 (setAll_cons e16 (setAll_cons e77 (setAll_cons e78 (setAll_cons e79 (setAll_cons e91 setAll_nil))))))))) (by kernel_rfl) (by kernel_rfl) h
theorem F27_5_ok (R : Rt) (J1 : (Int) -> World -> Prop) (p0 p6 p7 p15 p16 : Option Addr) (l77 : SV) (n78 n79 n91 : Int) (ds : Ds) (w : World) (E : Env) (e0 : E 0 = .pointer p0) (e6 : E 6 = .pointer p6) (e7 : E 7 = .pointer p7) (e15 : E 15 = .pointer p15) (e16 : E 16 = .pointer p16) (e77 : E 77 = .slice l77.a l77.len l77.cap) (e78 : E 78 = .int .i64 n78) (e79 : E 79 = .int .i64 n79) (e91 : E 91 = .int .i64 n91) (h : F27_5 R J1 p0 p6 p7 p15 p16 l77 n78 n79 n91 ds w) :
    TrL prog f27.ntmps [c27_14_0_2_3_0] (F27_q11 R J1) E ds w :=
  TrL_one (Tr_loop' (c := innerC c27_14_0_2_3_0) (σ := Int) (enc := (fun (s : Int) (E : Env) => E 91 = .int .i64 s)) (D := (fun E K => dInt .i64 (E 91) fun n91 => K n91)) (F := (fun (J2 : (Int) -> World -> Prop) (s : Int) (w : World) => F27_4 R J1 J2 p0 p6 p7 p15 p16 l77 n78 n79 s ds w)) (s0 := n91) (by kernel_rfl) c27_14_0_2_3_0_l e91 (by kernel_rfl) (fun E K hD => by obtain ⟨n91, e91, hD⟩ := dInt_elim hD; exact ⟨n91, e91, hD⟩)
      (fun J2 s E' w' he ha hF => by
      have e91' := he
      exact F27_4_ok R J1 J2 p0 p6 p7 p15 p16 l77 n78 n79 s ds w' E' ((ha 0 (by kernel_rfl)).trans e0) ((ha 6 (by kernel_rfl)).trans e6) ((ha 7 (by kernel_rfl)).trans e7) ((ha 15 (by kernel_rfl)).trans e15) ((ha 16 (by kernel_rfl)).trans e16) ((ha 77 (by kernel_rfl)).trans e77) ((ha 78 (by kernel_rfl)).trans e78) ((ha 79 (by kernel_rfl)).trans e79) e91' hF) h)
theorem F27_6_ok (R : Rt) (J1 : (Int) -> World -> Prop) (p0 p6 p7 p15 p16 : Option Addr) (l77 : SV) (n78 n79 n91 : Int) (ds : Ds) (w : World) (E : Env) (e0 : E 0 = .pointer p0) (e6 : E 6 = .pointer p6) (e7 : E 7 = .pointer p7) (e15 : E 15 = .pointer p15) (e16 : E 16 = .pointer p16) (e77 : E 77 = .slice l77.a l77.len l77.cap) (e78 : E 78 = .int .i64 n78) (e79 : E 79 = .int .i64 n79) (e91 : E 91 = .int .i64 n91) (h : F27_6 R J1 p0 p6 p7 p15 p16 l77 n78 n79 n91 ds w) :
    TrL prog f27.ntmps [c27_14_0_2_3, c27_14_0_2_4] (F27_q8 R J1) E ds w :=
  TrL_head (K := (F27_k9 R J1)) (Tr_block' (c := innerC c27_14_0_2_3) (by kernel_rfl) c27_14_0_2_3_l (F27_5_ok R J1 p0 p6 p7 p15 p16 l77 n78 n79 n91 ds w E e0 e6 e7 e15 e16 e77 e78 e79 e91 h))
    (fun E' ds' w' hD => by
      obtain ⟨p0, e0, hD⟩ := dPtr_elim hD; obtain ⟨p6, e6, hD⟩ := dPtr_elim hD; obtain ⟨p7, e7, hD⟩ := dPtr_elim hD; obtain ⟨p15, e15, hD⟩ := dPtr_elim hD; obtain ⟨p16, e16, hD⟩ := dPtr_elim hD; obtain ⟨l77, e77, hD⟩ := dSl_elim hD; obtain ⟨n78, e78, hD⟩ := dInt_elim hD; obtain ⟨n79, e79, hD⟩ := dInt_elim hD; exact F27_3_ok R J1 p0 p6 p7 p15 p16 l77 n78 n79 ds' w' E' e0 e6 e7 e15 e16 e77 e78 e79 hD)
theorem F27_7_ok (R : Rt) (J1 : (Int) -> World -> Prop) (p0 p6 p7 : Option Addr) (l77 : SV) (n78 n79 : Int) (ds : Ds) (w : World) (E : Env) (e0 : E 0 = .pointer p0) (e6 : E 6 = .pointer p6) (e7 : E 7 = .pointer p7) (e77 : E 77 = .slice l77.a l77.len l77.cap) (e78 : E 78 = .int .i64 n78) (e79 : E 79 = .int .i64 n79) (h : F27_7 R J1 p0 p6 p7 l77 n78 n79 ds w) :
    TrL prog f27.ntmps [c27_14_0_2_0, c27_14_0_2_1, c27_14_0_2_2, c27_14_0_2_3, c27_14_0_2_4] (F27_q8 R J1) E ds w :=
  TrL_piece (pre := [c27_14_0_2_0, c27_14_0_2_1, c27_14_0_2_2]) (K := (F27_k13 R J1)) (X := F27_7 R J1 p0 p6 p7 l77 n78 n79 ds w) (setAll_cons e0 (setAll_cons e6 (setAll_cons e7 (setAll_cons e77 (setAll_cons e78 (setAll_cons e79 setAll_nil)))))) (by kernel_rfl) (by kernel_rfl)
    (fun E' ds' w' hD => by
      obtain ⟨p0, e0, hD⟩ := dPtr_elim hD; obtain ⟨p6, e6, hD⟩ := dPtr_elim hD; obtain ⟨p7, e7, hD⟩ := dPtr_elim hD; obtain ⟨p15, e15, hD⟩ := dPtr_elim hD; obtain ⟨p16, e16, hD⟩ := dPtr_elim hD; obtain ⟨l77, e77, hD⟩ := dSl_elim hD; obtain ⟨n78, e78, hD⟩ := dInt_elim hD; obtain ⟨n79, e79, hD⟩ := dInt_elim hD; obtain ⟨n91, e91, hD⟩ := dInt_elim hD; exact F27_6_ok R J1 p0 p6 p7 p15 p16 l77 n78 n79 n91 ds' w' E' e0 e6 e7 e15 e16 e77 e78 e79 e91 hD) h
theorem F27_8_ok (R : Rt) (J1 : (Int) -> World -> Prop) (p0 p6 p7 : Option Addr) (l77 : SV) (n78 n79 : Int) (ds : Ds) (w : World) (E : Env) (e0 : E 0 = .pointer p0) (e6 : E 6 = .pointer p6) (e7 : E 7 = .pointer p7) (e77 : E 77 = .slice l77.a l77.len l77.cap) (e78 : E 78 = .int .i64 n78) (e79 : E 79 = .int .i64 n79) (h : F27_8 R J1 p0 p6 p7 l77 n78 n79 ds w) :
    TrL prog f27.ntmps [c27_14_0_2, c27_14_0_3] (F27_q5 R J1) E ds w :=
  TrL_head (K := (F27_k6 R J1)) (Tr_block' (c := innerC c27_14_0_2) (by kernel_rfl) c27_14_0_2_l (F27_7_ok R J1 p0 p6 p7 l77 n78 n79 ds w E e0 e6 e7 e77 e78 e79 h))
    (fun E' ds' w' hD => by
      obtain ⟨p0, e0, hD⟩ := dPtr_elim hD; obtain ⟨p6, e6, hD⟩ := dPtr_elim hD; obtain ⟨p7, e7, hD⟩ := dPtr_elim hD; obtain ⟨l77, e77, hD⟩ := dSl_elim hD; obtain ⟨n78, e78, hD⟩ := dInt_elim hD; obtain ⟨n79, e79, hD⟩ := dInt_elim hD; exact F27_2_ok R J1 p0 p6 p7 l77 n78 n79 ds' w' E' e0 e6 e7 e77 e78 e79 hD)
theorem F27_9_ok (R : Rt) (J1 : (Int) -> World -> Prop) (p0 p6 p7 : Option Addr) (l77 : SV) (n78 n79 : Int) (ds : Ds) (w : World) (E : Env) (e0 : E 0 = .pointer p0) (e6 : E 6 = .pointer p6) (e7 : E 7 = .pointer p7) (e77 : E 77 = .slice l77.a l77.len l77.cap) (e78 : E 78 = .int .i64 n78) (e79 : E 79 = .int .i64 n79) (h : F27_9 R J1 p0 p6 p7 l77 n78 n79 ds w) :
    TrL prog f27.ntmps [c27_14_0_0, c27_14_0_1, c27_14_0_2, c27_14_0_3] (F27_q5 R J1) E ds w :=
  TrL_piece (pre := [c27_14_0_0, c27_14_0_1]) (K := (F27_k14 R J1)) (X := F27_9 R J1 p0 p6 p7 l77 n78 n79 ds w) (setAll_cons e0 (setAll_cons e6 (setAll_cons e7 (setAll_cons e77 (setAll_cons e78 (setAll_cons e79 setAll_nil)))))) (by kernel_rfl) (by kernel_rfl)
    (fun E' ds' w' hD => by
      obtain ⟨p0, e0, hD⟩ := dPtr_elim hD; obtain ⟨p6, e6, hD⟩ := dPtr_elim hD; obtain ⟨p7, e7, hD⟩ := dPtr_elim hD; obtain ⟨l77, e77, hD⟩ := dSl_elim hD; obtain ⟨n78, e78, hD⟩ := dInt_elim hD; obtain ⟨n79, e79, hD⟩ := dInt_elim hD; exact F27_8_ok R J1 p0 p6 p7 l77 n78 n79 ds' w' E' e0 e6 e7 e77 e78 e79 hD) h
theorem F27_10_ok (R : Rt) (p0 p6 p7 : Option Addr) (l77 : SV) (n78 n79 : Int) (ds : Ds) (w : World) (E : Env) (e0 : E 0 = .pointer p0) (e6 : E 6 = .pointer p6) (e7 : E 7 = .pointer p7) (e77 : E 77 = .slice l77.a l77.len l77.cap) (e78 : E 78 = .int .i64 n78) (e79 : E 79 = .int .i64 n79) (h : F27_10 R p0 p6 p7 l77 n78 n79 ds w) :
    TrL prog f27.ntmps [c27_14_0] (F27_q4 R) E ds w :=
  TrL_one (Tr_loop' (c := innerC c27_14_0) (σ := Int) (enc := (fun (s : Int) (E : Env) => E 79 = .int .i64 s)) (D := (fun E K => dInt .i64 (E 79) fun n79 => K n79)) (F := (fun (J1 : (Int) -> World -> Prop) (s : Int) (w : World) => F27_9 R J1 p0 p6 p7 l77 n78 s ds w)) (s0 := n79) (by kernel_rfl) c27_14_0_l e79 (by kernel_rfl) (fun E K hD => by obtain ⟨n79, e79, hD⟩ := dInt_elim hD; exact ⟨n79, e79, hD⟩)
      (fun J1 s E' w' he ha hF => by
      have e79' := he
      exact F27_9_ok R J1 p0 p6 p7 l77 n78 s ds w' E' ((ha 0 (by kernel_rfl)).trans e0) ((ha 6 (by kernel_rfl)).trans e6) ((ha 7 (by kernel_rfl)).trans e7) ((ha 77 (by kernel_rfl)).trans e77) ((ha 78 (by kernel_rfl)).trans e78) e79' hF) h)
theorem F27_11_ok (R : Rt) (p0 p6 p7 : Option Addr) (l77 : SV) (n78 n79 : Int) (ds : Ds) (w : World) (E : Env) (e0 : E 0 = .pointer p0) (e6 : E 6 = .pointer p6) (e7 : E 7 = .pointer p7) (e77 : E 77 = .slice l77.a l77.len l77.cap) (e78 : E 78 = .int .i64 n78) (e79 : E 79 = .int .i64 n79) (h : F27_11 R p0 p6 p7 l77 n78 n79 ds w) :
    TrL prog f27.ntmps [c27_14, c27_15, c27_16] (F27_q1 R) E ds w :=
  TrL_head (K := (F27_k2 R)) (Tr_block' (c := innerC c27_14) (by kernel_rfl) c27_14_l (F27_10_ok R p0 p6 p7 l77 n78 n79 ds w E e0 e6 e7 e77 e78 e79 h))
    (fun E' ds' w' hD => by
      exact F27_1_ok R ds' w' E'  hD)
theorem F27_12_ok (R : Rt) (p0 p6 p7 p8 p9 p13 : Option Addr) (ds : Ds) (w : World) (E : Env) (e0 : E 0 = .pointer p0) (e6 : E 6 = .pointer p6) (e7 : E 7 = .pointer p7) (e8 : E 8 = .pointer p8) (e9 : E 9 = .pointer p9) (e13 : E 13 = .pointer p13) (h : F27_12 R p0 p6 p7 p8 p9 p13 ds w) :
    TrL prog f27.ntmps [c27_10, c27_11, c27_12, c27_13, c27_14, c27_15, c27_16] (F27_q1 R) E ds w :=
  TrL_piece (pre := [c27_10, c27_11, c27_12, c27_13]) (K := (F27_k15 R)) (X := F27_12 R p0 p6 p7 p8 p9 p13 ds w) (setAll_cons e0 (setAll_cons e6 (setAll_cons e7 (setAll_cons e8 (setAll_cons e9 (setAll_cons e13 setAll_nil)))))) (by kernel_rfl) (by kernel_rfl)
    (fun E' ds' w' hD => by
      obtain ⟨p0, e0, hD⟩ := dPtr_elim hD; obtain ⟨p6, e6, hD⟩ := dPtr_elim hD; obtain ⟨p7, e7, hD⟩ := dPtr_elim hD; obtain ⟨l77, e77, hD⟩ := dSl_elim hD; obtain ⟨n78, e78, hD⟩ := dInt_elim hD; obtain ⟨n79, e79, hD⟩ := dInt_elim hD; exact F27_11_ok R p0 p6 p7 l77 n78 n79 ds' w' E' e0 e6 e7 e77 e78 e79 hD) h
theorem F27_13_ok (R : Rt) (p0 : Option Addr) (n1 : Int) (s2 : ByteArray) (n3 n4 : Int) (ds : Ds) (w : World) (E : Env) (e0 : E 0 = .pointer p0) (e1 : E 1 = .int .i64 n1) (e2 : E 2 = .string s2) (e3 : E 3 = .int .i64 n3) (e4 : E 4 = .int .i64 n4) (h : F27_13 R p0 n1 s2 n3 n4 ds w) :
    TrL prog f27.ntmps [c27_0, c27_1, c27_2, c27_3, c27_4, c27_5, c27_6, c27_7, c27_8, c27_9, c27_10, c27_11, c27_12, c27_13, c27_14, c27_15, c27_16] (F27_q1 R) E ds w :=
  TrL_piece (pre := [c27_0, c27_1, c27_2, c27_3, c27_4, c27_5, c27_6, c27_7, c27_8, c27_9]) (K := (F27_k16 R)) (X := F27_13 R p0 n1 s2 n3 n4 ds w) (setAll_cons e0 (setAll_cons e1 (setAll_cons e2 (setAll_cons e3 (setAll_cons e4 setAll_nil))))) (by kernel_rfl) (by kernel_rfl)
    (fun E' ds' w' hD => by
      obtain ⟨p0, e0, hD⟩ := dPtr_elim hD; obtain ⟨p6, e6, hD⟩ := dPtr_elim hD; obtain ⟨p7, e7, hD⟩ := dPtr_elim hD; obtain ⟨p8, e8, hD⟩ := dPtr_elim hD; obtain ⟨p9, e9, hD⟩ := dPtr_elim hD; obtain ⟨p13, e13, hD⟩ := dPtr_elim hD; exact F27_12_ok R p0 p6 p7 p8 p9 p13 ds' w' E' e0 e6 e7 e8 e9 e13 hD) h
theorem F27_calls (p0 : Option Addr) (n1 : Int) (s2 : ByteArray) (n3 n4 : Int) (w : World) (R : Rt) (h : F27_13 R p0 n1 s2 n3 n4 [] w) : Calls prog 27 #[.pointer p0, .int .i64 n1, .string s2, .int .i64 n3, .int .i64 n4] w R :=
  calls_of_L (l := [c27_0, c27_1, c27_2, c27_3, c27_4, c27_5, c27_6, c27_7, c27_8, c27_9, c27_10, c27_11, c27_12, c27_13, c27_14, c27_15, c27_16]) func27 (by kernel_rfl) (by rw [ntmps27]; exact Nat.le_of_ble_eq_true (by kernel_rfl)) c27_l
    (F27_13_ok R p0 n1 s2 n3 n4 [] w _ rfl rfl rfl rfl rfl h)
noncomputable def c31_0 := cI0 f31 0
noncomputable def c31_1 := cI0 f31 1
noncomputable def c31_2 := cI0 f31 2
noncomputable def c31_3 := cI0 f31 3
noncomputable def c31_4 := cI0 f31 4
noncomputable def c31_5 := cI0 f31 5
noncomputable def c31_6 := cI0 f31 6
noncomputable def c31_7 := cI0 f31 7
noncomputable def c31_8 := cI0 f31 8
noncomputable def c31_9 := cI0 f31 9
noncomputable def c31_10 := cI0 f31 10
noncomputable def c31_11 := cI0 f31 11
noncomputable def c31_12 := cI0 f31 12
noncomputable def c31_9_0 := cJ0 c31_9 0
noncomputable def c31_9_0_0 := cJ0 c31_9_0 0
noncomputable def c31_9_0_1 := cJ0 c31_9_0 1
noncomputable def c31_9_0_2 := cJ0 c31_9_0 2
noncomputable def c31_9_0_3 := cJ0 c31_9_0 3
def F31_q1 (R : Rt) : EQ := endQ prog f31.results.toList R
def F31_1 (R : Rt) (p0 : Option Addr) (n13 : Int) (ds : Ds) (w : World) : Prop :=
 ptrE p0 fun a1 =>
 ∃ l59 : SV, w.cell? (a1.add 7) = some (.slice l59.a l59.len l59.cap) /\
 Calls prog 81 #[.slice l59.a l59.len l59.cap, .int .i64 n13, .int .i64 (IntKind.i64.wrap (n13 + 1))] w fun e w2 =>
 ∃ l63 : SV, e = .returned (.slice l63.a l63.len l63.cap) /\
 ptrE p0 fun a3 =>
 st1 (a3.add 7) (.slice l63.a l63.len l63.cap) w2 fun w4 =>
 runD prog ds w4 fun w5 =>
 R (.returned (.int .i64 0)) w5
def F31_k2 (R : Rt) : EP := (fun E ds w => dPtr (E 0) fun p0 => dInt .i64 (E 13) fun n13 => F31_1 R p0 n13 ds w)
def F31_q3 (R : Rt) : EQ := (thenQ (F31_k2 R) (F31_q1 R))
def F31_q4 (R : Rt) : EQ := (blockQ 0 (F31_q3 R))
def F31_q5 (R : Rt) (J1 : (Int) -> World -> Prop) : EQ := (thenQ (fun E _ w => dInt .i64 (E 46) fun n46 => J1 n46 w) (F31_q4 R))
def F31_2 (R : Rt) (J1 : (Int) -> World -> Prop) (p0 : Option Addr) (n1 n13 : Int) (l44 : SV) (n45 n46 : Int) (ds : Ds) (w : World) : Prop :=
 Br (decide (n46 < n45)) (
 ∃ a6 : Addr, l44.a = some a6 /\ 0 <= n46 /\ n46 < (l44.len : Int) /\
 ∃ s49_0 : ByteArray, w.cell? ((a6.add (n46.toNat * 2)).add 0) = some (.string s49_0) /\
 ∃ n49_1 : Int, w.cell? ((a6.add (n46.toNat * 2)).add 1) = some (.int .i64 n49_1) /\
 alE (.cells #[.string (⟨#[]⟩ : ByteArray), .int .i64 0] 92) w fun r15 w7 =>
 stA prog 92 (⟨r15, 0, none⟩ : Addr) #[.string s49_0, .int .i64 n49_1] w7 fun w8 =>
 ∃ s52_0 : ByteArray, w8.cell? ((⟨r15, 0, none⟩ : Addr).add 0) = some (.string s52_0) /\
 ∃ n52_1 : Int, w8.cell? ((⟨r15, 0, none⟩ : Addr).add 1) = some (.int .i64 n52_1) /\
 Calls prog 70 #[.pointer p0, .int .i64 n1, .agg #[.string s52_0, .int .i64 n52_1]] w8 fun e w9 =>
 ∃ n53 : Int, e = .returned (.int .i64 n53) /\
 J1 (IntKind.i64.wrap (n46 + 1)) w9) (
 F31_1 R p0 n13 ds w)
def F31_3 (R : Rt) (p0 : Option Addr) (n1 n13 : Int) (l44 : SV) (n45 n46 : Int) (ds : Ds) (w : World) : Prop :=
 loopT (fun (J1 : (Int) -> World -> Prop) (s : Int) (w : World) => F31_2 R J1 p0 n1 n13 l44 n45 s ds w) n46 w
abbrev F31_4 (R : Rt) (p0 : Option Addr) (n1 n13 : Int) (l44 : SV) (n45 n46 : Int) (ds : Ds) (w : World) : Prop := F31_3 R p0 n1 n13 l44 n45 n46 ds w
def F31_k6 (R : Rt) : EP := (fun E ds w => dPtr (E 0) fun p0 => dInt .i64 (E 1) fun n1 => dInt .i64 (E 13) fun n13 => dSl (E 44) fun l44 => dInt .i64 (E 45) fun n45 => dInt .i64 (E 46) fun n46 => F31_4 R p0 n1 n13 l44 n45 n46 ds w)
def F31_5 (R : Rt) (p0 : Option Addr) (n1 : Int) (s2 : ByteArray) (n3 n4 : Int) (ds : Ds) (w : World) : Prop :=
 Calls prog 43 #[.pointer p0, .int .i64 n1, .string s2] w fun e w10 =>
 ∃ v20_0 : Value, ∃ n20_1 : Int, e = .returned (.tuple #[v20_0, .int .i64 n20_1]) /\
 fnE v20_0 fun fx firstx capx =>
 Br (n20_1 != 0) (
 runD prog ({ target := .fn (.func fx) capx, args := (firstx.toList ++ ([] : List Value)).toArray } :: ds) w10 fun w11 =>
 R (.returned (.int .i64 n20_1)) w11) (
 ptrE p0 fun a12 =>
 ∃ l30 : SV, w10.cell? (a12.add 7) = some (.slice l30.a l30.len l30.cap) /\
 Calls prog 80 #[.slice l30.a l30.len l30.cap, .agg #[.int .i64 n1, .string s2, .int .i64 n3, .int .i64 n4]] w10 fun e w13 =>
 ∃ n36 : Int, e = .returned (.int .i64 n36) /\
 Br (decide (n36 < 0)) (
 runD prog ({ target := .fn (.func fx) capx, args := (firstx.toList ++ ([] : List Value)).toArray } :: ds) w13 fun w14 =>
 R (.returned (.int .i64 4)) w14) (
 Calls prog 69 #[.pointer p0, .int .i64 n1, .string s2, .int .i64 n3, .int .i64 n4] w13 fun e w15 =>
 ∃ l44 : SV, e = .returned (.slice l44.a l44.len l44.cap) /\
 F31_4 R p0 n1 n36 l44 (l44.len : Int) 0 ({ target := .fn (.func fx) capx, args := (firstx.toList ++ ([] : List Value)).toArray } :: ds) w15))
theorem c31_l : flat (bodyOf f31) = [c31_0, c31_1, c31_2, c31_3, c31_4, c31_5, c31_6, c31_7, c31_8, c31_9, c31_10, c31_11, c31_12] := by kernel_rfl
theorem c31_9_l : flat (innerC c31_9) = [c31_9_0] := by kernel_rfl
theorem c31_9_0_l : flat (innerC c31_9_0) = [c31_9_0_0, c31_9_0_1, c31_9_0_2, c31_9_0_3] := by kernel_rfl
theorem F31_1_ok (R : Rt) (p0 : Option Addr) (n13 : Int) (ds : Ds) (w : World) (E : Env) (e0 : E 0 = .pointer p0) (e13 : E 13 = .int .i64 n13) (h : F31_1 R p0 n13 ds w) :
    TrL prog f31.ntmps [c31_10, c31_11, c31_12] (F31_q1 R) E ds w :=
  TrL_leaf (X := F31_1 R p0 n13 ds w) (setAll_cons e0 (setAll_cons e13 setAll_nil)) (by kernel_rfl) (by kernel_rfl) h
theorem F31_2_ok (R : Rt) (J1 : (Int) -> World -> Prop) (p0 : Option Addr) (n1 n13 : Int) (l44 : SV) (n45 n46 : Int) (ds : Ds) (w : World) (E : Env) (e0 : E 0 = .pointer p0) (e1 : E 1 = .int .i64 n1) (e13 : E 13 = .int .i64 n13) (e44 : E 44 = .slice l44.a l44.len l44.cap) (e45 : E 45 = .int .i64 n45) (e46 : E 46 = .int .i64 n46) (h : F31_2 R J1 p0 n1 n13 l44 n45 n46 ds w) :
    TrL prog f31.ntmps [c31_9_0_0, c31_9_0_1, c31_9_0_2, c31_9_0_3] (F31_q5 R J1) E ds w :=
  TrL_leaf (X := F31_2 R J1 p0 n1 n13 l44 n45 n46 ds w) (setAll_cons e0 (setAll_cons e1 (setAll_cons e13 (setAll_cons e44 (setAll_cons e45 (setAll_cons e46 setAll_nil)))))) (by kernel_rfl) (by kernel_rfl) h
theorem F31_3_ok (R : Rt) (p0 : Option Addr) (n1 n13 : Int) (l44 : SV) (n45 n46 : Int) (ds : Ds) (w : World) (E : Env) (e0 : E 0 = .pointer p0) (e1 : E 1 = .int .i64 n1) (e13 : E 13 = .int .i64 n13) (e44 : E 44 = .slice l44.a l44.len l44.cap) (e45 : E 45 = .int .i64 n45) (e46 : E 46 = .int .i64 n46) (h : F31_3 R p0 n1 n13 l44 n45 n46 ds w) :
    TrL prog f31.ntmps [c31_9_0] (F31_q4 R) E ds w :=
  TrL_one (Tr_loop' (c := innerC c31_9_0) (σ := Int) (enc := (fun (s : Int) (E : Env) => E 46 = .int .i64 s)) (D := (fun E K => dInt .i64 (E 46) fun n46 => K n46)) (F := (fun (J1 : (Int) -> World -> Prop) (s : Int) (w : World) => F31_2 R J1 p0 n1 n13 l44 n45 s ds w)) (s0 := n46) (by kernel_rfl) c31_9_0_l e46 (by kernel_rfl) (fun E K hD => by obtain ⟨n46, e46, hD⟩ := dInt_elim hD; exact ⟨n46, e46, hD⟩)
      (fun J1 s E' w' he ha hF => by
      have e46' := he
      exact F31_2_ok R J1 p0 n1 n13 l44 n45 s ds w' E' ((ha 0 (by kernel_rfl)).trans e0) ((ha 1 (by kernel_rfl)).trans e1) ((ha 13 (by kernel_rfl)).trans e13) ((ha 44 (by kernel_rfl)).trans e44) ((ha 45 (by kernel_rfl)).trans e45) e46' hF) h)
theorem F31_4_ok (R : Rt) (p0 : Option Addr) (n1 n13 : Int) (l44 : SV) (n45 n46 : Int) (ds : Ds) (w : World) (E : Env) (e0 : E 0 = .pointer p0) (e1 : E 1 = .int .i64 n1) (e13 : E 13 = .int .i64 n13) (e44 : E 44 = .slice l44.a l44.len l44.cap) (e45 : E 45 = .int .i64 n45) (e46 : E 46 = .int .i64 n46) (h : F31_4 R p0 n1 n13 l44 n45 n46 ds w) :
    TrL prog f31.ntmps [c31_9, c31_10, c31_11, c31_12] (F31_q1 R) E ds w :=
  TrL_head (K := (F31_k2 R)) (Tr_block' (c := innerC c31_9) (by kernel_rfl) c31_9_l (F31_3_ok R p0 n1 n13 l44 n45 n46 ds w E e0 e1 e13 e44 e45 e46 h))
    (fun E' ds' w' hD => by
      obtain ⟨p0, e0, hD⟩ := dPtr_elim hD; obtain ⟨n13, e13, hD⟩ := dInt_elim hD; exact F31_1_ok R p0 n13 ds' w' E' e0 e13 hD)
theorem F31_5_ok (R : Rt) (p0 : Option Addr) (n1 : Int) (s2 : ByteArray) (n3 n4 : Int) (ds : Ds) (w : World) (E : Env) (e0 : E 0 = .pointer p0) (e1 : E 1 = .int .i64 n1) (e2 : E 2 = .string s2) (e3 : E 3 = .int .i64 n3) (e4 : E 4 = .int .i64 n4) (h : F31_5 R p0 n1 s2 n3 n4 ds w) :
    TrL prog f31.ntmps [c31_0, c31_1, c31_2, c31_3, c31_4, c31_5, c31_6, c31_7, c31_8, c31_9, c31_10, c31_11, c31_12] (F31_q1 R) E ds w :=
  TrL_piece (pre := [c31_0, c31_1, c31_2, c31_3, c31_4, c31_5, c31_6, c31_7, c31_8]) (K := (F31_k6 R)) (X := F31_5 R p0 n1 s2 n3 n4 ds w) (setAll_cons e0 (setAll_cons e1 (setAll_cons e2 (setAll_cons e3 (setAll_cons e4 setAll_nil))))) (by kernel_rfl) (by kernel_rfl)
    (fun E' ds' w' hD => by
      obtain ⟨p0, e0, hD⟩ := dPtr_elim hD; obtain ⟨n1, e1, hD⟩ := dInt_elim hD; obtain ⟨n13, e13, hD⟩ := dInt_elim hD; obtain ⟨l44, e44, hD⟩ := dSl_elim hD; obtain ⟨n45, e45, hD⟩ := dInt_elim hD; obtain ⟨n46, e46, hD⟩ := dInt_elim hD; exact F31_4_ok R p0 n1 n13 l44 n45 n46 ds' w' E' e0 e1 e13 e44 e45 e46 hD) h
theorem F31_calls (p0 : Option Addr) (n1 : Int) (s2 : ByteArray) (n3 n4 : Int) (w : World) (R : Rt) (h : F31_5 R p0 n1 s2 n3 n4 [] w) : Calls prog 31 #[.pointer p0, .int .i64 n1, .string s2, .int .i64 n3, .int .i64 n4] w R :=
  calls_of_L (l := [c31_0, c31_1, c31_2, c31_3, c31_4, c31_5, c31_6, c31_7, c31_8, c31_9, c31_10, c31_11, c31_12]) func31 (by kernel_rfl) (by rw [ntmps31]; exact Nat.le_of_ble_eq_true (by kernel_rfl)) c31_l
    (F31_5_ok R p0 n1 s2 n3 n4 [] w _ rfl rfl rfl rfl rfl h)
noncomputable def c43_0 := cI0 f43 0
noncomputable def c43_1 := cI0 f43 1
noncomputable def c43_2 := cI0 f43 2
noncomputable def c43_3 := cI0 f43 3
noncomputable def c43_4 := cI0 f43 4
noncomputable def c43_5 := cI0 f43 5
noncomputable def c43_6 := cI0 f43 6
noncomputable def c43_7 := cI0 f43 7
noncomputable def c43_8 := cI0 f43 8
noncomputable def c43_9 := cI0 f43 9
noncomputable def c43_10 := cI0 f43 10
def F43_q1 (R : Rt) : EQ := endQ prog f43.results.toList R
def F43_1 (R : Rt) (p0 : Option Addr) (n1 : Int) (s2 : ByteArray) (ds : Ds) (w : World) : Prop :=
 ∃ b11 : Bool, ∃ w1 : World, (eqS .eql 25 (.tmp 10) (.const (.pointer none)) (.pointer p0) (.pointer none)).run prog w = .ok (.bool b11) w1 /\
 Br b11 (
 runD prog ds w1 fun w2 =>
 R (.returned (.tuple #[.func (.func 93) #[] #[], .int .i64 9])) w2) (
 ptrE p0 fun a3 =>
 Calls prog 46 #[.pointer (some a3)] w1 fun e w4 =>
 e = .returned (.tuple #[]) /\
 Br (decide (n1 < 0)) (
 ptrE p0 fun a5 =>
 runD prog ds w4 fun w6 =>
 R (.returned (.tuple #[.func (.func 47) #[.pointer (some a5)] #[], .int .i64 1])) w6) (
 Br (decide (n1 ≥ 4)) (
 ptrE p0 fun a7 =>
 runD prog ds w4 fun w8 =>
 R (.returned (.tuple #[.func (.func 47) #[.pointer (some a7)] #[], .int .i64 1])) w8) (
 Calls prog 94 #[.string s2] w4 fun e w9 =>
 ∃ b24 : Bool, e = .returned (.bool b24) /\
 Br (!b24) (
 ptrE p0 fun a10 =>
 runD prog ds w9 fun w11 =>
 R (.returned (.tuple #[.func (.func 47) #[.pointer (some a10)] #[], .int .i64 1])) w11) (
 ptrE p0 fun a12 =>
 ∃ m35 : Option Nat, w9.cell? (a12.add 2) = some (.map m35) /\
 ∃ l37_0 : SV, ∃ b37_1 : Bool, ∃ w13 : World, (Instr.lookup 55 (.map m35) (.string s2) true).run prog w9 = .ok (.tuple #[.slice l37_0.a l37_0.len l37_0.cap, .bool b37_1]) w13 /\
 Br (!b37_1) (
 ptrE p0 fun a14 =>
 runD prog ds w13 fun w15 =>
 R (.returned (.tuple #[.func (.func 47) #[.pointer (some a14)] #[], .int .i64 4])) w15) (
 ptrE p0 fun a16 =>
 runD prog ds w13 fun w17 =>
 R (.returned (.tuple #[.func (.func 47) #[.pointer (some a16)] #[], .int .i64 0])) w17)))))
theorem c43_l : flat (bodyOf f43) = [c43_0, c43_1, c43_2, c43_3, c43_4, c43_5, c43_6, c43_7, c43_8, c43_9, c43_10] := by kernel_rfl
theorem F43_1_ok (R : Rt) (p0 : Option Addr) (n1 : Int) (s2 : ByteArray) (ds : Ds) (w : World) (E : Env) (e0 : E 0 = .pointer p0) (e1 : E 1 = .int .i64 n1) (e2 : E 2 = .string s2) (h : F43_1 R p0 n1 s2 ds w) :
    TrL prog f43.ntmps [c43_0, c43_1, c43_2, c43_3, c43_4, c43_5, c43_6, c43_7, c43_8, c43_9, c43_10] (F43_q1 R) E ds w :=
  TrL_leaf (X := F43_1 R p0 n1 s2 ds w) (setAll_cons e0 (setAll_cons e1 (setAll_cons e2 setAll_nil))) (by kernel_rfl) (by kernel_rfl) h
theorem F43_calls (p0 : Option Addr) (n1 : Int) (s2 : ByteArray) (w : World) (R : Rt) (h : F43_1 R p0 n1 s2 [] w) : Calls prog 43 #[.pointer p0, .int .i64 n1, .string s2] w R :=
  calls_of_L (l := [c43_0, c43_1, c43_2, c43_3, c43_4, c43_5, c43_6, c43_7, c43_8, c43_9, c43_10]) func43 (by kernel_rfl) (by rw [ntmps43]; exact Nat.le_of_ble_eq_true (by kernel_rfl)) c43_l
    (F43_1_ok R p0 n1 s2 [] w _ rfl rfl rfl h)
noncomputable def c67_0 := cI0 f67 0
noncomputable def c67_1 := cI0 f67 1
noncomputable def c67_1_0 := cJ0 c67_1 0
noncomputable def c67_1_0_0 := cJ0 c67_1_0 0
noncomputable def c67_1_0_1 := cJ0 c67_1_0 1
noncomputable def c67_1_0_2 := cJ0 c67_1_0 2
noncomputable def c67_1_0_2_0 := cJ0 c67_1_0_2 0
noncomputable def c67_1_0_2_1 := cJ0 c67_1_0_2 1
noncomputable def c67_1_0_2_2 := cJ0 c67_1_0_2 2
noncomputable def c67_1_0_2_3 := cJ0 c67_1_0_2 3
noncomputable def c67_1_0_2_4 := cJ0 c67_1_0_2 4
noncomputable def c67_1_0_2_5 := cJ0 c67_1_0_2 5
noncomputable def c67_1_0_2_6 := cJ0 c67_1_0_2 6
noncomputable def c67_1_0_2_7 := cJ0 c67_1_0_2 7
noncomputable def c67_1_0_2_4_0 := cJ0 c67_1_0_2_4 0
noncomputable def c67_1_0_2_4_0_0 := cJ0 c67_1_0_2_4_0 0
noncomputable def c67_1_0_2_4_0_1 := cJ0 c67_1_0_2_4_0 1
noncomputable def c67_1_0_2_4_0_2 := cJ0 c67_1_0_2_4_0 2
noncomputable def c67_1_0_2_4_0_3 := cJ0 c67_1_0_2_4_0 3
def F67_q1 (R : Rt) : EQ := endQ prog f67.results.toList R
def F67_q2 (R : Rt) : EQ := (blockQ 0 (F67_q1 R))
def F67_q3 (R : Rt) (J1 : (Unit) -> World -> Prop) : EQ := (thenQ (fun E _ w => J1 () w) (F67_q2 R))
def F67_q4 (R : Rt) (J1 : (Unit) -> World -> Prop) : EQ := (blockQ 1 (F67_q3 R J1))
def F67_1 (R : Rt) (J1 : (Unit) -> World -> Prop) (p0 : Option Addr) (n1 : Int) (s2 : ByteArray) (n3 : Int) (p8 p9 p17 : Option Addr) (ds : Ds) (w : World) : Prop :=
 dwE w fun w1 =>
 ptrE p0 fun a2 =>
 0 <= n1 /\ n1 < (4 : Int) /\
 ∃ m59 : Option Nat, w1.cell? ((a2.add 3).add (n1.toNat * 1)) = some (.map m59) /\
 ptrE p8 fun a3 =>
 ∃ s60_0 : ByteArray, w1.cell? (a3.add 0) = some (.string s60_0) /\
 ∃ n60_1 : Int, w1.cell? (a3.add 1) = some (.int .i64 n60_1) /\
 ptrE p9 fun a4 =>
 ∃ c61 : Array Value, c61.size = 96 /\ (∀ i, i < 96 -> w1.cell? (a4.add i) = c61[i]?) /\
 doE prog (Instr.mapUpdate 63 (.map m59) (.agg #[.string s60_0, .int .i64 n60_1]) (.agg c61)) w1 fun w5 =>
 ptrE p8 fun a6 =>
 ∃ n63 : Int, w5.cell? (a6.add 1) = some (.int .i64 n63) /\
 Br (decide ((IntKind.i64.wrap (n63 * 32)) ≥ n3)) (
 dwE w5 fun w7 =>
 ptrE p0 fun a8 =>
 0 <= n1 /\ n1 < (4 : Int) /\
 ∃ m72 : Option Nat, w7.cell? ((a8.add 3).add (n1.toNat * 1)) = some (.map m72) /\
 ptrE p8 fun a9 =>
 ∃ s73_0 : ByteArray, w7.cell? (a9.add 0) = some (.string s73_0) /\
 ∃ n73_1 : Int, w7.cell? (a9.add 1) = some (.int .i64 n73_1) /\
 ∃ w10 : World, (Builtin.delete_ #[63, 92] 0 #[.map m72, .agg #[.string s73_0, .int .i64 n73_1]]).run prog w7 = .ok (.tuple #[]) w10 /\
 J1 () w10) (
 J1 () w5)
def F67_k5 (R : Rt) (J1 : (Unit) -> World -> Prop) : EP := (fun E ds w => dPtr (E 0) fun p0 => dInt .i64 (E 1) fun n1 => dStr (E 2) fun s2 => dInt .i64 (E 3) fun n3 => dPtr (E 8) fun p8 => dPtr (E 9) fun p9 => dPtr (E 17) fun p17 => F67_1 R J1 p0 n1 s2 n3 p8 p9 p17 ds w)
def F67_q6 (R : Rt) (J1 : (Unit) -> World -> Prop) : EQ := (thenQ (F67_k5 R J1) (F67_q4 R J1))
def F67_q7 (R : Rt) (J1 : (Unit) -> World -> Prop) : EQ := (blockQ 2 (F67_q6 R J1))
def F67_q8 (R : Rt) (J1 : (Unit) -> World -> Prop) (J2 : (Int) -> World -> Prop) : EQ := (thenQ (fun E _ w => dInt .i64 (E 10) fun n10 => J2 n10 w) (F67_q7 R J1))
def F67_2 (R : Rt) (J1 : (Unit) -> World -> Prop) (J2 : (Int) -> World -> Prop) (p0 : Option Addr) (n1 : Int) (s2 : ByteArray) (n3 : Int) (p8 p9 : Option Addr) (n10 : Int) (p17 : Option Addr) (ds : Ds) (w : World) : Prop :=
 Br (decide (n10 < 32)) (
 ptrE p9 fun a11 =>
 0 <= n10 /\ n10 < (32 : Int) /\
 st1 ((a11.add 32).add (n10.toNat * 1)) (.bool false) w fun w12 =>
 ptrE p9 fun a13 =>
 0 <= n10 /\ n10 < (32 : Int) /\
 st1 ((a13.add 64).add (n10.toNat * 1)) (.bool false) w12 fun w14 =>
 ptrE p9 fun a15 =>
 0 <= n10 /\ n10 < (32 : Int) /\
 st1 (a15.add (n10.toNat * 1)) (.int .u8 0) w14 fun w16 =>
 J2 (IntKind.i64.wrap (n10 + 1)) w16) (
 F67_1 R J1 p0 n1 s2 n3 p8 p9 p17 ds w)
def F67_3 (R : Rt) (J1 : (Unit) -> World -> Prop) (p0 : Option Addr) (n1 : Int) (s2 : ByteArray) (n3 : Int) (p8 p9 : Option Addr) (n10 : Int) (p17 : Option Addr) (ds : Ds) (w : World) : Prop :=
 loopT (fun (J2 : (Int) -> World -> Prop) (s : Int) (w : World) => F67_2 R J1 J2 p0 n1 s2 n3 p8 p9 s p17 ds w) n10 w
abbrev F67_4 (R : Rt) (J1 : (Unit) -> World -> Prop) (p0 : Option Addr) (n1 : Int) (s2 : ByteArray) (n3 : Int) (p8 p9 : Option Addr) (n10 : Int) (p17 : Option Addr) (ds : Ds) (w : World) : Prop := F67_3 R J1 p0 n1 s2 n3 p8 p9 n10 p17 ds w
def F67_k9 (R : Rt) (J1 : (Unit) -> World -> Prop) : EP := (fun E ds w => dPtr (E 0) fun p0 => dInt .i64 (E 1) fun n1 => dStr (E 2) fun s2 => dInt .i64 (E 3) fun n3 => dPtr (E 8) fun p8 => dPtr (E 9) fun p9 => dInt .i64 (E 10) fun n10 => dPtr (E 17) fun p17 => F67_4 R J1 p0 n1 s2 n3 p8 p9 n10 p17 ds w)
def F67_5 (R : Rt) (J1 : (Unit) -> World -> Prop) (p0 : Option Addr) (n1 : Int) (s2 : ByteArray) (n3 : Int) (p17 : Option Addr) (ds : Ds) (w : World) : Prop :=
 ∃ k20 v20 : Value, ∃ w17 : World, (Instr.entry (.pointer p17)).run prog w = .ok (.tuple #[k20, v20]) w17 /\
 dAgg k20 fun q21 =>
 dHd q21 fun x21_0 q21_0 =>
 dStr x21_0 fun s21_0 =>
 dHd q21_0 fun x21_1 q21_1 =>
 dInt .i64 x21_1 fun n21_1 =>
 dNil q21_1 (
 dRow v20 fun c22 =>
 alE (.cells #[.string (⟨#[]⟩ : ByteArray), .int .i64 0] 92) w17 fun r8 w18 =>
 alE (.cells (zc prog 89) 89) w18 fun r9 w19 =>
 stA prog 92 (⟨r8, 0, none⟩ : Addr) #[.string s21_0, .int .i64 n21_1] w19 fun w20 =>
 stA prog 89 (⟨r9, 0, none⟩ : Addr) c22 w20 fun w21 =>
 ∃ s24 : ByteArray, w21.cell? (⟨r8, 0, none⟩ : Addr) = some (.string s24) /\
 Br (!(s24.toList == s2.toList)) (
 J1 () w21) (
 ∃ n29 : Int, w21.cell? ((⟨r8, 0, none⟩ : Addr).add 1) = some (.int .i64 n29) /\
 Br (decide ((IntKind.i64.wrap ((IntKind.i64.wrap (n29 + 1)) * 32)) <= n3)) (
 J1 () w21) (
 ∃ n37 : Int, w21.cell? ((⟨r8, 0, none⟩ : Addr).add 1) = some (.int .i64 n37) /\
 ∃ n40 : Int, ∃ w22 : World, (Builtin.max_ #[3, 3] 3 #[.int .i64 0, .int .i64 (IntKind.i64.wrap (n3 - (IntKind.i64.wrap (n37 * 32))))]).run prog w21 = .ok (.int .i64 n40) w22 /\
 F67_4 R J1 p0 n1 s2 n3 (some (⟨r8, 0, none⟩ : Addr)) (some (⟨r9, 0, none⟩ : Addr)) n40 p17 ds w22)))
abbrev F67_6 (R : Rt) (J1 : (Unit) -> World -> Prop) (p0 : Option Addr) (n1 : Int) (s2 : ByteArray) (n3 : Int) (p17 : Option Addr) (ds : Ds) (w : World) : Prop := F67_5 R J1 p0 n1 s2 n3 p17 ds w
def F67_k10 (R : Rt) (J1 : (Unit) -> World -> Prop) : EP := (fun E ds w => dPtr (E 0) fun p0 => dInt .i64 (E 1) fun n1 => dStr (E 2) fun s2 => dInt .i64 (E 3) fun n3 => dPtr (E 17) fun p17 => F67_6 R J1 p0 n1 s2 n3 p17 ds w)
def F67_7 (R : Rt) (J1 : (Unit) -> World -> Prop) (p0 : Option Addr) (n1 : Int) (s2 : ByteArray) (n3 : Int) (p17 : Option Addr) (ds : Ds) (w : World) : Prop :=
 (∃ w23 : World, (Instr.next (.pointer p17) false 0).run prog w = .ok (.tuple #[.bool false]) w23 /\
 runD prog ds w23 fun w25 =>
 R (.returned (.tuple #[])) w25) ∨ (∃ k18 v18 : Value, ∃ w24 : World, (Instr.next (.pointer p17) false 0).run prog w = .ok (.tuple #[.bool true, k18, v18]) w24 /\
 F67_6 R J1 p0 n1 s2 n3 p17 ds w24)
def F67_8 (R : Rt) (p0 : Option Addr) (n1 : Int) (s2 : ByteArray) (n3 : Int) (p17 : Option Addr) (ds : Ds) (w : World) : Prop :=
 loopT (fun (J1 : (Unit) -> World -> Prop) (_ : Unit) (w : World) => F67_7 R J1 p0 n1 s2 n3 p17 ds w) () w
abbrev F67_9 (R : Rt) (p0 : Option Addr) (n1 : Int) (s2 : ByteArray) (n3 : Int) (p17 : Option Addr) (ds : Ds) (w : World) : Prop := F67_8 R p0 n1 s2 n3 p17 ds w
def F67_k11 (R : Rt) : EP := (fun E ds w => dPtr (E 0) fun p0 => dInt .i64 (E 1) fun n1 => dStr (E 2) fun s2 => dInt .i64 (E 3) fun n3 => dPtr (E 17) fun p17 => F67_9 R p0 n1 s2 n3 p17 ds w)
def F67_10 (R : Rt) (p0 : Option Addr) (n1 : Int) (s2 : ByteArray) (n3 : Int) (ds : Ds) (w : World) : Prop :=
 ptrE p0 fun a26 =>
 0 <= n1 /\ n1 < (4 : Int) /\
 ∃ m16 : Option Nat, w.cell? ((a26.add 3).add (n1.toNat * 1)) = some (.map m16) /\
 ∃ p17 : Option Addr, ∃ w27 : World, (Instr.range 63 (.map m16)).run prog w = .ok (.pointer p17) w27 /\
 F67_9 R p0 n1 s2 n3 p17 ds w27
theorem c67_l : flat (bodyOf f67) = [c67_0, c67_1] := by kernel_rfl
theorem c67_1_l : flat (innerC c67_1) = [c67_1_0] := by kernel_rfl
theorem c67_1_0_l : flat (innerC c67_1_0) = [c67_1_0_0, c67_1_0_1, c67_1_0_2] := by kernel_rfl
theorem c67_1_0_2_l : flat (innerC c67_1_0_2) = [c67_1_0_2_0, c67_1_0_2_1, c67_1_0_2_2, c67_1_0_2_3, c67_1_0_2_4, c67_1_0_2_5, c67_1_0_2_6, c67_1_0_2_7] := by kernel_rfl
theorem c67_1_0_2_4_l : flat (innerC c67_1_0_2_4) = [c67_1_0_2_4_0] := by kernel_rfl
theorem c67_1_0_2_4_0_l : flat (innerC c67_1_0_2_4_0) = [c67_1_0_2_4_0_0, c67_1_0_2_4_0_1, c67_1_0_2_4_0_2, c67_1_0_2_4_0_3] := by kernel_rfl
theorem F67_1_ok (R : Rt) (J1 : (Unit) -> World -> Prop) (p0 : Option Addr) (n1 : Int) (s2 : ByteArray) (n3 : Int) (p8 p9 p17 : Option Addr) (ds : Ds) (w : World) (E : Env) (e0 : E 0 = .pointer p0) (e1 : E 1 = .int .i64 n1) (e2 : E 2 = .string s2) (e3 : E 3 = .int .i64 n3) (e8 : E 8 = .pointer p8) (e9 : E 9 = .pointer p9) (e17 : E 17 = .pointer p17) (h : F67_1 R J1 p0 n1 s2 n3 p8 p9 p17 ds w) :
    TrL prog f67.ntmps [c67_1_0_2_5, c67_1_0_2_6, c67_1_0_2_7] (F67_q4 R J1) E ds w :=
  TrL_leaf (X := F67_1 R J1 p0 n1 s2 n3 p8 p9 p17 ds w) (setAll_cons e0 (setAll_cons e1 (setAll_cons e2 (setAll_cons e3 (setAll_cons e8 (setAll_cons e9 (setAll_cons e17 setAll_nil))))))) (by kernel_rfl) (by kernel_rfl) h
theorem F67_2_ok (R : Rt) (J1 : (Unit) -> World -> Prop) (J2 : (Int) -> World -> Prop) (p0 : Option Addr) (n1 : Int) (s2 : ByteArray) (n3 : Int) (p8 p9 : Option Addr) (n10 : Int) (p17 : Option Addr) (ds : Ds) (w : World) (E : Env) (e0 : E 0 = .pointer p0) (e1 : E 1 = .int .i64 n1) (e2 : E 2 = .string s2) (e3 : E 3 = .int .i64 n3) (e8 : E 8 = .pointer p8) (e9 : E 9 = .pointer p9) (e10 : E 10 = .int .i64 n10) (e17 : E 17 = .pointer p17) (h : F67_2 R J1 J2 p0 n1 s2 n3 p8 p9 n10 p17 ds w) :
    TrL prog f67.ntmps [c67_1_0_2_4_0_0, c67_1_0_2_4_0_1, c67_1_0_2_4_0_2, c67_1_0_2_4_0_3] (F67_q8 R J1 J2) E ds w :=
  TrL_leaf (X := F67_2 R J1 J2 p0 n1 s2 n3 p8 p9 n10 p17 ds w) (setAll_cons e0 (setAll_cons e1 (setAll_cons e2 (setAll_cons e3 (setAll_cons e8 (setAll_cons e9 (setAll_cons e10 (setAll_cons e17 setAll_nil)))))))) (by kernel_rfl) (by kernel_rfl) h
theorem F67_3_ok (R : Rt) (J1 : (Unit) -> World -> Prop) (p0 : Option Addr) (n1 : Int) (s2 : ByteArray) (n3 : Int) (p8 p9 : Option Addr) (n10 : Int) (p17 : Option Addr) (ds : Ds) (w : World) (E : Env) (e0 : E 0 = .pointer p0) (e1 : E 1 = .int .i64 n1) (e2 : E 2 = .string s2) (e3 : E 3 = .int .i64 n3) (e8 : E 8 = .pointer p8) (e9 : E 9 = .pointer p9) (e10 : E 10 = .int .i64 n10) (e17 : E 17 = .pointer p17) (h : F67_3 R J1 p0 n1 s2 n3 p8 p9 n10 p17 ds w) :
    TrL prog f67.ntmps [c67_1_0_2_4_0] (F67_q7 R J1) E ds w :=
  TrL_one (Tr_loop' (c := innerC c67_1_0_2_4_0) (σ := Int) (enc := (fun (s : Int) (E : Env) => E 10 = .int .i64 s)) (D := (fun E K => dInt .i64 (E 10) fun n10 => K n10)) (F := (fun (J2 : (Int) -> World -> Prop) (s : Int) (w : World) => F67_2 R J1 J2 p0 n1 s2 n3 p8 p9 s p17 ds w)) (s0 := n10) (by kernel_rfl) c67_1_0_2_4_0_l e10 (by kernel_rfl) (fun E K hD => by obtain ⟨n10, e10, hD⟩ := dInt_elim hD; exact ⟨n10, e10, hD⟩)
      (fun J2 s E' w' he ha hF => by
      have e10' := he
      exact F67_2_ok R J1 J2 p0 n1 s2 n3 p8 p9 s p17 ds w' E' ((ha 0 (by kernel_rfl)).trans e0) ((ha 1 (by kernel_rfl)).trans e1) ((ha 2 (by kernel_rfl)).trans e2) ((ha 3 (by kernel_rfl)).trans e3) ((ha 8 (by kernel_rfl)).trans e8) ((ha 9 (by kernel_rfl)).trans e9) e10' ((ha 17 (by kernel_rfl)).trans e17) hF) h)
theorem F67_4_ok (R : Rt) (J1 : (Unit) -> World -> Prop) (p0 : Option Addr) (n1 : Int) (s2 : ByteArray) (n3 : Int) (p8 p9 : Option Addr) (n10 : Int) (p17 : Option Addr) (ds : Ds) (w : World) (E : Env) (e0 : E 0 = .pointer p0) (e1 : E 1 = .int .i64 n1) (e2 : E 2 = .string s2) (e3 : E 3 = .int .i64 n3) (e8 : E 8 = .pointer p8) (e9 : E 9 = .pointer p9) (e10 : E 10 = .int .i64 n10) (e17 : E 17 = .pointer p17) (h : F67_4 R J1 p0 n1 s2 n3 p8 p9 n10 p17 ds w) :
    TrL prog f67.ntmps [c67_1_0_2_4, c67_1_0_2_5, c67_1_0_2_6, c67_1_0_2_7] (F67_q4 R J1) E ds w :=
  TrL_head (K := (F67_k5 R J1)) (Tr_block' (c := innerC c67_1_0_2_4) (by kernel_rfl) c67_1_0_2_4_l (F67_3_ok R J1 p0 n1 s2 n3 p8 p9 n10 p17 ds w E e0 e1 e2 e3 e8 e9 e10 e17 h))
    (fun E' ds' w' hD => by
      obtain ⟨p0, e0, hD⟩ := dPtr_elim hD; obtain ⟨n1, e1, hD⟩ := dInt_elim hD; obtain ⟨s2, e2, hD⟩ := dStr_elim hD; obtain ⟨n3, e3, hD⟩ := dInt_elim hD; obtain ⟨p8, e8, hD⟩ := dPtr_elim hD; obtain ⟨p9, e9, hD⟩ := dPtr_elim hD; obtain ⟨p17, e17, hD⟩ := dPtr_elim hD; exact F67_1_ok R J1 p0 n1 s2 n3 p8 p9 p17 ds' w' E' e0 e1 e2 e3 e8 e9 e17 hD)
theorem F67_5_ok (R : Rt) (J1 : (Unit) -> World -> Prop) (p0 : Option Addr) (n1 : Int) (s2 : ByteArray) (n3 : Int) (p17 : Option Addr) (ds : Ds) (w : World) (E : Env) (e0 : E 0 = .pointer p0) (e1 : E 1 = .int .i64 n1) (e2 : E 2 = .string s2) (e3 : E 3 = .int .i64 n3) (e17 : E 17 = .pointer p17) (h : F67_5 R J1 p0 n1 s2 n3 p17 ds w) :
    TrL prog f67.ntmps [c67_1_0_2_0, c67_1_0_2_1, c67_1_0_2_2, c67_1_0_2_3, c67_1_0_2_4, c67_1_0_2_5, c67_1_0_2_6, c67_1_0_2_7] (F67_q4 R J1) E ds w :=
  TrL_piece (pre := [c67_1_0_2_0, c67_1_0_2_1, c67_1_0_2_2, c67_1_0_2_3]) (K := (F67_k9 R J1)) (X := F67_5 R J1 p0 n1 s2 n3 p17 ds w) (setAll_cons e0 (setAll_cons e1 (setAll_cons e2 (setAll_cons e3 (setAll_cons e17 setAll_nil))))) (by kernel_rfl) (by kernel_rfl)
    (fun E' ds' w' hD => by
      obtain ⟨p0, e0, hD⟩ := dPtr_elim hD; obtain ⟨n1, e1, hD⟩ := dInt_elim hD; obtain ⟨s2, e2, hD⟩ := dStr_elim hD; obtain ⟨n3, e3, hD⟩ := dInt_elim hD; obtain ⟨p8, e8, hD⟩ := dPtr_elim hD; obtain ⟨p9, e9, hD⟩ := dPtr_elim hD; obtain ⟨n10, e10, hD⟩ := dInt_elim hD; obtain ⟨p17, e17, hD⟩ := dPtr_elim hD; exact F67_4_ok R J1 p0 n1 s2 n3 p8 p9 n10 p17 ds' w' E' e0 e1 e2 e3 e8 e9 e10 e17 hD) h
theorem F67_6_ok (R : Rt) (J1 : (Unit) -> World -> Prop) (p0 : Option Addr) (n1 : Int) (s2 : ByteArray) (n3 : Int) (p17 : Option Addr) (ds : Ds) (w : World) (E : Env) (e0 : E 0 = .pointer p0) (e1 : E 1 = .int .i64 n1) (e2 : E 2 = .string s2) (e3 : E 3 = .int .i64 n3) (e17 : E 17 = .pointer p17) (h : F67_6 R J1 p0 n1 s2 n3 p17 ds w) :
    TrL prog f67.ntmps [c67_1_0_2] (F67_q3 R J1) E ds w :=
  TrL_one (Tr_block' (c := innerC c67_1_0_2) (by kernel_rfl) c67_1_0_2_l (F67_5_ok R J1 p0 n1 s2 n3 p17 ds w E e0 e1 e2 e3 e17 h))
theorem F67_7_ok (R : Rt) (J1 : (Unit) -> World -> Prop) (p0 : Option Addr) (n1 : Int) (s2 : ByteArray) (n3 : Int) (p17 : Option Addr) (ds : Ds) (w : World) (E : Env) (e0 : E 0 = .pointer p0) (e1 : E 1 = .int .i64 n1) (e2 : E 2 = .string s2) (e3 : E 3 = .int .i64 n3) (e17 : E 17 = .pointer p17) (h : F67_7 R J1 p0 n1 s2 n3 p17 ds w) :
    TrL prog f67.ntmps [c67_1_0_0, c67_1_0_1, c67_1_0_2] (F67_q3 R J1) E ds w :=
  TrL_piece (pre := [c67_1_0_0, c67_1_0_1]) (K := (F67_k10 R J1)) (X := F67_7 R J1 p0 n1 s2 n3 p17 ds w) (setAll_cons e0 (setAll_cons e1 (setAll_cons e2 (setAll_cons e3 (setAll_cons e17 setAll_nil))))) (by kernel_rfl) (by kernel_rfl)
    (fun E' ds' w' hD => by
      obtain ⟨p0, e0, hD⟩ := dPtr_elim hD; obtain ⟨n1, e1, hD⟩ := dInt_elim hD; obtain ⟨s2, e2, hD⟩ := dStr_elim hD; obtain ⟨n3, e3, hD⟩ := dInt_elim hD; obtain ⟨p17, e17, hD⟩ := dPtr_elim hD; exact F67_6_ok R J1 p0 n1 s2 n3 p17 ds' w' E' e0 e1 e2 e3 e17 hD) h
theorem F67_8_ok (R : Rt) (p0 : Option Addr) (n1 : Int) (s2 : ByteArray) (n3 : Int) (p17 : Option Addr) (ds : Ds) (w : World) (E : Env) (e0 : E 0 = .pointer p0) (e1 : E 1 = .int .i64 n1) (e2 : E 2 = .string s2) (e3 : E 3 = .int .i64 n3) (e17 : E 17 = .pointer p17) (h : F67_8 R p0 n1 s2 n3 p17 ds w) :
    TrL prog f67.ntmps [c67_1_0] (F67_q2 R) E ds w :=
  TrL_one (Tr_loop' (c := innerC c67_1_0) (σ := Unit) (enc := (fun (_ : Unit) (_ : Env) => True)) (D := (fun E K => K ())) (F := (fun (J1 : (Unit) -> World -> Prop) (_ : Unit) (w : World) => F67_7 R J1 p0 n1 s2 n3 p17 ds w)) (s0 := ()) (by kernel_rfl) c67_1_0_l trivial (by kernel_rfl) (fun E K hD => by exact ⟨(), trivial, hD⟩)
      (fun J1 _ E' w' he ha hF => by
      skip
      exact F67_7_ok R J1 p0 n1 s2 n3 p17 ds w' E' ((ha 0 (by kernel_rfl)).trans e0) ((ha 1 (by kernel_rfl)).trans e1) ((ha 2 (by kernel_rfl)).trans e2) ((ha 3 (by kernel_rfl)).trans e3) ((ha 17 (by kernel_rfl)).trans e17) hF) h)
theorem F67_9_ok (R : Rt) (p0 : Option Addr) (n1 : Int) (s2 : ByteArray) (n3 : Int) (p17 : Option Addr) (ds : Ds) (w : World) (E : Env) (e0 : E 0 = .pointer p0) (e1 : E 1 = .int .i64 n1) (e2 : E 2 = .string s2) (e3 : E 3 = .int .i64 n3) (e17 : E 17 = .pointer p17) (h : F67_9 R p0 n1 s2 n3 p17 ds w) :
    TrL prog f67.ntmps [c67_1] (F67_q1 R) E ds w :=
  TrL_one (Tr_block' (c := innerC c67_1) (by kernel_rfl) c67_1_l (F67_8_ok R p0 n1 s2 n3 p17 ds w E e0 e1 e2 e3 e17 h))
theorem F67_10_ok (R : Rt) (p0 : Option Addr) (n1 : Int) (s2 : ByteArray) (n3 : Int) (ds : Ds) (w : World) (E : Env) (e0 : E 0 = .pointer p0) (e1 : E 1 = .int .i64 n1) (e2 : E 2 = .string s2) (e3 : E 3 = .int .i64 n3) (h : F67_10 R p0 n1 s2 n3 ds w) :
    TrL prog f67.ntmps [c67_0, c67_1] (F67_q1 R) E ds w :=
  TrL_piece (pre := [c67_0]) (K := (F67_k11 R)) (X := F67_10 R p0 n1 s2 n3 ds w) (setAll_cons e0 (setAll_cons e1 (setAll_cons e2 (setAll_cons e3 setAll_nil)))) (by kernel_rfl) (by kernel_rfl)
    (fun E' ds' w' hD => by
      obtain ⟨p0, e0, hD⟩ := dPtr_elim hD; obtain ⟨n1, e1, hD⟩ := dInt_elim hD; obtain ⟨s2, e2, hD⟩ := dStr_elim hD; obtain ⟨n3, e3, hD⟩ := dInt_elim hD; obtain ⟨p17, e17, hD⟩ := dPtr_elim hD; exact F67_9_ok R p0 n1 s2 n3 p17 ds' w' E' e0 e1 e2 e3 e17 hD) h
theorem F67_calls (p0 : Option Addr) (n1 : Int) (s2 : ByteArray) (n3 : Int) (w : World) (R : Rt) (h : F67_10 R p0 n1 s2 n3 [] w) : Calls prog 67 #[.pointer p0, .int .i64 n1, .string s2, .int .i64 n3] w R :=
  calls_of_L (l := [c67_0, c67_1]) func67 (by kernel_rfl) (by rw [ntmps67]; exact Nat.le_of_ble_eq_true (by kernel_rfl)) c67_l
    (F67_10_ok R p0 n1 s2 n3 [] w _ rfl rfl rfl rfl h)
noncomputable def c44_0 := cI0 f44 0
noncomputable def c44_1 := cI0 f44 1
noncomputable def c44_1_0 := cJ0 c44_1 0
noncomputable def c44_1_0_0 := cJ0 c44_1_0 0
noncomputable def c44_1_0_1 := cJ0 c44_1_0 1
noncomputable def c44_1_0_2 := cJ0 c44_1_0 2
noncomputable def c44_1_0_2_0 := cJ0 c44_1_0_2 0
noncomputable def c44_1_0_2_1 := cJ0 c44_1_0_2 1
noncomputable def c44_1_0_2_2 := cJ0 c44_1_0_2 2
noncomputable def c44_1_0_2_3 := cJ0 c44_1_0_2 3
noncomputable def c44_1_0_2_4 := cJ0 c44_1_0_2 4
noncomputable def c44_1_0_2_3_0 := cJ0 c44_1_0_2_3 0
noncomputable def c44_1_0_2_3_0_0 := cJ0 c44_1_0_2_3_0 0
noncomputable def c44_1_0_2_3_0_1 := cJ0 c44_1_0_2_3_0 1
noncomputable def c44_1_0_2_3_0_2 := cJ0 c44_1_0_2_3_0 2
noncomputable def c44_1_0_2_3_0_3 := cJ0 c44_1_0_2_3_0 3
def F44_q1 (R : Rt) : EQ := endQ prog f44.results.toList R
def F44_q2 (R : Rt) : EQ := (blockQ 0 (F44_q1 R))
def F44_q3 (R : Rt) (J1 : (Int) -> World -> Prop) : EQ := (thenQ (fun E _ w => dInt .i64 (E 12) fun n12 => J1 n12 w) (F44_q2 R))
def F44_q4 (R : Rt) (J1 : (Int) -> World -> Prop) : EQ := (blockQ 1 (F44_q3 R J1))
def F44_1 (R : Rt) (J1 : (Int) -> World -> Prop) (p0 : Option Addr) (n1 : Int) (s2 : ByteArray) (n3 n4 : Int) (v5 : Value) (n12 : Int) (p13 p14 : Option Addr) (ds : Ds) (w : World) : Prop :=
 dwE w fun w1 =>
 ptrE p0 fun a2 =>
 0 <= n1 /\ n1 < (4 : Int) /\
 ∃ m55 : Option Nat, w1.cell? ((a2.add 3).add (n1.toNat * 1)) = some (.map m55) /\
 ptrE p13 fun a3 =>
 ∃ s56_0 : ByteArray, w1.cell? (a3.add 0) = some (.string s56_0) /\
 ∃ n56_1 : Int, w1.cell? (a3.add 1) = some (.int .i64 n56_1) /\
 ptrE p14 fun a4 =>
 ∃ c57 : Array Value, c57.size = 96 /\ (∀ i, i < 96 -> w1.cell? (a4.add i) = c57[i]?) /\
 doE prog (Instr.mapUpdate 63 (.map m55) (.agg #[.string s56_0, .int .i64 n56_1]) (.agg c57)) w1 fun w5 =>
 J1 n12 w5
def F44_k5 (R : Rt) (J1 : (Int) -> World -> Prop) : EP := (fun E ds w => dPtr (E 0) fun p0 => dInt .i64 (E 1) fun n1 => dStr (E 2) fun s2 => dInt .i64 (E 3) fun n3 => dInt .i64 (E 4) fun n4 => dInt .i64 (E 12) fun n12 => dPtr (E 13) fun p13 => dPtr (E 14) fun p14 => F44_1 R J1 p0 n1 s2 n3 n4 (E 5) n12 p13 p14 ds w)
def F44_q6 (R : Rt) (J1 : (Int) -> World -> Prop) : EQ := (thenQ (F44_k5 R J1) (F44_q4 R J1))
def F44_q7 (R : Rt) (J1 : (Int) -> World -> Prop) : EQ := (blockQ 2 (F44_q6 R J1))
def F44_q8 (R : Rt) (J1 : (Int) -> World -> Prop) (J2 : (Int × Int) -> World -> Prop) : EQ := (thenQ (fun E _ w => dInt .i64 (E 12) fun n12 => dInt .i64 (E 15) fun n15 => J2 (n12, n15) w) (F44_q7 R J1))
def F44_2 (R : Rt) (J1 : (Int) -> World -> Prop) (J2 : (Int × Int) -> World -> Prop) (p0 : Option Addr) (n1 : Int) (s2 : ByteArray) (n3 n4 : Int) (v5 : Value) (n12 : Int) (p13 p14 : Option Addr) (n15 : Int) (ds : Ds) (w : World) : Prop :=
 Br (decide (n15 < 32)) (
 Br (decide (n12 < n4)) (
 fnE v5 fun f47 first47 cap47 =>
 hasBody prog f47 = true /\ Calls prog f47 (first47.toList ++ (([.pointer p14, .int .i64 n15, .int .i64 n12] : List Value) ++ cap47.toList)).toArray w fun e w6 =>
 e = .returned (.tuple #[]) /\
 J2 ((IntKind.i64.wrap (n12 + 1)), (IntKind.i64.wrap (n15 + 1))) w6) (
 F44_1 R J1 p0 n1 s2 n3 n4 (v5) n12 p13 p14 ds w)) (
 F44_1 R J1 p0 n1 s2 n3 n4 (v5) n12 p13 p14 ds w)
def F44_3 (R : Rt) (J1 : (Int) -> World -> Prop) (p0 : Option Addr) (n1 : Int) (s2 : ByteArray) (n3 n4 : Int) (v5 : Value) (n12 : Int) (p13 p14 : Option Addr) (n15 : Int) (ds : Ds) (w : World) : Prop :=
 loopT (fun (J2 : (Int × Int) -> World -> Prop) (s : Int × Int) (w : World) => F44_2 R J1 J2 p0 n1 s2 n3 n4 v5 s.1 p13 p14 s.2 ds w) (n12, n15) w
abbrev F44_4 (R : Rt) (J1 : (Int) -> World -> Prop) (p0 : Option Addr) (n1 : Int) (s2 : ByteArray) (n3 n4 : Int) (v5 : Value) (n12 : Int) (p13 p14 : Option Addr) (n15 : Int) (ds : Ds) (w : World) : Prop := F44_3 R J1 p0 n1 s2 n3 n4 v5 n12 p13 p14 n15 ds w
def F44_k9 (R : Rt) (J1 : (Int) -> World -> Prop) : EP := (fun E ds w => dPtr (E 0) fun p0 => dInt .i64 (E 1) fun n1 => dStr (E 2) fun s2 => dInt .i64 (E 3) fun n3 => dInt .i64 (E 4) fun n4 => dInt .i64 (E 12) fun n12 => dPtr (E 13) fun p13 => dPtr (E 14) fun p14 => dInt .i64 (E 15) fun n15 => F44_4 R J1 p0 n1 s2 n3 n4 (E 5) n12 p13 p14 n15 ds w)
def F44_5 (R : Rt) (J1 : (Int) -> World -> Prop) (p0 : Option Addr) (n1 : Int) (s2 : ByteArray) (n3 n4 : Int) (v5 : Value) (n12 : Int) (ds : Ds) (w : World) : Prop :=
 IntKind.i64 = IntKind.i64 /\ (32 : Int) ≠ 0 /\
 alE (.cells #[.string (⟨#[]⟩ : ByteArray), .int .i64 0] 92) w fun r13 w7 =>
 stA prog 92 (⟨r13, 0, none⟩ : Addr) #[.string s2, .int .i64 (IntKind.i64.wrap ((IntKind.i64.wrap (n3 + n12)).tdiv 32))] w7 fun w8 =>
 ∃ s27_0 : ByteArray, w8.cell? ((⟨r13, 0, none⟩ : Addr).add 0) = some (.string s27_0) /\
 ∃ n27_1 : Int, w8.cell? ((⟨r13, 0, none⟩ : Addr).add 1) = some (.int .i64 n27_1) /\
 Calls prog 95 #[.pointer p0, .int .i64 n1, .agg #[.string s27_0, .int .i64 n27_1], .int .i64 n3, .int .i64 n4] w8 fun e w9 =>
 ∃ c30 : Array Value, c30.size = 96 /\ e = .returned (.agg c30) /\
 alE (.cells (zc prog 89) 89) w9 fun r14 w10 =>
 stA prog 89 (⟨r14, 0, none⟩ : Addr) c30 w10 fun w11 =>
 IntKind.i64 = IntKind.i64 /\ (32 : Int) ≠ 0 /\
 F44_4 R J1 p0 n1 s2 n3 n4 (v5) n12 (some (⟨r13, 0, none⟩ : Addr)) (some (⟨r14, 0, none⟩ : Addr)) ((IntKind.i64.wrap (n3 + n12)).tmod 32) ds w11
abbrev F44_6 (R : Rt) (J1 : (Int) -> World -> Prop) (p0 : Option Addr) (n1 : Int) (s2 : ByteArray) (n3 n4 : Int) (v5 : Value) (n12 : Int) (ds : Ds) (w : World) : Prop := F44_5 R J1 p0 n1 s2 n3 n4 v5 n12 ds w
def F44_k10 (R : Rt) (J1 : (Int) -> World -> Prop) : EP := (fun E ds w => dPtr (E 0) fun p0 => dInt .i64 (E 1) fun n1 => dStr (E 2) fun s2 => dInt .i64 (E 3) fun n3 => dInt .i64 (E 4) fun n4 => dInt .i64 (E 12) fun n12 => F44_6 R J1 p0 n1 s2 n3 n4 (E 5) n12 ds w)
def F44_7 (R : Rt) (J1 : (Int) -> World -> Prop) (p0 : Option Addr) (n1 : Int) (s2 : ByteArray) (n3 n4 : Int) (v5 : Value) (n12 : Int) (ds : Ds) (w : World) : Prop :=
 Br (decide (n12 < n4)) (
 F44_6 R J1 p0 n1 s2 n3 n4 (v5) n12 ds w) (
 runD prog ds w fun w12 =>
 R (.returned (.tuple #[])) w12)
def F44_8 (R : Rt) (p0 : Option Addr) (n1 : Int) (s2 : ByteArray) (n3 n4 : Int) (v5 : Value) (n12 : Int) (ds : Ds) (w : World) : Prop :=
 loopT (fun (J1 : (Int) -> World -> Prop) (s : Int) (w : World) => F44_7 R J1 p0 n1 s2 n3 n4 v5 s ds w) n12 w
abbrev F44_9 (R : Rt) (p0 : Option Addr) (n1 : Int) (s2 : ByteArray) (n3 n4 : Int) (v5 : Value) (n12 : Int) (ds : Ds) (w : World) : Prop := F44_8 R p0 n1 s2 n3 n4 v5 n12 ds w
def F44_k11 (R : Rt) : EP := (fun E ds w => dPtr (E 0) fun p0 => dInt .i64 (E 1) fun n1 => dStr (E 2) fun s2 => dInt .i64 (E 3) fun n3 => dInt .i64 (E 4) fun n4 => dInt .i64 (E 12) fun n12 => F44_9 R p0 n1 s2 n3 n4 (E 5) n12 ds w)
def F44_10 (R : Rt) (p0 : Option Addr) (n1 : Int) (s2 : ByteArray) (n3 n4 : Int) (v5 : Value) (ds : Ds) (w : World) : Prop :=
 F44_9 R p0 n1 s2 n3 n4 (v5) 0 ds w
theorem c44_l : flat (bodyOf f44) = [c44_0, c44_1] := by kernel_rfl
theorem c44_1_l : flat (innerC c44_1) = [c44_1_0] := by kernel_rfl
theorem c44_1_0_l : flat (innerC c44_1_0) = [c44_1_0_0, c44_1_0_1, c44_1_0_2] := by kernel_rfl
theorem c44_1_0_2_l : flat (innerC c44_1_0_2) = [c44_1_0_2_0, c44_1_0_2_1, c44_1_0_2_2, c44_1_0_2_3, c44_1_0_2_4] := by kernel_rfl
theorem c44_1_0_2_3_l : flat (innerC c44_1_0_2_3) = [c44_1_0_2_3_0] := by kernel_rfl
theorem c44_1_0_2_3_0_l : flat (innerC c44_1_0_2_3_0) = [c44_1_0_2_3_0_0, c44_1_0_2_3_0_1, c44_1_0_2_3_0_2, c44_1_0_2_3_0_3] := by kernel_rfl
theorem F44_1_ok (R : Rt) (J1 : (Int) -> World -> Prop) (p0 : Option Addr) (n1 : Int) (s2 : ByteArray) (n3 n4 : Int) (v5 : Value) (n12 : Int) (p13 p14 : Option Addr) (ds : Ds) (w : World) (E : Env) (e0 : E 0 = .pointer p0) (e1 : E 1 = .int .i64 n1) (e2 : E 2 = .string s2) (e3 : E 3 = .int .i64 n3) (e4 : E 4 = .int .i64 n4) (e5 : E 5 = v5) (e12 : E 12 = .int .i64 n12) (e13 : E 13 = .pointer p13) (e14 : E 14 = .pointer p14) (h : F44_1 R J1 p0 n1 s2 n3 n4 v5 n12 p13 p14 ds w) :
    TrL prog f44.ntmps [c44_1_0_2_4] (F44_q4 R J1) E ds w :=
  TrL_leaf (X := F44_1 R J1 p0 n1 s2 n3 n4 v5 n12 p13 p14 ds w) (setAll_cons e0 (setAll_cons e1 (setAll_cons e2 (setAll_cons e3 (setAll_cons e4 (setAll_cons e5 (setAll_cons e12 (setAll_cons e13 (setAll_cons e14 setAll_nil))))))))) (by kernel_rfl) (by kernel_rfl) h
theorem F44_2_ok (R : Rt) (J1 : (Int) -> World -> Prop) (J2 : (Int × Int) -> World -> Prop) (p0 : Option Addr) (n1 : Int) (s2 : ByteArray) (n3 n4 : Int) (v5 : Value) (n12 : Int) (p13 p14 : Option Addr) (n15 : Int) (ds : Ds) (w : World) (E : Env) (e0 : E 0 = .pointer p0) (e1 : E 1 = .int .i64 n1) (e2 : E 2 = .string s2) (e3 : E 3 = .int .i64 n3) (e4 : E 4 = .int .i64 n4) (e5 : E 5 = v5) (e12 : E 12 = .int .i64 n12) (e13 : E 13 = .pointer p13) (e14 : E 14 = .pointer p14) (e15 : E 15 = .int .i64 n15) (h : F44_2 R J1 J2 p0 n1 s2 n3 n4 v5 n12 p13 p14 n15 ds w) :
    TrL prog f44.ntmps [c44_1_0_2_3_0_0, c44_1_0_2_3_0_1, c44_1_0_2_3_0_2, c44_1_0_2_3_0_3] (F44_q8 R J1 J2) E ds w :=
  TrL_leaf (X := F44_2 R J1 J2 p0 n1 s2 n3 n4 v5 n12 p13 p14 n15 ds w) (setAll_cons e0 (setAll_cons e1 (setAll_cons e2 (setAll_cons e3 (setAll_cons e4 (setAll_cons e5 (setAll_cons e12 (setAll_cons e13 (setAll_cons e14 (setAll_cons e15 setAll_nil)))))))))) (by kernel_rfl) (by kernel_rfl) h
theorem F44_3_ok (R : Rt) (J1 : (Int) -> World -> Prop) (p0 : Option Addr) (n1 : Int) (s2 : ByteArray) (n3 n4 : Int) (v5 : Value) (n12 : Int) (p13 p14 : Option Addr) (n15 : Int) (ds : Ds) (w : World) (E : Env) (e0 : E 0 = .pointer p0) (e1 : E 1 = .int .i64 n1) (e2 : E 2 = .string s2) (e3 : E 3 = .int .i64 n3) (e4 : E 4 = .int .i64 n4) (e5 : E 5 = v5) (e12 : E 12 = .int .i64 n12) (e13 : E 13 = .pointer p13) (e14 : E 14 = .pointer p14) (e15 : E 15 = .int .i64 n15) (h : F44_3 R J1 p0 n1 s2 n3 n4 v5 n12 p13 p14 n15 ds w) :
    TrL prog f44.ntmps [c44_1_0_2_3_0] (F44_q7 R J1) E ds w :=
  TrL_one (Tr_loop' (c := innerC c44_1_0_2_3_0) (σ := Int × Int) (enc := (fun (s : Int × Int) (E : Env) => E 12 = .int .i64 s.1 /\ E 15 = .int .i64 s.2)) (D := (fun E K => dInt .i64 (E 12) fun n12 => dInt .i64 (E 15) fun n15 => K (n12, n15))) (F := (fun (J2 : (Int × Int) -> World -> Prop) (s : Int × Int) (w : World) => F44_2 R J1 J2 p0 n1 s2 n3 n4 v5 s.1 p13 p14 s.2 ds w)) (s0 := (n12, n15)) (by kernel_rfl) c44_1_0_2_3_0_l ⟨e12, e15⟩ (by kernel_rfl) (fun E K hD => by obtain ⟨n12, e12, hD⟩ := dInt_elim hD; obtain ⟨n15, e15, hD⟩ := dInt_elim hD; exact ⟨(n12, n15), ⟨e12, e15⟩, hD⟩)
      (fun J2 s E' w' he ha hF => by
      obtain ⟨e12', e15'⟩ := he
      exact F44_2_ok R J1 J2 p0 n1 s2 n3 n4 v5 s.1 p13 p14 s.2 ds w' E' ((ha 0 (by kernel_rfl)).trans e0) ((ha 1 (by kernel_rfl)).trans e1) ((ha 2 (by kernel_rfl)).trans e2) ((ha 3 (by kernel_rfl)).trans e3) ((ha 4 (by kernel_rfl)).trans e4) ((ha 5 (by kernel_rfl)).trans e5) e12' ((ha 13 (by kernel_rfl)).trans e13) ((ha 14 (by kernel_rfl)).trans e14) e15' hF) h)
theorem F44_4_ok (R : Rt) (J1 : (Int) -> World -> Prop) (p0 : Option Addr) (n1 : Int) (s2 : ByteArray) (n3 n4 : Int) (v5 : Value) (n12 : Int) (p13 p14 : Option Addr) (n15 : Int) (ds : Ds) (w : World) (E : Env) (e0 : E 0 = .pointer p0) (e1 : E 1 = .int .i64 n1) (e2 : E 2 = .string s2) (e3 : E 3 = .int .i64 n3) (e4 : E 4 = .int .i64 n4) (e5 : E 5 = v5) (e12 : E 12 = .int .i64 n12) (e13 : E 13 = .pointer p13) (e14 : E 14 = .pointer p14) (e15 : E 15 = .int .i64 n15) (h : F44_4 R J1 p0 n1 s2 n3 n4 v5 n12 p13 p14 n15 ds w) :
    TrL prog f44.ntmps [c44_1_0_2_3, c44_1_0_2_4] (F44_q4 R J1) E ds w :=
  TrL_head (K := (F44_k5 R J1)) (Tr_block' (c := innerC c44_1_0_2_3) (by kernel_rfl) c44_1_0_2_3_l (F44_3_ok R J1 p0 n1 s2 n3 n4 v5 n12 p13 p14 n15 ds w E e0 e1 e2 e3 e4 e5 e12 e13 e14 e15 h))
    (fun E' ds' w' hD => by
      obtain ⟨p0, e0, hD⟩ := dPtr_elim hD; obtain ⟨n1, e1, hD⟩ := dInt_elim hD; obtain ⟨s2, e2, hD⟩ := dStr_elim hD; obtain ⟨n3, e3, hD⟩ := dInt_elim hD; obtain ⟨n4, e4, hD⟩ := dInt_elim hD; obtain ⟨n12, e12, hD⟩ := dInt_elim hD; obtain ⟨p13, e13, hD⟩ := dPtr_elim hD; obtain ⟨p14, e14, hD⟩ := dPtr_elim hD; exact F44_1_ok R J1 p0 n1 s2 n3 n4 (E' 5) n12 p13 p14 ds' w' E' e0 e1 e2 e3 e4 rfl e12 e13 e14 hD)
theorem F44_5_ok (R : Rt) (J1 : (Int) -> World -> Prop) (p0 : Option Addr) (n1 : Int) (s2 : ByteArray) (n3 n4 : Int) (v5 : Value) (n12 : Int) (ds : Ds) (w : World) (E : Env) (e0 : E 0 = .pointer p0) (e1 : E 1 = .int .i64 n1) (e2 : E 2 = .string s2) (e3 : E 3 = .int .i64 n3) (e4 : E 4 = .int .i64 n4) (e5 : E 5 = v5) (e12 : E 12 = .int .i64 n12) (h : F44_5 R J1 p0 n1 s2 n3 n4 v5 n12 ds w) :
    TrL prog f44.ntmps [c44_1_0_2_0, c44_1_0_2_1, c44_1_0_2_2, c44_1_0_2_3, c44_1_0_2_4] (F44_q4 R J1) E ds w :=
  TrL_piece (pre := [c44_1_0_2_0, c44_1_0_2_1, c44_1_0_2_2]) (K := (F44_k9 R J1)) (X := F44_5 R J1 p0 n1 s2 n3 n4 v5 n12 ds w) (setAll_cons e0 (setAll_cons e1 (setAll_cons e2 (setAll_cons e3 (setAll_cons e4 (setAll_cons e5 (setAll_cons e12 setAll_nil))))))) (by kernel_rfl) (by kernel_rfl)
    (fun E' ds' w' hD => by
      obtain ⟨p0, e0, hD⟩ := dPtr_elim hD; obtain ⟨n1, e1, hD⟩ := dInt_elim hD; obtain ⟨s2, e2, hD⟩ := dStr_elim hD; obtain ⟨n3, e3, hD⟩ := dInt_elim hD; obtain ⟨n4, e4, hD⟩ := dInt_elim hD; obtain ⟨n12, e12, hD⟩ := dInt_elim hD; obtain ⟨p13, e13, hD⟩ := dPtr_elim hD; obtain ⟨p14, e14, hD⟩ := dPtr_elim hD; obtain ⟨n15, e15, hD⟩ := dInt_elim hD; exact F44_4_ok R J1 p0 n1 s2 n3 n4 (E' 5) n12 p13 p14 n15 ds' w' E' e0 e1 e2 e3 e4 rfl e12 e13 e14 e15 hD) h
theorem F44_6_ok (R : Rt) (J1 : (Int) -> World -> Prop) (p0 : Option Addr) (n1 : Int) (s2 : ByteArray) (n3 n4 : Int) (v5 : Value) (n12 : Int) (ds : Ds) (w : World) (E : Env) (e0 : E 0 = .pointer p0) (e1 : E 1 = .int .i64 n1) (e2 : E 2 = .string s2) (e3 : E 3 = .int .i64 n3) (e4 : E 4 = .int .i64 n4) (e5 : E 5 = v5) (e12 : E 12 = .int .i64 n12) (h : F44_6 R J1 p0 n1 s2 n3 n4 v5 n12 ds w) :
    TrL prog f44.ntmps [c44_1_0_2] (F44_q3 R J1) E ds w :=
  TrL_one (Tr_block' (c := innerC c44_1_0_2) (by kernel_rfl) c44_1_0_2_l (F44_5_ok R J1 p0 n1 s2 n3 n4 v5 n12 ds w E e0 e1 e2 e3 e4 e5 e12 h))
theorem F44_7_ok (R : Rt) (J1 : (Int) -> World -> Prop) (p0 : Option Addr) (n1 : Int) (s2 : ByteArray) (n3 n4 : Int) (v5 : Value) (n12 : Int) (ds : Ds) (w : World) (E : Env) (e0 : E 0 = .pointer p0) (e1 : E 1 = .int .i64 n1) (e2 : E 2 = .string s2) (e3 : E 3 = .int .i64 n3) (e4 : E 4 = .int .i64 n4) (e5 : E 5 = v5) (e12 : E 12 = .int .i64 n12) (h : F44_7 R J1 p0 n1 s2 n3 n4 v5 n12 ds w) :
    TrL prog f44.ntmps [c44_1_0_0, c44_1_0_1, c44_1_0_2] (F44_q3 R J1) E ds w :=
  TrL_piece (pre := [c44_1_0_0, c44_1_0_1]) (K := (F44_k10 R J1)) (X := F44_7 R J1 p0 n1 s2 n3 n4 v5 n12 ds w) (setAll_cons e0 (setAll_cons e1 (setAll_cons e2 (setAll_cons e3 (setAll_cons e4 (setAll_cons e5 (setAll_cons e12 setAll_nil))))))) (by kernel_rfl) (by kernel_rfl)
    (fun E' ds' w' hD => by
      obtain ⟨p0, e0, hD⟩ := dPtr_elim hD; obtain ⟨n1, e1, hD⟩ := dInt_elim hD; obtain ⟨s2, e2, hD⟩ := dStr_elim hD; obtain ⟨n3, e3, hD⟩ := dInt_elim hD; obtain ⟨n4, e4, hD⟩ := dInt_elim hD; obtain ⟨n12, e12, hD⟩ := dInt_elim hD; exact F44_6_ok R J1 p0 n1 s2 n3 n4 (E' 5) n12 ds' w' E' e0 e1 e2 e3 e4 rfl e12 hD) h
theorem F44_8_ok (R : Rt) (p0 : Option Addr) (n1 : Int) (s2 : ByteArray) (n3 n4 : Int) (v5 : Value) (n12 : Int) (ds : Ds) (w : World) (E : Env) (e0 : E 0 = .pointer p0) (e1 : E 1 = .int .i64 n1) (e2 : E 2 = .string s2) (e3 : E 3 = .int .i64 n3) (e4 : E 4 = .int .i64 n4) (e5 : E 5 = v5) (e12 : E 12 = .int .i64 n12) (h : F44_8 R p0 n1 s2 n3 n4 v5 n12 ds w) :
    TrL prog f44.ntmps [c44_1_0] (F44_q2 R) E ds w :=
  TrL_one (Tr_loop' (c := innerC c44_1_0) (σ := Int) (enc := (fun (s : Int) (E : Env) => E 12 = .int .i64 s)) (D := (fun E K => dInt .i64 (E 12) fun n12 => K n12)) (F := (fun (J1 : (Int) -> World -> Prop) (s : Int) (w : World) => F44_7 R J1 p0 n1 s2 n3 n4 v5 s ds w)) (s0 := n12) (by kernel_rfl) c44_1_0_l e12 (by kernel_rfl) (fun E K hD => by obtain ⟨n12, e12, hD⟩ := dInt_elim hD; exact ⟨n12, e12, hD⟩)
      (fun J1 s E' w' he ha hF => by
      have e12' := he
      exact F44_7_ok R J1 p0 n1 s2 n3 n4 v5 s ds w' E' ((ha 0 (by kernel_rfl)).trans e0) ((ha 1 (by kernel_rfl)).trans e1) ((ha 2 (by kernel_rfl)).trans e2) ((ha 3 (by kernel_rfl)).trans e3) ((ha 4 (by kernel_rfl)).trans e4) ((ha 5 (by kernel_rfl)).trans e5) e12' hF) h)
theorem F44_9_ok (R : Rt) (p0 : Option Addr) (n1 : Int) (s2 : ByteArray) (n3 n4 : Int) (v5 : Value) (n12 : Int) (ds : Ds) (w : World) (E : Env) (e0 : E 0 = .pointer p0) (e1 : E 1 = .int .i64 n1) (e2 : E 2 = .string s2) (e3 : E 3 = .int .i64 n3) (e4 : E 4 = .int .i64 n4) (e5 : E 5 = v5) (e12 : E 12 = .int .i64 n12) (h : F44_9 R p0 n1 s2 n3 n4 v5 n12 ds w) :
    TrL prog f44.ntmps [c44_1] (F44_q1 R) E ds w :=
  TrL_one (Tr_block' (c := innerC c44_1) (by kernel_rfl) c44_1_l (F44_8_ok R p0 n1 s2 n3 n4 v5 n12 ds w E e0 e1 e2 e3 e4 e5 e12 h))
theorem F44_10_ok (R : Rt) (p0 : Option Addr) (n1 : Int) (s2 : ByteArray) (n3 n4 : Int) (v5 : Value) (ds : Ds) (w : World) (E : Env) (e0 : E 0 = .pointer p0) (e1 : E 1 = .int .i64 n1) (e2 : E 2 = .string s2) (e3 : E 3 = .int .i64 n3) (e4 : E 4 = .int .i64 n4) (e5 : E 5 = v5) (h : F44_10 R p0 n1 s2 n3 n4 v5 ds w) :
    TrL prog f44.ntmps [c44_0, c44_1] (F44_q1 R) E ds w :=
  TrL_piece (pre := [c44_0]) (K := (F44_k11 R)) (X := F44_10 R p0 n1 s2 n3 n4 v5 ds w) (setAll_cons e0 (setAll_cons e1 (setAll_cons e2 (setAll_cons e3 (setAll_cons e4 (setAll_cons e5 setAll_nil)))))) (by kernel_rfl) (by kernel_rfl)
    (fun E' ds' w' hD => by
      obtain ⟨p0, e0, hD⟩ := dPtr_elim hD; obtain ⟨n1, e1, hD⟩ := dInt_elim hD; obtain ⟨s2, e2, hD⟩ := dStr_elim hD; obtain ⟨n3, e3, hD⟩ := dInt_elim hD; obtain ⟨n4, e4, hD⟩ := dInt_elim hD; obtain ⟨n12, e12, hD⟩ := dInt_elim hD; exact F44_9_ok R p0 n1 s2 n3 n4 (E' 5) n12 ds' w' E' e0 e1 e2 e3 e4 rfl e12 hD) h
theorem F44_calls (p0 : Option Addr) (n1 : Int) (s2 : ByteArray) (n3 n4 : Int) (v5 : Value) (w : World) (R : Rt) (h : F44_10 R p0 n1 s2 n3 n4 v5 [] w) : Calls prog 44 #[.pointer p0, .int .i64 n1, .string s2, .int .i64 n3, .int .i64 n4, v5] w R :=
  calls_of_L (l := [c44_0, c44_1]) func44 (by kernel_rfl) (by rw [ntmps44]; exact Nat.le_of_ble_eq_true (by kernel_rfl)) c44_l
    (F44_10_ok R p0 n1 s2 n3 n4 v5 [] w _ rfl rfl rfl rfl rfl rfl h)
noncomputable def c68_0 := cI0 f68 0
def F68_q1 (R : Rt) : EQ := endQ prog f68.results.toList R
def F68_1 (R : Rt) (p0 : Option Addr) (n1 n2 : Int) (v3 : Value) (ds : Ds) (w : World) : Prop :=
 dwE w fun w1 =>
 addrE v3 fun a2 =>
 ∃ l13 : SV, w1.cell? a2 = some (.slice l13.a l13.len l13.cap) /\
 ∃ a3 : Addr, l13.a = some a3 /\ 0 <= n2 /\ n2 < (l13.len : Int) /\
 ∃ n16 : Int, w1.cell? (a3.add (n2.toNat * 1)) = some (.int .u8 n16) /\
 ptrE p0 fun a4 =>
 0 <= n1 /\ n1 < (32 : Int) /\
 ptrE p0 fun a5 =>
 ptrE p0 fun a6 =>
 st1 (a4.add (n1.toNat * 1)) (.int .u8 n16) w1 fun w7 =>
 0 <= n1 /\ n1 < (32 : Int) /\
 st1 ((a5.add 32).add (n1.toNat * 1)) (.bool true) w7 fun w8 =>
 0 <= n1 /\ n1 < (32 : Int) /\
 st1 ((a6.add 64).add (n1.toNat * 1)) (.bool true) w8 fun w9 =>
 runD prog ds w9 fun w10 =>
 R (.returned (.tuple #[])) w10
theorem c68_l : flat (bodyOf f68) = [c68_0] := by kernel_rfl
theorem F68_1_ok (R : Rt) (p0 : Option Addr) (n1 n2 : Int) (v3 : Value) (ds : Ds) (w : World) (E : Env) (e0 : E 0 = .pointer p0) (e1 : E 1 = .int .i64 n1) (e2 : E 2 = .int .i64 n2) (e3 : E 3 = v3) (h : F68_1 R p0 n1 n2 v3 ds w) :
    TrL prog f68.ntmps [c68_0] (F68_q1 R) E ds w :=
  TrL_leaf (X := F68_1 R p0 n1 n2 v3 ds w) (setAll_cons e0 (setAll_cons e1 (setAll_cons e2 (setAll_cons e3 setAll_nil)))) (by kernel_rfl) (by kernel_rfl) h
theorem F68_calls (p0 : Option Addr) (n1 n2 : Int) (v3 : Value) (w : World) (R : Rt) (h : F68_1 R p0 n1 n2 v3 [] w) : Calls prog 68 #[.pointer p0, .int .i64 n1, .int .i64 n2, v3] w R :=
  calls_of_L (l := [c68_0]) func68 (by kernel_rfl) (by rw [ntmps68]; exact Nat.le_of_ble_eq_true (by kernel_rfl)) c68_l
    (F68_1_ok R p0 n1 n2 v3 [] w _ rfl rfl rfl rfl h)
noncomputable def c69_0 := cI0 f69 0
noncomputable def c69_1 := cI0 f69 1
noncomputable def c69_2 := cI0 f69 2
noncomputable def c69_3 := cI0 f69 3
noncomputable def c69_4 := cI0 f69 4
noncomputable def c69_5 := cI0 f69 5
noncomputable def c69_3_0 := cJ0 c69_3 0
noncomputable def c69_3_0_0 := cJ0 c69_3_0 0
noncomputable def c69_3_0_1 := cJ0 c69_3_0 1
noncomputable def c69_3_0_2 := cJ0 c69_3_0 2
def F69_q1 (R : Rt) : EQ := endQ prog f69.results.toList R
def F69_1 (R : Rt) (l11 : SV) (ds : Ds) (w : World) : Prop :=
 runD prog ds w fun w1 =>
 R (.returned (.slice l11.a l11.len l11.cap)) w1
def F69_k2 (R : Rt) : EP := (fun E ds w => dSl (E 11) fun l11 => F69_1 R l11 ds w)
def F69_q3 (R : Rt) : EQ := (thenQ (F69_k2 R) (F69_q1 R))
def F69_q4 (R : Rt) : EQ := (blockQ 0 (F69_q3 R))
def F69_q5 (R : Rt) (J1 : (SV) -> World -> Prop) : EQ := (thenQ (fun E _ w => dSl (E 11) fun l11 => J1 l11 w) (F69_q4 R))
def F69_2 (R : Rt) (J1 : (SV) -> World -> Prop) (s2 : ByteArray) (n3 n4 : Int) (l11 : SV) (p19 : Option Addr) (ds : Ds) (w : World) : Prop :=
 (∃ w2 : World, (Instr.next (.pointer p19) false 0).run prog w = .ok (.tuple #[.bool false]) w2 /\
 F69_1 R l11 ds w2) ∨ (∃ k20 v20 : Value, ∃ w3 : World, (Instr.next (.pointer p19) false 0).run prog w = .ok (.tuple #[.bool true, k20, v20]) w3 /\
 ∃ k22 v22 : Value, ∃ w4 : World, (Instr.entry (.pointer p19)).run prog w3 = .ok (.tuple #[k22, v22]) w4 /\
 dAgg k22 fun q23 =>
 dHd q23 fun x23_0 q23_0 =>
 dStr x23_0 fun s23_0 =>
 dHd q23_0 fun x23_1 q23_1 =>
 dInt .i64 x23_1 fun n23_1 =>
 dNil q23_1 (
 alE (.cells #[.string (⟨#[]⟩ : ByteArray), .int .i64 0] 92) w4 fun r12 w5 =>
 stA prog 92 (⟨r12, 0, none⟩ : Addr) #[.string s23_0, .int .i64 n23_1] w5 fun w6 =>
 ∃ s25 : ByteArray, w6.cell? (⟨r12, 0, none⟩ : Addr) = some (.string s25) /\
 Br (s25.toList == s2.toList) (
 ∃ n30 : Int, w6.cell? ((⟨r12, 0, none⟩ : Addr).add 1) = some (.int .i64 n30) /\
 Br (decide ((IntKind.i64.wrap (n30 * 32)) < (IntKind.i64.wrap (n3 + n4)))) (
 ∃ n40 : Int, w6.cell? ((⟨r12, 0, none⟩ : Addr).add 1) = some (.int .i64 n40) /\
 Br (decide (n3 < (IntKind.i64.wrap ((IntKind.i64.wrap (n40 + 1)) * 32)))) (
 ∃ s46_0 : ByteArray, w6.cell? ((⟨r12, 0, none⟩ : Addr).add 0) = some (.string s46_0) /\
 ∃ n46_1 : Int, w6.cell? ((⟨r12, 0, none⟩ : Addr).add 1) = some (.int .i64 n46_1) /\
 alE (.cells #[.string s46_0, .int .i64 n46_1] 92) w6 fun r47 w7 =>
 ∃ l48 : SV, ∃ w8 : World, (Builtin.append_ #[119, 119] 119 #[.slice l11.a l11.len l11.cap, .slice (some ⟨r47, 0, none⟩) 1 1]).run prog w7 = .ok (.slice l48.a l48.len l48.cap) w8 /\
 J1 l48 w8) (
 J1 l11 w6)) (
 J1 l11 w6)) (
 J1 l11 w6)))
def F69_3 (R : Rt) (s2 : ByteArray) (n3 n4 : Int) (l11 : SV) (p19 : Option Addr) (ds : Ds) (w : World) : Prop :=
 loopT (fun (J1 : (SV) -> World -> Prop) (s : SV) (w : World) => F69_2 R J1 s2 n3 n4 s p19 ds w) l11 w
abbrev F69_4 (R : Rt) (s2 : ByteArray) (n3 n4 : Int) (l11 : SV) (p19 : Option Addr) (ds : Ds) (w : World) : Prop := F69_3 R s2 n3 n4 l11 p19 ds w
def F69_k6 (R : Rt) : EP := (fun E ds w => dStr (E 2) fun s2 => dInt .i64 (E 3) fun n3 => dInt .i64 (E 4) fun n4 => dSl (E 11) fun l11 => dPtr (E 19) fun p19 => F69_4 R s2 n3 n4 l11 p19 ds w)
def F69_5 (R : Rt) (p0 : Option Addr) (n1 : Int) (s2 : ByteArray) (n3 n4 : Int) (ds : Ds) (w : World) : Prop :=
 ptrE p0 fun a9 =>
 0 <= n1 /\ n1 < (4 : Int) /\
 ∃ m18 : Option Nat, w.cell? ((a9.add 3).add (n1.toNat * 1)) = some (.map m18) /\
 ∃ p19 : Option Addr, ∃ w10 : World, (Instr.range 63 (.map m18)).run prog w = .ok (.pointer p19) w10 /\
 F69_4 R s2 n3 n4 ⟨none, 0, 0⟩ p19 ds w10
theorem c69_l : flat (bodyOf f69) = [c69_0, c69_1, c69_2, c69_3, c69_4, c69_5] := by kernel_rfl
theorem c69_3_l : flat (innerC c69_3) = [c69_3_0] := by kernel_rfl
theorem c69_3_0_l : flat (innerC c69_3_0) = [c69_3_0_0, c69_3_0_1, c69_3_0_2] := by kernel_rfl
theorem F69_1_ok (R : Rt) (l11 : SV) (ds : Ds) (w : World) (E : Env) (e11 : E 11 = .slice l11.a l11.len l11.cap) (h : F69_1 R l11 ds w) :
    TrL prog f69.ntmps [c69_4, c69_5] (F69_q1 R) E ds w :=
  TrL_leaf (X := F69_1 R l11 ds w) (setAll_cons e11 setAll_nil) (by kernel_rfl) (by kernel_rfl) h
theorem F69_2_ok (R : Rt) (J1 : (SV) -> World -> Prop) (s2 : ByteArray) (n3 n4 : Int) (l11 : SV) (p19 : Option Addr) (ds : Ds) (w : World) (E : Env) (e2 : E 2 = .string s2) (e3 : E 3 = .int .i64 n3) (e4 : E 4 = .int .i64 n4) (e11 : E 11 = .slice l11.a l11.len l11.cap) (e19 : E 19 = .pointer p19) (h : F69_2 R J1 s2 n3 n4 l11 p19 ds w) :
    TrL prog f69.ntmps [c69_3_0_0, c69_3_0_1, c69_3_0_2] (F69_q5 R J1) E ds w :=
  TrL_leaf (X := F69_2 R J1 s2 n3 n4 l11 p19 ds w) (setAll_cons e2 (setAll_cons e3 (setAll_cons e4 (setAll_cons e11 (setAll_cons e19 setAll_nil))))) (by kernel_rfl) (by kernel_rfl) h
theorem F69_3_ok (R : Rt) (s2 : ByteArray) (n3 n4 : Int) (l11 : SV) (p19 : Option Addr) (ds : Ds) (w : World) (E : Env) (e2 : E 2 = .string s2) (e3 : E 3 = .int .i64 n3) (e4 : E 4 = .int .i64 n4) (e11 : E 11 = .slice l11.a l11.len l11.cap) (e19 : E 19 = .pointer p19) (h : F69_3 R s2 n3 n4 l11 p19 ds w) :
    TrL prog f69.ntmps [c69_3_0] (F69_q4 R) E ds w :=
  TrL_one (Tr_loop' (c := innerC c69_3_0) (σ := SV) (enc := (fun (s : SV) (E : Env) => E 11 = .slice s.a s.len s.cap)) (D := (fun E K => dSl (E 11) fun l11 => K l11)) (F := (fun (J1 : (SV) -> World -> Prop) (s : SV) (w : World) => F69_2 R J1 s2 n3 n4 s p19 ds w)) (s0 := l11) (by kernel_rfl) c69_3_0_l e11 (by kernel_rfl) (fun E K hD => by obtain ⟨l11, e11, hD⟩ := dSl_elim hD; exact ⟨l11, e11, hD⟩)
      (fun J1 s E' w' he ha hF => by
      have e11' := he
      exact F69_2_ok R J1 s2 n3 n4 s p19 ds w' E' ((ha 2 (by kernel_rfl)).trans e2) ((ha 3 (by kernel_rfl)).trans e3) ((ha 4 (by kernel_rfl)).trans e4) e11' ((ha 19 (by kernel_rfl)).trans e19) hF) h)
theorem F69_4_ok (R : Rt) (s2 : ByteArray) (n3 n4 : Int) (l11 : SV) (p19 : Option Addr) (ds : Ds) (w : World) (E : Env) (e2 : E 2 = .string s2) (e3 : E 3 = .int .i64 n3) (e4 : E 4 = .int .i64 n4) (e11 : E 11 = .slice l11.a l11.len l11.cap) (e19 : E 19 = .pointer p19) (h : F69_4 R s2 n3 n4 l11 p19 ds w) :
    TrL prog f69.ntmps [c69_3, c69_4, c69_5] (F69_q1 R) E ds w :=
  TrL_head (K := (F69_k2 R)) (Tr_block' (c := innerC c69_3) (by kernel_rfl) c69_3_l (F69_3_ok R s2 n3 n4 l11 p19 ds w E e2 e3 e4 e11 e19 h))
    (fun E' ds' w' hD => by
      obtain ⟨l11, e11, hD⟩ := dSl_elim hD; exact F69_1_ok R l11 ds' w' E' e11 hD)
theorem F69_5_ok (R : Rt) (p0 : Option Addr) (n1 : Int) (s2 : ByteArray) (n3 n4 : Int) (ds : Ds) (w : World) (E : Env) (e0 : E 0 = .pointer p0) (e1 : E 1 = .int .i64 n1) (e2 : E 2 = .string s2) (e3 : E 3 = .int .i64 n3) (e4 : E 4 = .int .i64 n4) (h : F69_5 R p0 n1 s2 n3 n4 ds w) :
    TrL prog f69.ntmps [c69_0, c69_1, c69_2, c69_3, c69_4, c69_5] (F69_q1 R) E ds w :=
  TrL_piece (pre := [c69_0, c69_1, c69_2]) (K := (F69_k6 R)) (X := F69_5 R p0 n1 s2 n3 n4 ds w) (setAll_cons e0 (setAll_cons e1 (setAll_cons e2 (setAll_cons e3 (setAll_cons e4 setAll_nil))))) (by kernel_rfl) (by kernel_rfl)
    (fun E' ds' w' hD => by
      obtain ⟨s2, e2, hD⟩ := dStr_elim hD; obtain ⟨n3, e3, hD⟩ := dInt_elim hD; obtain ⟨n4, e4, hD⟩ := dInt_elim hD; obtain ⟨l11, e11, hD⟩ := dSl_elim hD; obtain ⟨p19, e19, hD⟩ := dPtr_elim hD; exact F69_4_ok R s2 n3 n4 l11 p19 ds' w' E' e2 e3 e4 e11 e19 hD) h
theorem F69_calls (p0 : Option Addr) (n1 : Int) (s2 : ByteArray) (n3 n4 : Int) (w : World) (R : Rt) (h : F69_5 R p0 n1 s2 n3 n4 [] w) : Calls prog 69 #[.pointer p0, .int .i64 n1, .string s2, .int .i64 n3, .int .i64 n4] w R :=
  calls_of_L (l := [c69_0, c69_1, c69_2, c69_3, c69_4, c69_5]) func69 (by kernel_rfl) (by rw [ntmps69]; exact Nat.le_of_ble_eq_true (by kernel_rfl)) c69_l
    (F69_5_ok R p0 n1 s2 n3 n4 [] w _ rfl rfl rfl rfl rfl h)
noncomputable def c70_0 := cI0 f70 0
noncomputable def c70_1 := cI0 f70 1
noncomputable def c70_2 := cI0 f70 2
noncomputable def c70_3 := cI0 f70 3
noncomputable def c70_4 := cI0 f70 4
noncomputable def c70_5 := cI0 f70 5
noncomputable def c70_6 := cI0 f70 6
noncomputable def c70_7 := cI0 f70 7
noncomputable def c70_4_0 := cJ0 c70_4 0
noncomputable def c70_4_0_0 := cJ0 c70_4_0 0
noncomputable def c70_4_0_1 := cJ0 c70_4_0 1
noncomputable def c70_4_0_2 := cJ0 c70_4_0 2
noncomputable def c70_4_0_3 := cJ0 c70_4_0 3
def F70_q1 (R : Rt) : EQ := endQ prog f70.results.toList R
def F70_1 (R : Rt) (p0 : Option Addr) (n1 : Int) (p5 p7 : Option Addr) (n8 : Int) (ds : Ds) (w : World) : Prop :=
 dwE w fun w1 =>
 ptrE p0 fun a2 =>
 0 <= n1 /\ n1 < (4 : Int) /\
 ∃ m53 : Option Nat, w1.cell? ((a2.add 3).add (n1.toNat * 1)) = some (.map m53) /\
 ptrE p5 fun a3 =>
 ∃ s54_0 : ByteArray, w1.cell? (a3.add 0) = some (.string s54_0) /\
 ∃ n54_1 : Int, w1.cell? (a3.add 1) = some (.int .i64 n54_1) /\
 ptrE p7 fun a4 =>
 ∃ c55 : Array Value, c55.size = 96 /\ (∀ i, i < 96 -> w1.cell? (a4.add i) = c55[i]?) /\
 doE prog (Instr.mapUpdate 63 (.map m53) (.agg #[.string s54_0, .int .i64 n54_1]) (.agg c55)) w1 fun w5 =>
 runD prog ds w5 fun w6 =>
 R (.returned (.int .i64 n8)) w6
def F70_k2 (R : Rt) : EP := (fun E ds w => dPtr (E 0) fun p0 => dInt .i64 (E 1) fun n1 => dPtr (E 5) fun p5 => dPtr (E 7) fun p7 => dInt .i64 (E 8) fun n8 => F70_1 R p0 n1 p5 p7 n8 ds w)
def F70_q3 (R : Rt) : EQ := (thenQ (F70_k2 R) (F70_q1 R))
def F70_q4 (R : Rt) : EQ := (blockQ 0 (F70_q3 R))
def F70_q5 (R : Rt) (J1 : (Int × Int) -> World -> Prop) : EQ := (thenQ (fun E _ w => dInt .i64 (E 8) fun n8 => dInt .i64 (E 18) fun n18 => J1 (n8, n18) w) (F70_q4 R))
def F70_2 (R : Rt) (J1 : (Int × Int) -> World -> Prop) (p0 : Option Addr) (n1 : Int) (p5 p7 : Option Addr) (n8 n18 : Int) (ds : Ds) (w : World) : Prop :=
 Br (decide (n18 < 32)) (
 ptrE p7 fun a7 =>
 0 <= n18 /\ n18 < (32 : Int) /\
 ∃ b24 : Bool, w.cell? ((a7.add 64).add (n18.toNat * 1)) = some (.bool b24) /\
 Br b24 (
 dwE w fun w8 =>
 ptrE p0 fun a9 =>
 ∃ m28 : Option Nat, w8.cell? (a9.add 2) = some (.map m28) /\
 ptrE p5 fun a10 =>
 ∃ s30 : ByteArray, w8.cell? a10 = some (.string s30) /\
 ∃ l31 : SV, (Instr.lookup 55 (.map m28) (.string s30) false).run prog w8 = .ok (.slice l31.a l31.len l31.cap) w8 /\
 ptrE p5 fun a11 =>
 ∃ n33 : Int, w8.cell? (a11.add 1) = some (.int .i64 n33) /\
 ptrE p7 fun a12 =>
 0 <= n18 /\ n18 < (32 : Int) /\
 ∃ n40 : Int, w8.cell? (a12.add (n18.toNat * 1)) = some (.int .u8 n40) /\
 ∃ a13 : Addr, l31.a = some a13 /\ 0 <= (IntKind.i64.wrap ((IntKind.i64.wrap (n33 * 32)) + n18)) /\ (IntKind.i64.wrap ((IntKind.i64.wrap (n33 * 32)) + n18)) < (l31.len : Int) /\
 st1 (a13.add ((IntKind.i64.wrap ((IntKind.i64.wrap (n33 * 32)) + n18)).toNat * 1)) (.int .u8 n40) w8 fun w14 =>
 ptrE p7 fun a15 =>
 0 <= n18 /\ n18 < (32 : Int) /\
 st1 ((a15.add 64).add (n18.toNat * 1)) (.bool false) w14 fun w16 =>
 J1 ((IntKind.i64.wrap (n8 + 1)), (IntKind.i64.wrap (n18 + 1))) w16) (
 J1 (n8, (IntKind.i64.wrap (n18 + 1))) w)) (
 F70_1 R p0 n1 p5 p7 n8 ds w)
def F70_3 (R : Rt) (p0 : Option Addr) (n1 : Int) (p5 p7 : Option Addr) (n8 n18 : Int) (ds : Ds) (w : World) : Prop :=
 loopT (fun (J1 : (Int × Int) -> World -> Prop) (s : Int × Int) (w : World) => F70_2 R J1 p0 n1 p5 p7 s.1 s.2 ds w) (n8, n18) w
abbrev F70_4 (R : Rt) (p0 : Option Addr) (n1 : Int) (p5 p7 : Option Addr) (n8 n18 : Int) (ds : Ds) (w : World) : Prop := F70_3 R p0 n1 p5 p7 n8 n18 ds w
def F70_k6 (R : Rt) : EP := (fun E ds w => dPtr (E 0) fun p0 => dInt .i64 (E 1) fun n1 => dPtr (E 5) fun p5 => dPtr (E 7) fun p7 => dInt .i64 (E 8) fun n8 => dInt .i64 (E 18) fun n18 => F70_4 R p0 n1 p5 p7 n8 n18 ds w)
def F70_5 (R : Rt) (p0 : Option Addr) (n1 : Int) (s2_0 : ByteArray) (n2_1 : Int) (ds : Ds) (w : World) : Prop :=
 alE (.cells #[.string s2_0, .int .i64 n2_1] 92) w fun r5 w17 =>
 dwE w17 fun w18 =>
 ∃ S3 : World -> Prop, S3 w18 /\
 ptrE p0 fun a19 =>
 0 <= n1 /\ n1 < (4 : Int) /\
 ∃ m15 : Option Nat, (∀ w', S3 w' -> w'.cell? ((a19.add 3).add (n1.toNat * 1)) = some (.map m15)) /\
 ∃ s16_0 : ByteArray, (∀ w', S3 w' -> w'.cell? ((⟨r5, 0, none⟩ : Addr).add 0) = some (.string s16_0)) /\
 ∃ n16_1 : Int, (∀ w', S3 w' -> w'.cell? ((⟨r5, 0, none⟩ : Addr).add 1) = some (.int .i64 n16_1)) /\
 ∃ c17 : Array Value, c17.size = 96 /\ (∀ w', S3 w' -> (Instr.lookup 63 (.map m15) (.agg #[.string s16_0, .int .i64 n16_1]) false).run prog w' = .ok (.agg c17) w') /\
 alE (.cells (zc prog 89) 89) w18 fun r7 w20 =>
 S3 w20 /\
 stA prog 89 (⟨r7, 0, none⟩ : Addr) c17 w20 fun w21 =>
 F70_4 R p0 n1 (some (⟨r5, 0, none⟩ : Addr)) (some (⟨r7, 0, none⟩ : Addr)) 0 0 ds w21
theorem c70_l : flat (bodyOf f70) = [c70_0, c70_1, c70_2, c70_3, c70_4, c70_5, c70_6, c70_7] := by kernel_rfl
theorem c70_4_l : flat (innerC c70_4) = [c70_4_0] := by kernel_rfl
theorem c70_4_0_l : flat (innerC c70_4_0) = [c70_4_0_0, c70_4_0_1, c70_4_0_2, c70_4_0_3] := by kernel_rfl
theorem F70_1_ok (R : Rt) (p0 : Option Addr) (n1 : Int) (p5 p7 : Option Addr) (n8 : Int) (ds : Ds) (w : World) (E : Env) (e0 : E 0 = .pointer p0) (e1 : E 1 = .int .i64 n1) (e5 : E 5 = .pointer p5) (e7 : E 7 = .pointer p7) (e8 : E 8 = .int .i64 n8) (h : F70_1 R p0 n1 p5 p7 n8 ds w) :
    TrL prog f70.ntmps [c70_5, c70_6, c70_7] (F70_q1 R) E ds w :=
  TrL_leaf (X := F70_1 R p0 n1 p5 p7 n8 ds w) (setAll_cons e0 (setAll_cons e1 (setAll_cons e5 (setAll_cons e7 (setAll_cons e8 setAll_nil))))) (by kernel_rfl) (by kernel_rfl) h
theorem F70_2_ok (R : Rt) (J1 : (Int × Int) -> World -> Prop) (p0 : Option Addr) (n1 : Int) (p5 p7 : Option Addr) (n8 n18 : Int) (ds : Ds) (w : World) (E : Env) (e0 : E 0 = .pointer p0) (e1 : E 1 = .int .i64 n1) (e5 : E 5 = .pointer p5) (e7 : E 7 = .pointer p7) (e8 : E 8 = .int .i64 n8) (e18 : E 18 = .int .i64 n18) (h : F70_2 R J1 p0 n1 p5 p7 n8 n18 ds w) :
    TrL prog f70.ntmps [c70_4_0_0, c70_4_0_1, c70_4_0_2, c70_4_0_3] (F70_q5 R J1) E ds w :=
  TrL_leaf (X := F70_2 R J1 p0 n1 p5 p7 n8 n18 ds w) (setAll_cons e0 (setAll_cons e1 (setAll_cons e5 (setAll_cons e7 (setAll_cons e8 (setAll_cons e18 setAll_nil)))))) (by kernel_rfl) (by kernel_rfl) h
theorem F70_3_ok (R : Rt) (p0 : Option Addr) (n1 : Int) (p5 p7 : Option Addr) (n8 n18 : Int) (ds : Ds) (w : World) (E : Env) (e0 : E 0 = .pointer p0) (e1 : E 1 = .int .i64 n1) (e5 : E 5 = .pointer p5) (e7 : E 7 = .pointer p7) (e8 : E 8 = .int .i64 n8) (e18 : E 18 = .int .i64 n18) (h : F70_3 R p0 n1 p5 p7 n8 n18 ds w) :
    TrL prog f70.ntmps [c70_4_0] (F70_q4 R) E ds w :=
  TrL_one (Tr_loop' (c := innerC c70_4_0) (σ := Int × Int) (enc := (fun (s : Int × Int) (E : Env) => E 8 = .int .i64 s.1 /\ E 18 = .int .i64 s.2)) (D := (fun E K => dInt .i64 (E 8) fun n8 => dInt .i64 (E 18) fun n18 => K (n8, n18))) (F := (fun (J1 : (Int × Int) -> World -> Prop) (s : Int × Int) (w : World) => F70_2 R J1 p0 n1 p5 p7 s.1 s.2 ds w)) (s0 := (n8, n18)) (by kernel_rfl) c70_4_0_l ⟨e8, e18⟩ (by kernel_rfl) (fun E K hD => by obtain ⟨n8, e8, hD⟩ := dInt_elim hD; obtain ⟨n18, e18, hD⟩ := dInt_elim hD; exact ⟨(n8, n18), ⟨e8, e18⟩, hD⟩)
      (fun J1 s E' w' he ha hF => by
      obtain ⟨e8', e18'⟩ := he
      exact F70_2_ok R J1 p0 n1 p5 p7 s.1 s.2 ds w' E' ((ha 0 (by kernel_rfl)).trans e0) ((ha 1 (by kernel_rfl)).trans e1) ((ha 5 (by kernel_rfl)).trans e5) ((ha 7 (by kernel_rfl)).trans e7) e8' e18' hF) h)
theorem F70_4_ok (R : Rt) (p0 : Option Addr) (n1 : Int) (p5 p7 : Option Addr) (n8 n18 : Int) (ds : Ds) (w : World) (E : Env) (e0 : E 0 = .pointer p0) (e1 : E 1 = .int .i64 n1) (e5 : E 5 = .pointer p5) (e7 : E 7 = .pointer p7) (e8 : E 8 = .int .i64 n8) (e18 : E 18 = .int .i64 n18) (h : F70_4 R p0 n1 p5 p7 n8 n18 ds w) :
    TrL prog f70.ntmps [c70_4, c70_5, c70_6, c70_7] (F70_q1 R) E ds w :=
  TrL_head (K := (F70_k2 R)) (Tr_block' (c := innerC c70_4) (by kernel_rfl) c70_4_l (F70_3_ok R p0 n1 p5 p7 n8 n18 ds w E e0 e1 e5 e7 e8 e18 h))
    (fun E' ds' w' hD => by
      obtain ⟨p0, e0, hD⟩ := dPtr_elim hD; obtain ⟨n1, e1, hD⟩ := dInt_elim hD; obtain ⟨p5, e5, hD⟩ := dPtr_elim hD; obtain ⟨p7, e7, hD⟩ := dPtr_elim hD; obtain ⟨n8, e8, hD⟩ := dInt_elim hD; exact F70_1_ok R p0 n1 p5 p7 n8 ds' w' E' e0 e1 e5 e7 e8 hD)
theorem F70_5_ok (R : Rt) (p0 : Option Addr) (n1 : Int) (s2_0 : ByteArray) (n2_1 : Int) (ds : Ds) (w : World) (E : Env) (e0 : E 0 = .pointer p0) (e1 : E 1 = .int .i64 n1) (e2 : E 2 = .agg #[.string s2_0, .int .i64 n2_1]) (h : F70_5 R p0 n1 s2_0 n2_1 ds w) :
    TrL prog f70.ntmps [c70_0, c70_1, c70_2, c70_3, c70_4, c70_5, c70_6, c70_7] (F70_q1 R) E ds w :=
  TrL_piece (pre := [c70_0, c70_1, c70_2, c70_3]) (K := (F70_k6 R)) (X := F70_5 R p0 n1 s2_0 n2_1 ds w) (setAll_cons e0 (setAll_cons e1 (setAll_cons e2 setAll_nil))) (by kernel_rfl) (by kernel_rfl)
    (fun E' ds' w' hD => by
      obtain ⟨p0, e0, hD⟩ := dPtr_elim hD; obtain ⟨n1, e1, hD⟩ := dInt_elim hD; obtain ⟨p5, e5, hD⟩ := dPtr_elim hD; obtain ⟨p7, e7, hD⟩ := dPtr_elim hD; obtain ⟨n8, e8, hD⟩ := dInt_elim hD; obtain ⟨n18, e18, hD⟩ := dInt_elim hD; exact F70_4_ok R p0 n1 p5 p7 n8 n18 ds' w' E' e0 e1 e5 e7 e8 e18 hD) h
theorem F70_calls (p0 : Option Addr) (n1 : Int) (s2_0 : ByteArray) (n2_1 : Int) (w : World) (R : Rt) (h : F70_5 R p0 n1 s2_0 n2_1 [] w) : Calls prog 70 #[.pointer p0, .int .i64 n1, .agg #[.string s2_0, .int .i64 n2_1]] w R :=
  calls_of_L (l := [c70_0, c70_1, c70_2, c70_3, c70_4, c70_5, c70_6, c70_7]) func70 (by kernel_rfl) (by rw [ntmps70]; exact Nat.le_of_ble_eq_true (by kernel_rfl)) c70_l
    (F70_5_ok R p0 n1 s2_0 n2_1 [] w _ rfl rfl rfl h)
noncomputable def c50_0 := cI0 f50 0
noncomputable def c50_1 := cI0 f50 1
noncomputable def c50_2 := cI0 f50 2
noncomputable def c50_3 := cI0 f50 3
noncomputable def c50_4 := cI0 f50 4
def F50_q1 (R : Rt) : EQ := endQ prog f50.results.toList R
def F50_1 (R : Rt) (l0 : SV) (ds : Ds) (w : World) : Prop :=
 ∃ b4 : Bool, ∃ w1 : World, (eqS .eql 36 (.tmp 3) (.const (.slice none 0 0)) (.slice l0.a l0.len l0.cap) (.slice none 0 0)).run prog w = .ok (.bool b4) w1 /\
 Br b4 (
 runD prog ds w1 fun w2 =>
 R (.returned (.slice none 0 0)) w2) (
 alE (.cells #[] 5) w1 fun r5 w3 =>
 ∃ l7 : SV, ∃ w4 : World, (Builtin.append_ #[36, 36] 36 #[.slice (some ⟨r5, 0, none⟩) 0 0, .slice l0.a l0.len l0.cap]).run prog w3 = .ok (.slice l7.a l7.len l7.cap) w4 /\
 runD prog ds w4 fun w5 =>
 R (.returned (.slice l7.a l7.len l7.cap)) w5)
theorem c50_l : flat (bodyOf f50) = [c50_0, c50_1, c50_2, c50_3, c50_4] := by kernel_rfl
theorem F50_1_ok (R : Rt) (l0 : SV) (ds : Ds) (w : World) (E : Env) (e0 : E 0 = .slice l0.a l0.len l0.cap) (h : F50_1 R l0 ds w) :
    TrL prog f50.ntmps [c50_0, c50_1, c50_2, c50_3, c50_4] (F50_q1 R) E ds w :=
  TrL_leaf (X := F50_1 R l0 ds w) (setAll_cons e0 setAll_nil) (by kernel_rfl) (by kernel_rfl) h
theorem F50_calls (l0 : SV) (w : World) (R : Rt) (h : F50_1 R l0 [] w) : Calls prog 50 #[.slice l0.a l0.len l0.cap] w R :=
  calls_of_L (l := [c50_0, c50_1, c50_2, c50_3, c50_4]) func50 (by kernel_rfl) (by rw [ntmps50]; exact Nat.le_of_ble_eq_true (by kernel_rfl)) c50_l
    (F50_1_ok R l0 [] w _ rfl h)
noncomputable def c45_0 := cI0 f45 0
def F45_q1 (R : Rt) : EQ := endQ prog f45.results.toList R
def F45_1 (R : Rt) (p0 : Option Addr) (n1 n2 : Int) (v3 : Value) (ds : Ds) (w : World) : Prop :=
 dwE w fun w1 =>
 addrE v3 fun a2 =>
 ∃ l7 : SV, w1.cell? a2 = some (.slice l7.a l7.len l7.cap) /\
 ptrE p0 fun a3 =>
 0 <= n1 /\ n1 < (32 : Int) /\
 ∃ n14 : Int, w1.cell? (a3.add (n1.toNat * 1)) = some (.int .u8 n14) /\
 ∃ a4 : Addr, l7.a = some a4 /\ 0 <= n2 /\ n2 < (l7.len : Int) /\
 st1 (a4.add (n2.toNat * 1)) (.int .u8 n14) w1 fun w5 =>
 runD prog ds w5 fun w6 =>
 R (.returned (.tuple #[])) w6
theorem c45_l : flat (bodyOf f45) = [c45_0] := by kernel_rfl
theorem F45_1_ok (R : Rt) (p0 : Option Addr) (n1 n2 : Int) (v3 : Value) (ds : Ds) (w : World) (E : Env) (e0 : E 0 = .pointer p0) (e1 : E 1 = .int .i64 n1) (e2 : E 2 = .int .i64 n2) (e3 : E 3 = v3) (h : F45_1 R p0 n1 n2 v3 ds w) :
    TrL prog f45.ntmps [c45_0] (F45_q1 R) E ds w :=
  TrL_leaf (X := F45_1 R p0 n1 n2 v3 ds w) (setAll_cons e0 (setAll_cons e1 (setAll_cons e2 (setAll_cons e3 setAll_nil)))) (by kernel_rfl) (by kernel_rfl) h
theorem F45_calls (p0 : Option Addr) (n1 n2 : Int) (v3 : Value) (w : World) (R : Rt) (h : F45_1 R p0 n1 n2 v3 [] w) : Calls prog 45 #[.pointer p0, .int .i64 n1, .int .i64 n2, v3] w R :=
  calls_of_L (l := [c45_0]) func45 (by kernel_rfl) (by rw [ntmps45]; exact Nat.le_of_ble_eq_true (by kernel_rfl)) c45_l
    (F45_1_ok R p0 n1 n2 v3 [] w _ rfl rfl rfl rfl h)
noncomputable def c71_0 := cI0 f71 0
noncomputable def c71_1 := cI0 f71 1
noncomputable def c71_2 := cI0 f71 2
def F71_q1 (R : Rt) : EQ := endQ prog f71.results.toList R
def F71_1 (R : Rt) (n0_0 : Int) (s0_1 : ByteArray) (n0_2 n0_3 : Int) (v1 v2 v3 : Value) (ds : Ds) (w : World) : Prop :=
 alE (.cells #[.int .i64 n0_0, .string s0_1, .int .i64 n0_2, .int .i64 n0_3] 95) w fun r4 w1 =>
 ∃ n6_0 : Int, w1.cell? ((⟨r4, 0, none⟩ : Addr).add 0) = some (.int .i64 n6_0) /\
 ∃ s6_1 : ByteArray, w1.cell? ((⟨r4, 0, none⟩ : Addr).add 1) = some (.string s6_1) /\
 ∃ n6_2 : Int, w1.cell? ((⟨r4, 0, none⟩ : Addr).add 2) = some (.int .i64 n6_2) /\
 ∃ n6_3 : Int, w1.cell? ((⟨r4, 0, none⟩ : Addr).add 3) = some (.int .i64 n6_3) /\
 addrE v1 fun a2 =>
 ∃ s7 : ByteArray, w1.cell? a2 = some (.string s7) /\
 addrE v2 fun a3 =>
 ∃ n8 : Int, w1.cell? a3 = some (.int .i64 n8) /\
 addrE v3 fun a4 =>
 ∃ n9 : Int, w1.cell? a4 = some (.int .i64 n9) /\
 Calls prog 72 #[.agg #[.int .i64 n6_0, .string s6_1, .int .i64 n6_2, .int .i64 n6_3], .string s7, .int .i64 n8, .int .i64 n9] w1 fun e w5 =>
 ∃ b10 : Bool, e = .returned (.bool b10) /\
 runD prog ds w5 fun w6 =>
 R (.returned (.bool b10)) w6
theorem c71_l : flat (bodyOf f71) = [c71_0, c71_1, c71_2] := by kernel_rfl
theorem F71_1_ok (R : Rt) (n0_0 : Int) (s0_1 : ByteArray) (n0_2 n0_3 : Int) (v1 v2 v3 : Value) (ds : Ds) (w : World) (E : Env) (e0 : E 0 = .agg #[.int .i64 n0_0, .string s0_1, .int .i64 n0_2, .int .i64 n0_3]) (e1 : E 1 = v1) (e2 : E 2 = v2) (e3 : E 3 = v3) (h : F71_1 R n0_0 s0_1 n0_2 n0_3 v1 v2 v3 ds w) :
    TrL prog f71.ntmps [c71_0, c71_1, c71_2] (F71_q1 R) E ds w :=
  TrL_leaf (X := F71_1 R n0_0 s0_1 n0_2 n0_3 v1 v2 v3 ds w) (setAll_cons e0 (setAll_cons e1 (setAll_cons e2 (setAll_cons e3 setAll_nil)))) (by kernel_rfl) (by kernel_rfl) h
theorem F71_calls (n0_0 : Int) (s0_1 : ByteArray) (n0_2 n0_3 : Int) (v1 v2 v3 : Value) (w : World) (R : Rt) (h : F71_1 R n0_0 s0_1 n0_2 n0_3 v1 v2 v3 [] w) : Calls prog 71 #[.agg #[.int .i64 n0_0, .string s0_1, .int .i64 n0_2, .int .i64 n0_3], v1, v2, v3] w R :=
  calls_of_L (l := [c71_0, c71_1, c71_2]) func71 (by kernel_rfl) (by rw [ntmps71]; exact Nat.le_of_ble_eq_true (by kernel_rfl)) c71_l
    (F71_1_ok R n0_0 s0_1 n0_2 n0_3 v1 v2 v3 [] w _ rfl rfl rfl rfl h)
noncomputable def c72_0 := cI0 f72 0
noncomputable def c72_1 := cI0 f72 1
noncomputable def c72_2 := cI0 f72 2
def F72_q1 (R : Rt) : EQ := endQ prog f72.results.toList R
def F72_1 (R : Rt) (n0_0 : Int) (s0_1 : ByteArray) (n0_2 n0_3 : Int) (s1 : ByteArray) (n2 n3 : Int) (ds : Ds) (w : World) : Prop :=
 alE (.cells #[.int .i64 n0_0, .string s0_1, .int .i64 n0_2, .int .i64 n0_3] 95) w fun r4 w1 =>
 ∃ s10 : ByteArray, w1.cell? ((⟨r4, 0, none⟩ : Addr).add 1) = some (.string s10) /\
 Br (s10.toList == s1.toList) (
 ∃ n15 : Int, w1.cell? ((⟨r4, 0, none⟩ : Addr).add 2) = some (.int .i64 n15) /\
 Br (decide (n15 < (IntKind.i64.wrap (n2 + n3)))) (
 ∃ n24 : Int, w1.cell? ((⟨r4, 0, none⟩ : Addr).add 2) = some (.int .i64 n24) /\
 ∃ n26 : Int, w1.cell? ((⟨r4, 0, none⟩ : Addr).add 3) = some (.int .i64 n26) /\
 runD prog ds w1 fun w2 =>
 R (.returned (.bool (decide (n2 < (IntKind.i64.wrap (n24 + n26)))))) w2) (
 runD prog ds w1 fun w3 =>
 R (.returned (.bool false)) w3)) (
 runD prog ds w1 fun w4 =>
 R (.returned (.bool false)) w4)
theorem c72_l : flat (bodyOf f72) = [c72_0, c72_1, c72_2] := by kernel_rfl
theorem F72_1_ok (R : Rt) (n0_0 : Int) (s0_1 : ByteArray) (n0_2 n0_3 : Int) (s1 : ByteArray) (n2 n3 : Int) (ds : Ds) (w : World) (E : Env) (e0 : E 0 = .agg #[.int .i64 n0_0, .string s0_1, .int .i64 n0_2, .int .i64 n0_3]) (e1 : E 1 = .string s1) (e2 : E 2 = .int .i64 n2) (e3 : E 3 = .int .i64 n3) (h : F72_1 R n0_0 s0_1 n0_2 n0_3 s1 n2 n3 ds w) :
    TrL prog f72.ntmps [c72_0, c72_1, c72_2] (F72_q1 R) E ds w :=
  TrL_leaf (X := F72_1 R n0_0 s0_1 n0_2 n0_3 s1 n2 n3 ds w) (setAll_cons e0 (setAll_cons e1 (setAll_cons e2 (setAll_cons e3 setAll_nil)))) (by kernel_rfl) (by kernel_rfl) h
theorem F72_calls (n0_0 : Int) (s0_1 : ByteArray) (n0_2 n0_3 : Int) (s1 : ByteArray) (n2 n3 : Int) (w : World) (R : Rt) (h : F72_1 R n0_0 s0_1 n0_2 n0_3 s1 n2 n3 [] w) : Calls prog 72 #[.agg #[.int .i64 n0_0, .string s0_1, .int .i64 n0_2, .int .i64 n0_3], .string s1, .int .i64 n2, .int .i64 n3] w R :=
  calls_of_L (l := [c72_0, c72_1, c72_2]) func72 (by kernel_rfl) (by rw [ntmps72]; exact Nat.le_of_ble_eq_true (by kernel_rfl)) c72_l
    (F72_1_ok R n0_0 s0_1 n0_2 n0_3 s1 n2 n3 [] w _ rfl rfl rfl rfl h)
noncomputable def c73_0 := cI0 f73 0
noncomputable def c73_1 := cI0 f73 1
noncomputable def c73_2 := cI0 f73 2
def F73_q1 (R : Rt) : EQ := endQ prog f73.results.toList R
def F73_1 (R : Rt) (l0 : SV) (v1 : Value) (ds : Ds) (w : World) : Prop :=
 Calls prog 98 #[.slice l0.a l0.len l0.cap, v1] w fun e w1 =>
 ∃ n7 : Int, e = .returned (.int .i64 n7) /\
 runD prog ds w1 fun w2 =>
 R (.returned (.bool (decide (n7 ≥ 0)))) w2
theorem c73_l : flat (bodyOf f73) = [c73_0, c73_1, c73_2] := by kernel_rfl
theorem F73_1_ok (R : Rt) (l0 : SV) (v1 : Value) (ds : Ds) (w : World) (E : Env) (e0 : E 0 = .slice l0.a l0.len l0.cap) (e1 : E 1 = v1) (h : F73_1 R l0 v1 ds w) :
    TrL prog f73.ntmps [c73_0, c73_1, c73_2] (F73_q1 R) E ds w :=
  TrL_leaf (X := F73_1 R l0 v1 ds w) (setAll_cons e0 (setAll_cons e1 setAll_nil)) (by kernel_rfl) (by kernel_rfl) h
theorem F73_calls (l0 : SV) (v1 : Value) (w : World) (R : Rt) (h : F73_1 R l0 v1 [] w) : Calls prog 73 #[.slice l0.a l0.len l0.cap, v1] w R :=
  calls_of_L (l := [c73_0, c73_1, c73_2]) func73 (by kernel_rfl) (by rw [ntmps73]; exact Nat.le_of_ble_eq_true (by kernel_rfl)) c73_l
    (F73_1_ok R l0 v1 [] w _ rfl rfl h)
noncomputable def c74_0 := cI0 f74 0
noncomputable def c74_1 := cI0 f74 1
noncomputable def c74_2 := cI0 f74 2
def F74_q1 (R : Rt) : EQ := endQ prog f74.results.toList R
def F74_1 (R : Rt) (n0_0 : Int) (s0_1 : ByteArray) (n0_2 n0_3 : Int) (v1 v2 : Value) (ds : Ds) (w : World) : Prop :=
 alE (.cells #[.int .i64 n0_0, .string s0_1, .int .i64 n0_2, .int .i64 n0_3] 95) w fun r3 w1 =>
 ∃ n6 : Int, w1.cell? (⟨r3, 0, none⟩ : Addr) = some (.int .i64 n6) /\
 addrE v1 fun a2 =>
 ∃ n7 : Int, w1.cell? a2 = some (.int .i64 n7) /\
 Br (n6 == n7) (
 addrE v2 fun a3 =>
 ∃ v10 : Value, w1.cell? a3 = some (v10) /\
 ∃ n11_0 : Int, w1.cell? ((⟨r3, 0, none⟩ : Addr).add 0) = some (.int .i64 n11_0) /\
 ∃ s11_1 : ByteArray, w1.cell? ((⟨r3, 0, none⟩ : Addr).add 1) = some (.string s11_1) /\
 ∃ n11_2 : Int, w1.cell? ((⟨r3, 0, none⟩ : Addr).add 2) = some (.int .i64 n11_2) /\
 ∃ n11_3 : Int, w1.cell? ((⟨r3, 0, none⟩ : Addr).add 3) = some (.int .i64 n11_3) /\
 fnE v10 fun f12 first12 cap12 =>
 hasBody prog f12 = true /\ Calls prog f12 (first12.toList ++ (([.agg #[.int .i64 n11_0, .string s11_1, .int .i64 n11_2, .int .i64 n11_3]] : List Value) ++ cap12.toList)).toArray w1 fun e w4 =>
 ∃ b12 : Bool, e = .returned (.bool b12) /\
 runD prog ds w4 fun w5 =>
 R (.returned (.bool b12)) w5) (
 runD prog ds w1 fun w6 =>
 R (.returned (.bool false)) w6)
theorem c74_l : flat (bodyOf f74) = [c74_0, c74_1, c74_2] := by kernel_rfl
theorem F74_1_ok (R : Rt) (n0_0 : Int) (s0_1 : ByteArray) (n0_2 n0_3 : Int) (v1 v2 : Value) (ds : Ds) (w : World) (E : Env) (e0 : E 0 = .agg #[.int .i64 n0_0, .string s0_1, .int .i64 n0_2, .int .i64 n0_3]) (e1 : E 1 = v1) (e2 : E 2 = v2) (h : F74_1 R n0_0 s0_1 n0_2 n0_3 v1 v2 ds w) :
    TrL prog f74.ntmps [c74_0, c74_1, c74_2] (F74_q1 R) E ds w :=
  TrL_leaf (X := F74_1 R n0_0 s0_1 n0_2 n0_3 v1 v2 ds w) (setAll_cons e0 (setAll_cons e1 (setAll_cons e2 setAll_nil))) (by kernel_rfl) (by kernel_rfl) h
theorem F74_calls (n0_0 : Int) (s0_1 : ByteArray) (n0_2 n0_3 : Int) (v1 v2 : Value) (w : World) (R : Rt) (h : F74_1 R n0_0 s0_1 n0_2 n0_3 v1 v2 [] w) : Calls prog 74 #[.agg #[.int .i64 n0_0, .string s0_1, .int .i64 n0_2, .int .i64 n0_3], v1, v2] w R :=
  calls_of_L (l := [c74_0, c74_1, c74_2]) func74 (by kernel_rfl) (by rw [ntmps74]; exact Nat.le_of_ble_eq_true (by kernel_rfl)) c74_l
    (F74_1_ok R n0_0 s0_1 n0_2 n0_3 v1 v2 [] w _ rfl rfl rfl h)
noncomputable def c80_0 := cI0 f80 0
noncomputable def c80_1 := cI0 f80 1
noncomputable def c80_2 := cI0 f80 2
noncomputable def c80_3 := cI0 f80 3
noncomputable def c80_4 := cI0 f80 4
noncomputable def c80_2_0 := cJ0 c80_2 0
noncomputable def c80_2_0_0 := cJ0 c80_2_0 0
noncomputable def c80_2_0_1 := cJ0 c80_2_0 1
noncomputable def c80_2_0_2 := cJ0 c80_2_0 2
noncomputable def c80_2_0_3 := cJ0 c80_2_0 3
def F80_q1 (R : Rt) : EQ := endQ prog f80.results.toList R
def F80_1 (R : Rt) (ds : Ds) (w : World) : Prop :=
 runD prog ds w fun w1 =>
 R (.returned (.int .i64 (-1))) w1
def F80_k2 (R : Rt) : EP := (fun E ds w => F80_1 R ds w)
def F80_q3 (R : Rt) : EQ := (thenQ (F80_k2 R) (F80_q1 R))
def F80_q4 (R : Rt) : EQ := (blockQ 0 (F80_q3 R))
def F80_q5 (R : Rt) (J1 : (Int) -> World -> Prop) : EQ := (thenQ (fun E _ w => dInt .i64 (E 8) fun n8 => J1 n8 w) (F80_q4 R))
def F80_2 (R : Rt) (J1 : (Int) -> World -> Prop) (l0 : SV) (p3 : Option Addr) (n7 n8 : Int) (ds : Ds) (w : World) : Prop :=
 Br (decide (n8 < n7)) (
 dwE w fun w2 =>
 ptrE p3 fun a3 =>
 ∃ n11_0 : Int, w2.cell? (a3.add 0) = some (.int .i64 n11_0) /\
 ∃ s11_1 : ByteArray, w2.cell? (a3.add 1) = some (.string s11_1) /\
 ∃ n11_2 : Int, w2.cell? (a3.add 2) = some (.int .i64 n11_2) /\
 ∃ n11_3 : Int, w2.cell? (a3.add 3) = some (.int .i64 n11_3) /\
 ∃ a4 : Addr, l0.a = some a4 /\ 0 <= n8 /\ n8 < (l0.len : Int) /\
 ∃ n15_0 : Int, w2.cell? ((a4.add (n8.toNat * 4)).add 0) = some (.int .i64 n15_0) /\
 ∃ s15_1 : ByteArray, w2.cell? ((a4.add (n8.toNat * 4)).add 1) = some (.string s15_1) /\
 ∃ n15_2 : Int, w2.cell? ((a4.add (n8.toNat * 4)).add 2) = some (.int .i64 n15_2) /\
 ∃ n15_3 : Int, w2.cell? ((a4.add (n8.toNat * 4)).add 3) = some (.int .i64 n15_3) /\
 ∃ b16 : Bool, (∀ w, (eqS .eql 95 (.tmp 11) (.tmp 15) (.agg #[.int .i64 n11_0, .string s11_1, .int .i64 n11_2, .int .i64 n11_3]) (.agg #[.int .i64 n15_0, .string s15_1, .int .i64 n15_2, .int .i64 n15_3])).run prog w = .ok (.bool b16) w) /\
 Br b16 (
 runD prog ds w2 fun w5 =>
 R (.returned (.int .i64 n8)) w5) (
 J1 (IntKind.i64.wrap (n8 + 1)) w2)) (
 F80_1 R ds w)
def F80_3 (R : Rt) (l0 : SV) (p3 : Option Addr) (n7 n8 : Int) (ds : Ds) (w : World) : Prop :=
 loopT (fun (J1 : (Int) -> World -> Prop) (s : Int) (w : World) => F80_2 R J1 l0 p3 n7 s ds w) n8 w
abbrev F80_4 (R : Rt) (l0 : SV) (p3 : Option Addr) (n7 n8 : Int) (ds : Ds) (w : World) : Prop := F80_3 R l0 p3 n7 n8 ds w
def F80_k6 (R : Rt) : EP := (fun E ds w => dSl (E 0) fun l0 => dPtr (E 3) fun p3 => dInt .i64 (E 7) fun n7 => dInt .i64 (E 8) fun n8 => F80_4 R l0 p3 n7 n8 ds w)
def F80_5 (R : Rt) (l0 : SV) (n1_0 : Int) (s1_1 : ByteArray) (n1_2 n1_3 : Int) (ds : Ds) (w : World) : Prop :=
 alE (.cells #[.int .i64 n1_0, .string s1_1, .int .i64 n1_2, .int .i64 n1_3] 95) w fun r3 w6 =>
 F80_4 R l0 (some (⟨r3, 0, none⟩ : Addr)) (l0.len : Int) 0 ds w6
theorem c80_l : flat (bodyOf f80) = [c80_0, c80_1, c80_2, c80_3, c80_4] := by kernel_rfl
theorem c80_2_l : flat (innerC c80_2) = [c80_2_0] := by kernel_rfl
theorem c80_2_0_l : flat (innerC c80_2_0) = [c80_2_0_0, c80_2_0_1, c80_2_0_2, c80_2_0_3] := by kernel_rfl
theorem F80_1_ok (R : Rt) (ds : Ds) (w : World) (E : Env) (h : F80_1 R ds w) :
    TrL prog f80.ntmps [c80_3, c80_4] (F80_q1 R) E ds w :=
  TrL_leaf (X := F80_1 R ds w) setAll_nil (by kernel_rfl) (by kernel_rfl) h
theorem F80_2_ok (R : Rt) (J1 : (Int) -> World -> Prop) (l0 : SV) (p3 : Option Addr) (n7 n8 : Int) (ds : Ds) (w : World) (E : Env) (e0 : E 0 = .slice l0.a l0.len l0.cap) (e3 : E 3 = .pointer p3) (e7 : E 7 = .int .i64 n7) (e8 : E 8 = .int .i64 n8) (h : F80_2 R J1 l0 p3 n7 n8 ds w) :
    TrL prog f80.ntmps [c80_2_0_0, c80_2_0_1, c80_2_0_2, c80_2_0_3] (F80_q5 R J1) E ds w :=
  TrL_leaf (X := F80_2 R J1 l0 p3 n7 n8 ds w) (setAll_cons e0 (setAll_cons e3 (setAll_cons e7 (setAll_cons e8 setAll_nil)))) (by kernel_rfl) (by kernel_rfl) h
theorem F80_3_ok (R : Rt) (l0 : SV) (p3 : Option Addr) (n7 n8 : Int) (ds : Ds) (w : World) (E : Env) (e0 : E 0 = .slice l0.a l0.len l0.cap) (e3 : E 3 = .pointer p3) (e7 : E 7 = .int .i64 n7) (e8 : E 8 = .int .i64 n8) (h : F80_3 R l0 p3 n7 n8 ds w) :
    TrL prog f80.ntmps [c80_2_0] (F80_q4 R) E ds w :=
  TrL_one (Tr_loop' (c := innerC c80_2_0) (σ := Int) (enc := (fun (s : Int) (E : Env) => E 8 = .int .i64 s)) (D := (fun E K => dInt .i64 (E 8) fun n8 => K n8)) (F := (fun (J1 : (Int) -> World -> Prop) (s : Int) (w : World) => F80_2 R J1 l0 p3 n7 s ds w)) (s0 := n8) (by kernel_rfl) c80_2_0_l e8 (by kernel_rfl) (fun E K hD => by obtain ⟨n8, e8, hD⟩ := dInt_elim hD; exact ⟨n8, e8, hD⟩)
      (fun J1 s E' w' he ha hF => by
      have e8' := he
      exact F80_2_ok R J1 l0 p3 n7 s ds w' E' ((ha 0 (by kernel_rfl)).trans e0) ((ha 3 (by kernel_rfl)).trans e3) ((ha 7 (by kernel_rfl)).trans e7) e8' hF) h)
theorem F80_4_ok (R : Rt) (l0 : SV) (p3 : Option Addr) (n7 n8 : Int) (ds : Ds) (w : World) (E : Env) (e0 : E 0 = .slice l0.a l0.len l0.cap) (e3 : E 3 = .pointer p3) (e7 : E 7 = .int .i64 n7) (e8 : E 8 = .int .i64 n8) (h : F80_4 R l0 p3 n7 n8 ds w) :
    TrL prog f80.ntmps [c80_2, c80_3, c80_4] (F80_q1 R) E ds w :=
  TrL_head (K := (F80_k2 R)) (Tr_block' (c := innerC c80_2) (by kernel_rfl) c80_2_l (F80_3_ok R l0 p3 n7 n8 ds w E e0 e3 e7 e8 h))
    (fun E' ds' w' hD => by
      exact F80_1_ok R ds' w' E'  hD)
theorem F80_5_ok (R : Rt) (l0 : SV) (n1_0 : Int) (s1_1 : ByteArray) (n1_2 n1_3 : Int) (ds : Ds) (w : World) (E : Env) (e0 : E 0 = .slice l0.a l0.len l0.cap) (e1 : E 1 = .agg #[.int .i64 n1_0, .string s1_1, .int .i64 n1_2, .int .i64 n1_3]) (h : F80_5 R l0 n1_0 s1_1 n1_2 n1_3 ds w) :
    TrL prog f80.ntmps [c80_0, c80_1, c80_2, c80_3, c80_4] (F80_q1 R) E ds w :=
  TrL_piece (pre := [c80_0, c80_1]) (K := (F80_k6 R)) (X := F80_5 R l0 n1_0 s1_1 n1_2 n1_3 ds w) (setAll_cons e0 (setAll_cons e1 setAll_nil)) (by kernel_rfl) (by kernel_rfl)
    (fun E' ds' w' hD => by
      obtain ⟨l0, e0, hD⟩ := dSl_elim hD; obtain ⟨p3, e3, hD⟩ := dPtr_elim hD; obtain ⟨n7, e7, hD⟩ := dInt_elim hD; obtain ⟨n8, e8, hD⟩ := dInt_elim hD; exact F80_4_ok R l0 p3 n7 n8 ds' w' E' e0 e3 e7 e8 hD) h
theorem F80_calls (l0 : SV) (n1_0 : Int) (s1_1 : ByteArray) (n1_2 n1_3 : Int) (w : World) (R : Rt) (h : F80_5 R l0 n1_0 s1_1 n1_2 n1_3 [] w) : Calls prog 80 #[.slice l0.a l0.len l0.cap, .agg #[.int .i64 n1_0, .string s1_1, .int .i64 n1_2, .int .i64 n1_3]] w R :=
  calls_of_L (l := [c80_0, c80_1, c80_2, c80_3, c80_4]) func80 (by kernel_rfl) (by rw [ntmps80]; exact Nat.le_of_ble_eq_true (by kernel_rfl)) c80_l
    (F80_5_ok R l0 n1_0 s1_1 n1_2 n1_3 [] w _ rfl rfl h)
noncomputable def c81_0 := cI0 f81 0
noncomputable def c81_1 := cI0 f81 1
noncomputable def c81_2 := cI0 f81 2
noncomputable def c81_3 := cI0 f81 3
noncomputable def c81_4 := cI0 f81 4
noncomputable def c81_5 := cI0 f81 5
noncomputable def c81_6 := cI0 f81 6
noncomputable def c81_7 := cI0 f81 7
noncomputable def c81_8 := cI0 f81 8
def F81_q1 (R : Rt) : EQ := endQ prog f81.results.toList R
def F81_1 (R : Rt) (l0 : SV) (n1 n2 : Int) (ds : Ds) (w : World) : Prop :=
 ∃ l13 : SV, ∃ w1 : World, (Instr.sliceAt 65 (.slice l0.a l0.len l0.cap) (some (.int .i64 n1)) (some (.int .i64 n2)) (some (.int .i64 (l0.len : Int)))).run prog w = .ok (.slice l13.a l13.len l13.cap) w1 /\
 Br (n1 == n2) (
 runD prog ds w1 fun w2 =>
 R (.returned (.slice l0.a l0.len l0.cap)) w2) (
 dwE w1 fun w3 =>
 0 <= n1 /\ n1.toNat <= l0.cap /\ 0 <= n1.toNat /\
 l0.len <= l0.cap /\ 0 <= n2 /\ n2.toNat <= l0.len /\
 ∃ l26 : SV, ∃ w4 : World, (Builtin.append_ #[65, 65] 65 #[.slice (if l0.cap = 0 then l0.a else l0.a.map (fun x => x.add (0 * 4))) (n1.toNat - 0) (l0.cap - 0), .slice (if l0.cap = n2.toNat then l0.a else l0.a.map (fun x => x.add (n2.toNat * 4))) (l0.len - n2.toNat) (l0.cap - n2.toNat)]).run prog w3 = .ok (.slice l26.a l26.len l26.cap) w4 /\
 0 <= (l0.len : Int) /\ (l0.len : Int).toNat <= l26.cap /\ 0 <= (l26.len : Int) /\ (l26.len : Int).toNat <= (l0.len : Int).toNat /\
 ∃ w5 : World, (Builtin.clear_ #[65] 0 #[.slice (if l26.cap = (l26.len : Int).toNat then l26.a else l26.a.map (fun x => x.add ((l26.len : Int).toNat * 4))) ((l0.len : Int).toNat - (l26.len : Int).toNat) (l26.cap - (l26.len : Int).toNat)]).run prog w4 = .ok (.tuple #[]) w5 /\
 runD prog ds w5 fun w6 =>
 R (.returned (.slice l26.a l26.len l26.cap)) w6)
theorem c81_l : flat (bodyOf f81) = [c81_0, c81_1, c81_2, c81_3, c81_4, c81_5, c81_6, c81_7, c81_8] := by kernel_rfl
theorem F81_1_ok (R : Rt) (l0 : SV) (n1 n2 : Int) (ds : Ds) (w : World) (E : Env) (e0 : E 0 = .slice l0.a l0.len l0.cap) (e1 : E 1 = .int .i64 n1) (e2 : E 2 = .int .i64 n2) (h : F81_1 R l0 n1 n2 ds w) :
    TrL prog f81.ntmps [c81_0, c81_1, c81_2, c81_3, c81_4, c81_5, c81_6, c81_7, c81_8] (F81_q1 R) E ds w :=
  TrL_leaf (X := F81_1 R l0 n1 n2 ds w) (setAll_cons e0 (setAll_cons e1 (setAll_cons e2 setAll_nil))) (by kernel_rfl) (by kernel_rfl) h
theorem F81_calls (l0 : SV) (n1 n2 : Int) (w : World) (R : Rt) (h : F81_1 R l0 n1 n2 [] w) : Calls prog 81 #[.slice l0.a l0.len l0.cap, .int .i64 n1, .int .i64 n2] w R :=
  calls_of_L (l := [c81_0, c81_1, c81_2, c81_3, c81_4, c81_5, c81_6, c81_7, c81_8]) func81 (by kernel_rfl) (by rw [ntmps81]; exact Nat.le_of_ble_eq_true (by kernel_rfl)) c81_l
    (F81_1_ok R l0 n1 n2 [] w _ rfl rfl rfl h)
noncomputable def c46_0 := cI0 f46 0
def F46_q1 (R : Rt) : EQ := endQ prog f46.results.toList R
def F46_1 (R : Rt) (p0 : Option Addr) (ds : Ds) (w : World) : Prop :=
 ptrE p0 fun a1 =>
 Calls prog 96 #[.pointer (some a1)] w fun e w2 =>
 e = .returned (.tuple #[]) /\
 runD prog ds w2 fun w3 =>
 R (.returned (.tuple #[])) w3
theorem c46_l : flat (bodyOf f46) = [c46_0] := by kernel_rfl
theorem F46_1_ok (R : Rt) (p0 : Option Addr) (ds : Ds) (w : World) (E : Env) (e0 : E 0 = .pointer p0) (h : F46_1 R p0 ds w) :
    TrL prog f46.ntmps [c46_0] (F46_q1 R) E ds w :=
  TrL_leaf (X := F46_1 R p0 ds w) (setAll_cons e0 setAll_nil) (by kernel_rfl) (by kernel_rfl) h
theorem F46_calls (p0 : Option Addr) (w : World) (R : Rt) (h : F46_1 R p0 [] w) : Calls prog 46 #[.pointer p0] w R :=
  calls_of_L (l := [c46_0]) func46 (by kernel_rfl) (by rw [ntmps46]; exact Nat.le_of_ble_eq_true (by kernel_rfl)) c46_l
    (F46_1_ok R p0 [] w _ rfl h)
noncomputable def c94_0 := cI0 f94 0
noncomputable def c94_1 := cI0 f94 1
noncomputable def c94_2 := cI0 f94 2
noncomputable def c94_3 := cI0 f94 3
noncomputable def c94_4 := cI0 f94 4
noncomputable def c94_5 := cI0 f94 5
noncomputable def c94_6 := cI0 f94 6
noncomputable def c94_4_0 := cJ0 c94_4 0
noncomputable def c94_4_0_0 := cJ0 c94_4_0 0
noncomputable def c94_4_0_1 := cJ0 c94_4_0 1
noncomputable def c94_4_0_2 := cJ0 c94_4_0 2
noncomputable def c94_4_0_3 := cJ0 c94_4_0 3
def F94_q1 (R : Rt) : EQ := endQ prog f94.results.toList R
def F94_1 (R : Rt) (ds : Ds) (w : World) : Prop :=
 runD prog ds w fun w1 =>
 R (.returned (.bool true)) w1
def F94_k2 (R : Rt) : EP := (fun E ds w => F94_1 R ds w)
def F94_q3 (R : Rt) : EQ := (thenQ (F94_k2 R) (F94_q1 R))
def F94_q4 (R : Rt) : EQ := (blockQ 0 (F94_q3 R))
def F94_q5 (R : Rt) (J1 : (Int) -> World -> Prop) : EQ := (thenQ (fun E _ w => dInt .i64 (E 15) fun n15 => J1 n15 w) (F94_q4 R))
def F94_2 (R : Rt) (J1 : (Int) -> World -> Prop) (l13 : SV) (n14 n15 : Int) (ds : Ds) (w : World) : Prop :=
 J1 (IntKind.i64.wrap (n15 + 1)) w
def F94_k6 (R : Rt) (J1 : (Int) -> World -> Prop) : EP := (fun E ds w => dSl (E 13) fun l13 => dInt .i64 (E 14) fun n14 => dInt .i64 (E 15) fun n15 => F94_2 R J1 l13 n14 n15 ds w)
def F94_3 (R : Rt) (J1 : (Int) -> World -> Prop) (l13 : SV) (n14 n15 : Int) (ds : Ds) (w : World) : Prop :=
 ∃ a2 : Addr, l13.a = some a2 /\ 0 <= n15 /\ n15 < (l13.len : Int) /\
 ∃ n18 : Int, w.cell? (a2.add (n15.toNat * 1)) = some (.int .u8 n18) /\
 Br (n18 != 46) (
 Br (decide (n18 < 48)) (
 Br (decide (n18 < 65)) (
 Br (decide (n18 < 97)) (
 runD prog ds w fun w3 =>
 R (.returned (.bool false)) w3) (
 Br (decide (n18 > 122)) (
 runD prog ds w fun w4 =>
 R (.returned (.bool false)) w4) (
 F94_2 R J1 l13 n14 n15 ds w))) (
 Br (decide (n18 > 90)) (
 Br (decide (n18 < 97)) (
 runD prog ds w fun w5 =>
 R (.returned (.bool false)) w5) (
 Br (decide (n18 > 122)) (
 runD prog ds w fun w6 =>
 R (.returned (.bool false)) w6) (
 F94_2 R J1 l13 n14 n15 ds w))) (
 F94_2 R J1 l13 n14 n15 ds w))) (
 Br (decide (n18 > 57)) (
 Br (decide (n18 < 65)) (
 Br (decide (n18 < 97)) (
 runD prog ds w fun w7 =>
 R (.returned (.bool false)) w7) (
 Br (decide (n18 > 122)) (
 runD prog ds w fun w8 =>
 R (.returned (.bool false)) w8) (
 F94_2 R J1 l13 n14 n15 ds w))) (
 Br (decide (n18 > 90)) (
 Br (decide (n18 < 97)) (
 runD prog ds w fun w9 =>
 R (.returned (.bool false)) w9) (
 Br (decide (n18 > 122)) (
 runD prog ds w fun w10 =>
 R (.returned (.bool false)) w10) (
 F94_2 R J1 l13 n14 n15 ds w))) (
 F94_2 R J1 l13 n14 n15 ds w))) (
 F94_2 R J1 l13 n14 n15 ds w))) (
 F94_2 R J1 l13 n14 n15 ds w)
def F94_k7 (R : Rt) (J1 : (Int) -> World -> Prop) : EP := (fun E ds w => dSl (E 13) fun l13 => dInt .i64 (E 14) fun n14 => dInt .i64 (E 15) fun n15 => F94_3 R J1 l13 n14 n15 ds w)
def F94_4 (R : Rt) (J1 : (Int) -> World -> Prop) (l13 : SV) (n14 n15 : Int) (ds : Ds) (w : World) : Prop :=
 Br (decide (n15 < n14)) (
 F94_3 R J1 l13 n14 n15 ds w) (
 F94_1 R ds w)
def F94_5 (R : Rt) (l13 : SV) (n14 n15 : Int) (ds : Ds) (w : World) : Prop :=
 loopT (fun (J1 : (Int) -> World -> Prop) (s : Int) (w : World) => F94_4 R J1 l13 n14 s ds w) n15 w
abbrev F94_6 (R : Rt) (l13 : SV) (n14 n15 : Int) (ds : Ds) (w : World) : Prop := F94_5 R l13 n14 n15 ds w
def F94_k8 (R : Rt) : EP := (fun E ds w => dSl (E 13) fun l13 => dInt .i64 (E 14) fun n14 => dInt .i64 (E 15) fun n15 => F94_6 R l13 n14 n15 ds w)
def F94_7 (R : Rt) (s0 : ByteArray) (ds : Ds) (w : World) : Prop :=
 Br (s0.toList == (⟨#[]⟩ : ByteArray).toList) (
 runD prog ds w fun w11 =>
 R (.returned (.bool false)) w11) (
 Br (decide ((s0.size : Int) > 10)) (
 runD prog ds w fun w12 =>
 R (.returned (.bool false)) w12) (
 ∃ l13 : SV, ∃ w13 : World, (convert 9 36 (.string s0)).run prog w = .ok (.slice l13.a l13.len l13.cap) w13 /\
 F94_6 R l13 (l13.len : Int) 0 ds w13))
theorem c94_l : flat (bodyOf f94) = [c94_0, c94_1, c94_2, c94_3, c94_4, c94_5, c94_6] := by kernel_rfl
theorem c94_4_l : flat (innerC c94_4) = [c94_4_0] := by kernel_rfl
theorem c94_4_0_l : flat (innerC c94_4_0) = [c94_4_0_0, c94_4_0_1, c94_4_0_2, c94_4_0_3] := by kernel_rfl
theorem F94_1_ok (R : Rt) (ds : Ds) (w : World) (E : Env) (h : F94_1 R ds w) :
    TrL prog f94.ntmps [c94_5, c94_6] (F94_q1 R) E ds w :=
  TrL_leaf (X := F94_1 R ds w) setAll_nil (by kernel_rfl) (by kernel_rfl) h
theorem F94_2_ok (R : Rt) (J1 : (Int) -> World -> Prop) (l13 : SV) (n14 n15 : Int) (ds : Ds) (w : World) (E : Env) (e13 : E 13 = .slice l13.a l13.len l13.cap) (e14 : E 14 = .int .i64 n14) (e15 : E 15 = .int .i64 n15) (h : F94_2 R J1 l13 n14 n15 ds w) :
    TrL prog f94.ntmps [c94_4_0_3] (F94_q5 R J1) E ds w :=
  TrL_leaf (X := F94_2 R J1 l13 n14 n15 ds w) (setAll_cons e13 (setAll_cons e14 (setAll_cons e15 setAll_nil))) (by kernel_rfl) (by kernel_rfl) h
theorem F94_3_ok (R : Rt) (J1 : (Int) -> World -> Prop) (l13 : SV) (n14 n15 : Int) (ds : Ds) (w : World) (E : Env) (e13 : E 13 = .slice l13.a l13.len l13.cap) (e14 : E 14 = .int .i64 n14) (e15 : E 15 = .int .i64 n15) (h : F94_3 R J1 l13 n14 n15 ds w) :
    TrL prog f94.ntmps [c94_4_0_2, c94_4_0_3] (F94_q5 R J1) E ds w :=
  TrL_piece (pre := [c94_4_0_2]) (K := (F94_k6 R J1)) (X := F94_3 R J1 l13 n14 n15 ds w) (setAll_cons e13 (setAll_cons e14 (setAll_cons e15 setAll_nil))) (by kernel_rfl) (by kernel_rfl)
    (fun E' ds' w' hD => by
      obtain ⟨l13, e13, hD⟩ := dSl_elim hD; obtain ⟨n14, e14, hD⟩ := dInt_elim hD; obtain ⟨n15, e15, hD⟩ := dInt_elim hD; exact F94_2_ok R J1 l13 n14 n15 ds' w' E' e13 e14 e15 hD) h
theorem F94_4_ok (R : Rt) (J1 : (Int) -> World -> Prop) (l13 : SV) (n14 n15 : Int) (ds : Ds) (w : World) (E : Env) (e13 : E 13 = .slice l13.a l13.len l13.cap) (e14 : E 14 = .int .i64 n14) (e15 : E 15 = .int .i64 n15) (h : F94_4 R J1 l13 n14 n15 ds w) :
    TrL prog f94.ntmps [c94_4_0_0, c94_4_0_1, c94_4_0_2, c94_4_0_3] (F94_q5 R J1) E ds w :=
  TrL_piece (pre := [c94_4_0_0, c94_4_0_1]) (K := (F94_k7 R J1)) (X := F94_4 R J1 l13 n14 n15 ds w) (setAll_cons e13 (setAll_cons e14 (setAll_cons e15 setAll_nil))) (by kernel_rfl) (by kernel_rfl)
    (fun E' ds' w' hD => by
      obtain ⟨l13, e13, hD⟩ := dSl_elim hD; obtain ⟨n14, e14, hD⟩ := dInt_elim hD; obtain ⟨n15, e15, hD⟩ := dInt_elim hD; exact F94_3_ok R J1 l13 n14 n15 ds' w' E' e13 e14 e15 hD) h
theorem F94_5_ok (R : Rt) (l13 : SV) (n14 n15 : Int) (ds : Ds) (w : World) (E : Env) (e13 : E 13 = .slice l13.a l13.len l13.cap) (e14 : E 14 = .int .i64 n14) (e15 : E 15 = .int .i64 n15) (h : F94_5 R l13 n14 n15 ds w) :
    TrL prog f94.ntmps [c94_4_0] (F94_q4 R) E ds w :=
  TrL_one (Tr_loop' (c := innerC c94_4_0) (σ := Int) (enc := (fun (s : Int) (E : Env) => E 15 = .int .i64 s)) (D := (fun E K => dInt .i64 (E 15) fun n15 => K n15)) (F := (fun (J1 : (Int) -> World -> Prop) (s : Int) (w : World) => F94_4 R J1 l13 n14 s ds w)) (s0 := n15) (by kernel_rfl) c94_4_0_l e15 (by kernel_rfl) (fun E K hD => by obtain ⟨n15, e15, hD⟩ := dInt_elim hD; exact ⟨n15, e15, hD⟩)
      (fun J1 s E' w' he ha hF => by
      have e15' := he
      exact F94_4_ok R J1 l13 n14 s ds w' E' ((ha 13 (by kernel_rfl)).trans e13) ((ha 14 (by kernel_rfl)).trans e14) e15' hF) h)
theorem F94_6_ok (R : Rt) (l13 : SV) (n14 n15 : Int) (ds : Ds) (w : World) (E : Env) (e13 : E 13 = .slice l13.a l13.len l13.cap) (e14 : E 14 = .int .i64 n14) (e15 : E 15 = .int .i64 n15) (h : F94_6 R l13 n14 n15 ds w) :
    TrL prog f94.ntmps [c94_4, c94_5, c94_6] (F94_q1 R) E ds w :=
  TrL_head (K := (F94_k2 R)) (Tr_block' (c := innerC c94_4) (by kernel_rfl) c94_4_l (F94_5_ok R l13 n14 n15 ds w E e13 e14 e15 h))
    (fun E' ds' w' hD => by
      exact F94_1_ok R ds' w' E'  hD)
theorem F94_7_ok (R : Rt) (s0 : ByteArray) (ds : Ds) (w : World) (E : Env) (e0 : E 0 = .string s0) (h : F94_7 R s0 ds w) :
    TrL prog f94.ntmps [c94_0, c94_1, c94_2, c94_3, c94_4, c94_5, c94_6] (F94_q1 R) E ds w :=
  TrL_piece (pre := [c94_0, c94_1, c94_2, c94_3]) (K := (F94_k8 R)) (X := F94_7 R s0 ds w) (setAll_cons e0 setAll_nil) (by kernel_rfl) (by kernel_rfl)
    (fun E' ds' w' hD => by
      obtain ⟨l13, e13, hD⟩ := dSl_elim hD; obtain ⟨n14, e14, hD⟩ := dInt_elim hD; obtain ⟨n15, e15, hD⟩ := dInt_elim hD; exact F94_6_ok R l13 n14 n15 ds' w' E' e13 e14 e15 hD) h
theorem F94_calls (s0 : ByteArray) (w : World) (R : Rt) (h : F94_7 R s0 [] w) : Calls prog 94 #[.string s0] w R :=
  calls_of_L (l := [c94_0, c94_1, c94_2, c94_3, c94_4, c94_5, c94_6]) func94 (by kernel_rfl) (by rw [ntmps94]; exact Nat.le_of_ble_eq_true (by kernel_rfl)) c94_l
    (F94_7_ok R s0 [] w _ rfl h)
noncomputable def c47_0 := cI0 f47 0
def F47_q1 (R : Rt) : EQ := endQ prog f47.results.toList R
def F47_1 (R : Rt) (p0 : Option Addr) (ds : Ds) (w : World) : Prop :=
 ptrE p0 fun a1 =>
 Calls prog 97 #[.pointer (some a1)] w fun e w2 =>
 e = .returned (.tuple #[]) /\
 runD prog ds w2 fun w3 =>
 R (.returned (.tuple #[])) w3
theorem c47_l : flat (bodyOf f47) = [c47_0] := by kernel_rfl
theorem F47_1_ok (R : Rt) (p0 : Option Addr) (ds : Ds) (w : World) (E : Env) (e0 : E 0 = .pointer p0) (h : F47_1 R p0 ds w) :
    TrL prog f47.ntmps [c47_0] (F47_q1 R) E ds w :=
  TrL_leaf (X := F47_1 R p0 ds w) (setAll_cons e0 setAll_nil) (by kernel_rfl) (by kernel_rfl) h
theorem F47_calls (p0 : Option Addr) (w : World) (R : Rt) (h : F47_1 R p0 [] w) : Calls prog 47 #[.pointer p0] w R :=
  calls_of_L (l := [c47_0]) func47 (by kernel_rfl) (by rw [ntmps47]; exact Nat.le_of_ble_eq_true (by kernel_rfl)) c47_l
    (F47_1_ok R p0 [] w _ rfl h)
theorem F47_callsD (p0 : Option Addr) (w : World) (R : Rt) (u : FrameMode) (h : F47_1 R p0 [] w) : CallsD prog 47 #[.pointer p0] u w fun e u' w' => u' = u /\ R e w' :=
  callsD_of_L (l := [c47_0]) func47 (by kernel_rfl) (by rw [ntmps47]; exact Nat.le_of_ble_eq_true (by kernel_rfl)) (by kernel_rfl) c47_l
    (F47_1_ok R p0 [] w _ rfl h) u
noncomputable def c95_0 := cI0 f95 0
noncomputable def c95_1 := cI0 f95 1
noncomputable def c95_2 := cI0 f95 2
noncomputable def c95_3 := cI0 f95 3
noncomputable def c95_4 := cI0 f95 4
noncomputable def c95_5 := cI0 f95 5
noncomputable def c95_6 := cI0 f95 6
noncomputable def c95_7 := cI0 f95 7
noncomputable def c95_8 := cI0 f95 8
noncomputable def c95_6_0 := cJ0 c95_6 0
noncomputable def c95_6_0_0 := cJ0 c95_6_0 0
noncomputable def c95_6_0_1 := cJ0 c95_6_0 1
noncomputable def c95_6_0_2 := cJ0 c95_6_0 2
noncomputable def c95_6_0_3 := cJ0 c95_6_0 3
def F95_q1 (R : Rt) : EQ := endQ prog f95.results.toList R
def F95_1 (R : Rt) (p10 p11 : Option Addr) (ds : Ds) (w : World) : Prop :=
 ptrE p11 fun a1 =>
 ∃ c82 : Array Value, c82.size = 96 /\ (∀ i, i < 96 -> w.cell? (a1.add i) = c82[i]?) /\
 ptrE p10 fun a2 =>
 stA prog 89 a2 c82 w fun w3 =>
 runD prog ds w3 fun w4 =>
 ptrE p10 fun a5 =>
 ∃ cR0 : Array Value, cR0.size = 96 /\ (∀ i, i < 96 -> w4.cell? (a5.add i) = cR0[i]?) /\
 R (.returned (.agg cR0)) w4
def F95_k2 (R : Rt) : EP := (fun E ds w => dPtr (E 10) fun p10 => dPtr (E 11) fun p11 => F95_1 R p10 p11 ds w)
def F95_q3 (R : Rt) : EQ := (thenQ (F95_k2 R) (F95_q1 R))
def F95_q4 (R : Rt) : EQ := (blockQ 0 (F95_q3 R))
def F95_q5 (R : Rt) (J1 : (Int) -> World -> Prop) : EQ := (thenQ (fun E _ w => dInt .i64 (E 40) fun n40 => J1 n40 w) (F95_q4 R))
def F95_2 (R : Rt) (J1 : (Int) -> World -> Prop) (n3 n4 : Int) (p7 p10 p11 : Option Addr) (l13 : SV) (n40 : Int) (ds : Ds) (w : World) : Prop :=
 J1 (IntKind.i64.wrap (n40 + 1)) w
def F95_k6 (R : Rt) (J1 : (Int) -> World -> Prop) : EP := (fun E ds w => dInt .i64 (E 3) fun n3 => dInt .i64 (E 4) fun n4 => dPtr (E 7) fun p7 => dPtr (E 10) fun p10 => dPtr (E 11) fun p11 => dSl (E 13) fun l13 => dInt .i64 (E 40) fun n40 => F95_2 R J1 n3 n4 p7 p10 p11 l13 n40 ds w)
def F95_3 (R : Rt) (J1 : (Int) -> World -> Prop) (n3 n4 : Int) (p7 p10 p11 : Option Addr) (l13 : SV) (n40 : Int) (ds : Ds) (w : World) : Prop :=
 Br (decide (n40 < 32)) (
 ptrE p7 fun a6 =>
 ∃ n44 : Int, w.cell? (a6.add 1) = some (.int .i64 n44) /\
 Br (decide ((IntKind.i64.wrap ((IntKind.i64.wrap (n44 * 32)) + n40)) ≥ n3)) (
 Br (decide ((IntKind.i64.wrap ((IntKind.i64.wrap (n44 * 32)) + n40)) < (IntKind.i64.wrap (n3 + n4)))) (
 Br (decide ((IntKind.i64.wrap ((IntKind.i64.wrap (n44 * 32)) + n40)) < (l13.len : Int))) (
 ptrE p11 fun a7 =>
 0 <= n40 /\ n40 < (32 : Int) /\
 ∃ b68 : Bool, w.cell? ((a7.add 32).add (n40.toNat * 1)) = some (.bool b68) /\
 Br (!b68) (
 dwE w fun w8 =>
 ∃ S1 : World -> Prop, S1 w8 /\
 ∃ a9 : Addr, l13.a = some a9 /\ 0 <= (IntKind.i64.wrap ((IntKind.i64.wrap (n44 * 32)) + n40)) /\ (IntKind.i64.wrap ((IntKind.i64.wrap (n44 * 32)) + n40)) < (l13.len : Int) /\
 ∃ n76 : Int, (∀ w', S1 w' -> w'.cell? (a9.add ((IntKind.i64.wrap ((IntKind.i64.wrap (n44 * 32)) + n40)).toNat * 1)) = some (.int .u8 n76)) /\
 ptrE p11 fun a10 =>
 0 <= n40 /\ n40 < (32 : Int) /\
 ptrE p11 fun a11 =>
 st1 ((a10.add 32).add (n40.toNat * 1)) (.bool true) w8 fun w12 =>
 S1 w12 /\
 0 <= n40 /\ n40 < (32 : Int) /\
 st1 (a11.add (n40.toNat * 1)) (.int .u8 n76) w12 fun w13 =>
 F95_2 R J1 n3 n4 p7 p10 p11 l13 n40 ds w13) (
 F95_2 R J1 n3 n4 p7 p10 p11 l13 n40 ds w)) (
 F95_2 R J1 n3 n4 p7 p10 p11 l13 n40 ds w)) (
 F95_2 R J1 n3 n4 p7 p10 p11 l13 n40 ds w)) (
 F95_2 R J1 n3 n4 p7 p10 p11 l13 n40 ds w)) (
 F95_1 R p10 p11 ds w)
def F95_4 (R : Rt) (n3 n4 : Int) (p7 p10 p11 : Option Addr) (l13 : SV) (n40 : Int) (ds : Ds) (w : World) : Prop :=
 loopT (fun (J1 : (Int) -> World -> Prop) (s : Int) (w : World) => F95_3 R J1 n3 n4 p7 p10 p11 l13 s ds w) n40 w
abbrev F95_5 (R : Rt) (n3 n4 : Int) (p7 p10 p11 : Option Addr) (l13 : SV) (n40 : Int) (ds : Ds) (w : World) : Prop := F95_4 R n3 n4 p7 p10 p11 l13 n40 ds w
def F95_k7 (R : Rt) : EP := (fun E ds w => dInt .i64 (E 3) fun n3 => dInt .i64 (E 4) fun n4 => dPtr (E 7) fun p7 => dPtr (E 10) fun p10 => dPtr (E 11) fun p11 => dSl (E 13) fun l13 => dInt .i64 (E 40) fun n40 => F95_5 R n3 n4 p7 p10 p11 l13 n40 ds w)
def F95_6 (R : Rt) (p0 : Option Addr) (n1 : Int) (s2_0 : ByteArray) (n2_1 n3 n4 : Int) (ds : Ds) (w : World) : Prop :=
 alE (.cells #[.string s2_0, .int .i64 n2_1] 92) w fun r7 w14 =>
 alE (.cells (zc prog 89) 89) w14 fun r10 w15 =>
 dwE w15 fun w16 =>
 ∃ S2 : World -> Prop, S2 w16 /\
 ptrE p0 fun a17 =>
 0 <= n1 /\ n1 < (4 : Int) /\
 ∃ m22 : Option Nat, (∀ w', S2 w' -> w'.cell? ((a17.add 3).add (n1.toNat * 1)) = some (.map m22)) /\
 ∃ s23_0 : ByteArray, (∀ w', S2 w' -> w'.cell? ((⟨r7, 0, none⟩ : Addr).add 0) = some (.string s23_0)) /\
 ∃ n23_1 : Int, (∀ w', S2 w' -> w'.cell? ((⟨r7, 0, none⟩ : Addr).add 1) = some (.int .i64 n23_1)) /\
 ∃ c24_0 : Array Value, c24_0.size = 96 /\ ∃ b24_1 : Bool, (∀ w', S2 w' -> (Instr.lookup 63 (.map m22) (.agg #[.string s23_0, .int .i64 n23_1]) true).run prog w' = .ok (.tuple #[.agg c24_0, .bool b24_1]) w') /\
 alE (.cells (zc prog 89) 89) w16 fun r11 w18 =>
 S2 w18 /\
 stA prog 89 (⟨r11, 0, none⟩ : Addr) c24_0 w18 fun w19 =>
 Br (!b24_1) (
 ∃ s31_0 : ByteArray, w19.cell? ((⟨r7, 0, none⟩ : Addr).add 0) = some (.string s31_0) /\
 ∃ n31_1 : Int, w19.cell? ((⟨r7, 0, none⟩ : Addr).add 1) = some (.int .i64 n31_1) /\
 Calls prog 113 #[.pointer p0, .int .i64 n1, .agg #[.string s31_0, .int .i64 n31_1]] w19 fun e w20 =>
 ∃ c32 : Array Value, c32.size = 96 /\ e = .returned (.agg c32) /\
 stA prog 89 (⟨r10, 0, none⟩ : Addr) c32 w20 fun w21 =>
 runD prog ds w21 fun w22 =>
 ∃ cR0 : Array Value, cR0.size = 96 /\ (∀ i, i < 96 -> w22.cell? ((⟨r10, 0, none⟩ : Addr).add i) = cR0[i]?) /\
 R (.returned (.agg cR0)) w22) (
 dwE w19 fun w23 =>
 ptrE p0 fun a24 =>
 ∃ m36 : Option Nat, w23.cell? (a24.add 2) = some (.map m36) /\
 ∃ s38 : ByteArray, w23.cell? (⟨r7, 0, none⟩ : Addr) = some (.string s38) /\
 ∃ l39 : SV, (Instr.lookup 55 (.map m36) (.string s38) false).run prog w23 = .ok (.slice l39.a l39.len l39.cap) w23 /\
 F95_5 R n3 n4 (some (⟨r7, 0, none⟩ : Addr)) (some (⟨r10, 0, none⟩ : Addr)) (some (⟨r11, 0, none⟩ : Addr)) l39 0 ds w23)
theorem c95_l : flat (bodyOf f95) = [c95_0, c95_1, c95_2, c95_3, c95_4, c95_5, c95_6, c95_7, c95_8] := by kernel_rfl
theorem c95_6_l : flat (innerC c95_6) = [c95_6_0] := by kernel_rfl
theorem c95_6_0_l : flat (innerC c95_6_0) = [c95_6_0_0, c95_6_0_1, c95_6_0_2, c95_6_0_3] := by kernel_rfl
theorem F95_1_ok (R : Rt) (p10 p11 : Option Addr) (ds : Ds) (w : World) (E : Env) (e10 : E 10 = .pointer p10) (e11 : E 11 = .pointer p11) (h : F95_1 R p10 p11 ds w) :
    TrL prog f95.ntmps [c95_7, c95_8] (F95_q1 R) E ds w :=
  TrL_leaf (X := F95_1 R p10 p11 ds w) (setAll_cons e10 (setAll_cons e11 setAll_nil)) (by kernel_rfl) (by kernel_rfl) h
theorem F95_2_ok (R : Rt) (J1 : (Int) -> World -> Prop) (n3 n4 : Int) (p7 p10 p11 : Option Addr) (l13 : SV) (n40 : Int) (ds : Ds) (w : World) (E : Env) (e3 : E 3 = .int .i64 n3) (e4 : E 4 = .int .i64 n4) (e7 : E 7 = .pointer p7) (e10 : E 10 = .pointer p10) (e11 : E 11 = .pointer p11) (e13 : E 13 = .slice l13.a l13.len l13.cap) (e40 : E 40 = .int .i64 n40) (h : F95_2 R J1 n3 n4 p7 p10 p11 l13 n40 ds w) :
    TrL prog f95.ntmps [c95_6_0_3] (F95_q5 R J1) E ds w :=
  TrL_leaf (X := F95_2 R J1 n3 n4 p7 p10 p11 l13 n40 ds w) (setAll_cons e3 (setAll_cons e4 (setAll_cons e7 (setAll_cons e10 (setAll_cons e11 (setAll_cons e13 (setAll_cons e40 setAll_nil))))))) (by kernel_rfl) (by kernel_rfl) h
theorem F95_3_ok (R : Rt) (J1 : (Int) -> World -> Prop) (n3 n4 : Int) (p7 p10 p11 : Option Addr) (l13 : SV) (n40 : Int) (ds : Ds) (w : World) (E : Env) (e3 : E 3 = .int .i64 n3) (e4 : E 4 = .int .i64 n4) (e7 : E 7 = .pointer p7) (e10 : E 10 = .pointer p10) (e11 : E 11 = .pointer p11) (e13 : E 13 = .slice l13.a l13.len l13.cap) (e40 : E 40 = .int .i64 n40) (h : F95_3 R J1 n3 n4 p7 p10 p11 l13 n40 ds w) :
    TrL prog f95.ntmps [c95_6_0_0, c95_6_0_1, c95_6_0_2, c95_6_0_3] (F95_q5 R J1) E ds w :=
  TrL_piece (pre := [c95_6_0_0, c95_6_0_1, c95_6_0_2]) (K := (F95_k6 R J1)) (X := F95_3 R J1 n3 n4 p7 p10 p11 l13 n40 ds w) (setAll_cons e3 (setAll_cons e4 (setAll_cons e7 (setAll_cons e10 (setAll_cons e11 (setAll_cons e13 (setAll_cons e40 setAll_nil))))))) (by kernel_rfl) (by kernel_rfl)
    (fun E' ds' w' hD => by
      obtain ⟨n3, e3, hD⟩ := dInt_elim hD; obtain ⟨n4, e4, hD⟩ := dInt_elim hD; obtain ⟨p7, e7, hD⟩ := dPtr_elim hD; obtain ⟨p10, e10, hD⟩ := dPtr_elim hD; obtain ⟨p11, e11, hD⟩ := dPtr_elim hD; obtain ⟨l13, e13, hD⟩ := dSl_elim hD; obtain ⟨n40, e40, hD⟩ := dInt_elim hD; exact F95_2_ok R J1 n3 n4 p7 p10 p11 l13 n40 ds' w' E' e3 e4 e7 e10 e11 e13 e40 hD) h
theorem F95_4_ok (R : Rt) (n3 n4 : Int) (p7 p10 p11 : Option Addr) (l13 : SV) (n40 : Int) (ds : Ds) (w : World) (E : Env) (e3 : E 3 = .int .i64 n3) (e4 : E 4 = .int .i64 n4) (e7 : E 7 = .pointer p7) (e10 : E 10 = .pointer p10) (e11 : E 11 = .pointer p11) (e13 : E 13 = .slice l13.a l13.len l13.cap) (e40 : E 40 = .int .i64 n40) (h : F95_4 R n3 n4 p7 p10 p11 l13 n40 ds w) :
    TrL prog f95.ntmps [c95_6_0] (F95_q4 R) E ds w :=
  TrL_one (Tr_loop' (c := innerC c95_6_0) (σ := Int) (enc := (fun (s : Int) (E : Env) => E 40 = .int .i64 s)) (D := (fun E K => dInt .i64 (E 40) fun n40 => K n40)) (F := (fun (J1 : (Int) -> World -> Prop) (s : Int) (w : World) => F95_3 R J1 n3 n4 p7 p10 p11 l13 s ds w)) (s0 := n40) (by kernel_rfl) c95_6_0_l e40 (by kernel_rfl) (fun E K hD => by obtain ⟨n40, e40, hD⟩ := dInt_elim hD; exact ⟨n40, e40, hD⟩)
      (fun J1 s E' w' he ha hF => by
      have e40' := he
      exact F95_3_ok R J1 n3 n4 p7 p10 p11 l13 s ds w' E' ((ha 3 (by kernel_rfl)).trans e3) ((ha 4 (by kernel_rfl)).trans e4) ((ha 7 (by kernel_rfl)).trans e7) ((ha 10 (by kernel_rfl)).trans e10) ((ha 11 (by kernel_rfl)).trans e11) ((ha 13 (by kernel_rfl)).trans e13) e40' hF) h)
theorem F95_5_ok (R : Rt) (n3 n4 : Int) (p7 p10 p11 : Option Addr) (l13 : SV) (n40 : Int) (ds : Ds) (w : World) (E : Env) (e3 : E 3 = .int .i64 n3) (e4 : E 4 = .int .i64 n4) (e7 : E 7 = .pointer p7) (e10 : E 10 = .pointer p10) (e11 : E 11 = .pointer p11) (e13 : E 13 = .slice l13.a l13.len l13.cap) (e40 : E 40 = .int .i64 n40) (h : F95_5 R n3 n4 p7 p10 p11 l13 n40 ds w) :
    TrL prog f95.ntmps [c95_6, c95_7, c95_8] (F95_q1 R) E ds w :=
  TrL_head (K := (F95_k2 R)) (Tr_block' (c := innerC c95_6) (by kernel_rfl) c95_6_l (F95_4_ok R n3 n4 p7 p10 p11 l13 n40 ds w E e3 e4 e7 e10 e11 e13 e40 h))
    (fun E' ds' w' hD => by
      obtain ⟨p10, e10, hD⟩ := dPtr_elim hD; obtain ⟨p11, e11, hD⟩ := dPtr_elim hD; exact F95_1_ok R p10 p11 ds' w' E' e10 e11 hD)
theorem F95_6_ok (R : Rt) (p0 : Option Addr) (n1 : Int) (s2_0 : ByteArray) (n2_1 n3 n4 : Int) (ds : Ds) (w : World) (E : Env) (e0 : E 0 = .pointer p0) (e1 : E 1 = .int .i64 n1) (e2 : E 2 = .agg #[.string s2_0, .int .i64 n2_1]) (e3 : E 3 = .int .i64 n3) (e4 : E 4 = .int .i64 n4) (h : F95_6 R p0 n1 s2_0 n2_1 n3 n4 ds w) :
    TrL prog f95.ntmps [c95_0, c95_1, c95_2, c95_3, c95_4, c95_5, c95_6, c95_7, c95_8] (F95_q1 R) E ds w :=
  TrL_piece (pre := [c95_0, c95_1, c95_2, c95_3, c95_4, c95_5]) (K := (F95_k7 R)) (X := F95_6 R p0 n1 s2_0 n2_1 n3 n4 ds w) (setAll_cons e0 (setAll_cons e1 (setAll_cons e2 (setAll_cons e3 (setAll_cons e4 setAll_nil))))) (by kernel_rfl) (by kernel_rfl)
    (fun E' ds' w' hD => by
      obtain ⟨n3, e3, hD⟩ := dInt_elim hD; obtain ⟨n4, e4, hD⟩ := dInt_elim hD; obtain ⟨p7, e7, hD⟩ := dPtr_elim hD; obtain ⟨p10, e10, hD⟩ := dPtr_elim hD; obtain ⟨p11, e11, hD⟩ := dPtr_elim hD; obtain ⟨l13, e13, hD⟩ := dSl_elim hD; obtain ⟨n40, e40, hD⟩ := dInt_elim hD; exact F95_5_ok R n3 n4 p7 p10 p11 l13 n40 ds' w' E' e3 e4 e7 e10 e11 e13 e40 hD) h
theorem F95_calls (p0 : Option Addr) (n1 : Int) (s2_0 : ByteArray) (n2_1 n3 n4 : Int) (w : World) (R : Rt) (h : F95_6 R p0 n1 s2_0 n2_1 n3 n4 [] w) : Calls prog 95 #[.pointer p0, .int .i64 n1, .agg #[.string s2_0, .int .i64 n2_1], .int .i64 n3, .int .i64 n4] w R :=
  calls_of_L (l := [c95_0, c95_1, c95_2, c95_3, c95_4, c95_5, c95_6, c95_7, c95_8]) func95 (by kernel_rfl) (by rw [ntmps95]; exact Nat.le_of_ble_eq_true (by kernel_rfl)) c95_l
    (F95_6_ok R p0 n1 s2_0 n2_1 n3 n4 [] w _ rfl rfl rfl rfl rfl h)
noncomputable def c98_0 := cI0 f98 0
noncomputable def c98_1 := cI0 f98 1
noncomputable def c98_2 := cI0 f98 2
noncomputable def c98_3 := cI0 f98 3
noncomputable def c98_4 := cI0 f98 4
noncomputable def c98_2_0 := cJ0 c98_2 0
noncomputable def c98_2_0_0 := cJ0 c98_2_0 0
noncomputable def c98_2_0_1 := cJ0 c98_2_0 1
noncomputable def c98_2_0_2 := cJ0 c98_2_0 2
noncomputable def c98_2_0_3 := cJ0 c98_2_0 3
def F98_q1 (R : Rt) : EQ := endQ prog f98.results.toList R
def F98_1 (R : Rt) (ds : Ds) (w : World) : Prop :=
 runD prog ds w fun w1 =>
 R (.returned (.int .i64 (-1))) w1
def F98_k2 (R : Rt) : EP := (fun E ds w => F98_1 R ds w)
def F98_q3 (R : Rt) : EQ := (thenQ (F98_k2 R) (F98_q1 R))
def F98_q4 (R : Rt) : EQ := (blockQ 0 (F98_q3 R))
def F98_q5 (R : Rt) (J1 : (Int) -> World -> Prop) : EQ := (thenQ (fun E _ w => dInt .i64 (E 8) fun n8 => J1 n8 w) (F98_q4 R))
def F98_2 (R : Rt) (J1 : (Int) -> World -> Prop) (l0 : SV) (v1 : Value) (n7 n8 : Int) (ds : Ds) (w : World) : Prop :=
 Br (decide (n8 < n7)) (
 ∃ a2 : Addr, l0.a = some a2 /\ 0 <= n8 /\ n8 < (l0.len : Int) /\
 ∃ n15_0 : Int, w.cell? ((a2.add (n8.toNat * 4)).add 0) = some (.int .i64 n15_0) /\
 ∃ s15_1 : ByteArray, w.cell? ((a2.add (n8.toNat * 4)).add 1) = some (.string s15_1) /\
 ∃ n15_2 : Int, w.cell? ((a2.add (n8.toNat * 4)).add 2) = some (.int .i64 n15_2) /\
 ∃ n15_3 : Int, w.cell? ((a2.add (n8.toNat * 4)).add 3) = some (.int .i64 n15_3) /\
 fnE v1 fun f16 first16 cap16 =>
 hasBody prog f16 = true /\ Calls prog f16 (first16.toList ++ (([.agg #[.int .i64 n15_0, .string s15_1, .int .i64 n15_2, .int .i64 n15_3]] : List Value) ++ cap16.toList)).toArray w fun e w3 =>
 ∃ b16 : Bool, e = .returned (.bool b16) /\
 Br b16 (
 runD prog ds w3 fun w4 =>
 R (.returned (.int .i64 n8)) w4) (
 J1 (IntKind.i64.wrap (n8 + 1)) w3)) (
 F98_1 R ds w)
def F98_3 (R : Rt) (l0 : SV) (v1 : Value) (n7 n8 : Int) (ds : Ds) (w : World) : Prop :=
 loopT (fun (J1 : (Int) -> World -> Prop) (s : Int) (w : World) => F98_2 R J1 l0 v1 n7 s ds w) n8 w
abbrev F98_4 (R : Rt) (l0 : SV) (v1 : Value) (n7 n8 : Int) (ds : Ds) (w : World) : Prop := F98_3 R l0 v1 n7 n8 ds w
def F98_k6 (R : Rt) : EP := (fun E ds w => dSl (E 0) fun l0 => dInt .i64 (E 7) fun n7 => dInt .i64 (E 8) fun n8 => F98_4 R l0 (E 1) n7 n8 ds w)
def F98_5 (R : Rt) (l0 : SV) (v1 : Value) (ds : Ds) (w : World) : Prop :=
 F98_4 R l0 (v1) (l0.len : Int) 0 ds w
theorem c98_l : flat (bodyOf f98) = [c98_0, c98_1, c98_2, c98_3, c98_4] := by kernel_rfl
theorem c98_2_l : flat (innerC c98_2) = [c98_2_0] := by kernel_rfl
theorem c98_2_0_l : flat (innerC c98_2_0) = [c98_2_0_0, c98_2_0_1, c98_2_0_2, c98_2_0_3] := by kernel_rfl
theorem F98_1_ok (R : Rt) (ds : Ds) (w : World) (E : Env) (h : F98_1 R ds w) :
    TrL prog f98.ntmps [c98_3, c98_4] (F98_q1 R) E ds w :=
  TrL_leaf (X := F98_1 R ds w) setAll_nil (by kernel_rfl) (by kernel_rfl) h
theorem F98_2_ok (R : Rt) (J1 : (Int) -> World -> Prop) (l0 : SV) (v1 : Value) (n7 n8 : Int) (ds : Ds) (w : World) (E : Env) (e0 : E 0 = .slice l0.a l0.len l0.cap) (e1 : E 1 = v1) (e7 : E 7 = .int .i64 n7) (e8 : E 8 = .int .i64 n8) (h : F98_2 R J1 l0 v1 n7 n8 ds w) :
    TrL prog f98.ntmps [c98_2_0_0, c98_2_0_1, c98_2_0_2, c98_2_0_3] (F98_q5 R J1) E ds w :=
  TrL_leaf (X := F98_2 R J1 l0 v1 n7 n8 ds w) (setAll_cons e0 (setAll_cons e1 (setAll_cons e7 (setAll_cons e8 setAll_nil)))) (by kernel_rfl) (by kernel_rfl) h
theorem F98_3_ok (R : Rt) (l0 : SV) (v1 : Value) (n7 n8 : Int) (ds : Ds) (w : World) (E : Env) (e0 : E 0 = .slice l0.a l0.len l0.cap) (e1 : E 1 = v1) (e7 : E 7 = .int .i64 n7) (e8 : E 8 = .int .i64 n8) (h : F98_3 R l0 v1 n7 n8 ds w) :
    TrL prog f98.ntmps [c98_2_0] (F98_q4 R) E ds w :=
  TrL_one (Tr_loop' (c := innerC c98_2_0) (σ := Int) (enc := (fun (s : Int) (E : Env) => E 8 = .int .i64 s)) (D := (fun E K => dInt .i64 (E 8) fun n8 => K n8)) (F := (fun (J1 : (Int) -> World -> Prop) (s : Int) (w : World) => F98_2 R J1 l0 v1 n7 s ds w)) (s0 := n8) (by kernel_rfl) c98_2_0_l e8 (by kernel_rfl) (fun E K hD => by obtain ⟨n8, e8, hD⟩ := dInt_elim hD; exact ⟨n8, e8, hD⟩)
      (fun J1 s E' w' he ha hF => by
      have e8' := he
      exact F98_2_ok R J1 l0 v1 n7 s ds w' E' ((ha 0 (by kernel_rfl)).trans e0) ((ha 1 (by kernel_rfl)).trans e1) ((ha 7 (by kernel_rfl)).trans e7) e8' hF) h)
theorem F98_4_ok (R : Rt) (l0 : SV) (v1 : Value) (n7 n8 : Int) (ds : Ds) (w : World) (E : Env) (e0 : E 0 = .slice l0.a l0.len l0.cap) (e1 : E 1 = v1) (e7 : E 7 = .int .i64 n7) (e8 : E 8 = .int .i64 n8) (h : F98_4 R l0 v1 n7 n8 ds w) :
    TrL prog f98.ntmps [c98_2, c98_3, c98_4] (F98_q1 R) E ds w :=
  TrL_head (K := (F98_k2 R)) (Tr_block' (c := innerC c98_2) (by kernel_rfl) c98_2_l (F98_3_ok R l0 v1 n7 n8 ds w E e0 e1 e7 e8 h))
    (fun E' ds' w' hD => by
      exact F98_1_ok R ds' w' E'  hD)
theorem F98_5_ok (R : Rt) (l0 : SV) (v1 : Value) (ds : Ds) (w : World) (E : Env) (e0 : E 0 = .slice l0.a l0.len l0.cap) (e1 : E 1 = v1) (h : F98_5 R l0 v1 ds w) :
    TrL prog f98.ntmps [c98_0, c98_1, c98_2, c98_3, c98_4] (F98_q1 R) E ds w :=
  TrL_piece (pre := [c98_0, c98_1]) (K := (F98_k6 R)) (X := F98_5 R l0 v1 ds w) (setAll_cons e0 (setAll_cons e1 setAll_nil)) (by kernel_rfl) (by kernel_rfl)
    (fun E' ds' w' hD => by
      obtain ⟨l0, e0, hD⟩ := dSl_elim hD; obtain ⟨n7, e7, hD⟩ := dInt_elim hD; obtain ⟨n8, e8, hD⟩ := dInt_elim hD; exact F98_4_ok R l0 (E' 1) n7 n8 ds' w' E' e0 rfl e7 e8 hD) h
theorem F98_calls (l0 : SV) (v1 : Value) (w : World) (R : Rt) (h : F98_5 R l0 v1 [] w) : Calls prog 98 #[.slice l0.a l0.len l0.cap, v1] w R :=
  calls_of_L (l := [c98_0, c98_1, c98_2, c98_3, c98_4]) func98 (by kernel_rfl) (by rw [ntmps98]; exact Nat.le_of_ble_eq_true (by kernel_rfl)) c98_l
    (F98_5_ok R l0 v1 [] w _ rfl rfl h)
noncomputable def c96_0 := cI0 f96 0
noncomputable def c96_1 := cI0 f96 1
noncomputable def c96_2 := cI0 f96 2
noncomputable def c96_3 := cI0 f96 3
def F96_q1 (R : Rt) : EQ := endQ prog f96.results.toList R
def F96_1 (R : Rt) (p0 : Option Addr) (ds : Ds) (w : World) : Prop :=
 ∃ w1 : World, (callFunc 114 #[]).run prog w = .ok (.value (.tuple #[])) w1 /\
 ptrE p0 fun a2 =>
 ∃ b6 : Bool, ∃ w3 : World, (callFunc 115 #[.pointer (some a2), .int .i32 0, .int .i32 1]).run prog w1 = .ok (.value (.bool b6)) w3 /\
 Br b6 (
 ∃ w4 : World, (callFunc 116 #[]).run prog w3 = .ok (.value (.tuple #[])) w4 /\
 ∃ v9 : Value, ∃ w5 : World, (convert 156 160 (.pointer p0)).run prog w4 = .ok (v9) w5 /\
 ∃ w6 : World, (callFunc 117 #[v9]).run prog w5 = .ok (.value (.tuple #[])) w6 /\
 runD prog ds w6 fun w7 =>
 R (.returned (.tuple #[])) w7) (
 Calls prog 118 #[.pointer p0] w3 fun e w8 =>
 e = .returned (.tuple #[]) /\
 runD prog ds w8 fun w9 =>
 R (.returned (.tuple #[])) w9)
theorem c96_l : flat (bodyOf f96) = [c96_0, c96_1, c96_2, c96_3] := by kernel_rfl
theorem F96_1_ok (R : Rt) (p0 : Option Addr) (ds : Ds) (w : World) (E : Env) (e0 : E 0 = .pointer p0) (h : F96_1 R p0 ds w) :
    TrL prog f96.ntmps [c96_0, c96_1, c96_2, c96_3] (F96_q1 R) E ds w :=
  TrL_leaf (X := F96_1 R p0 ds w) (setAll_cons e0 setAll_nil) (by kernel_rfl) (by kernel_rfl) h
theorem F96_calls (p0 : Option Addr) (w : World) (R : Rt) (h : F96_1 R p0 [] w) : Calls prog 96 #[.pointer p0] w R :=
  calls_of_L (l := [c96_0, c96_1, c96_2, c96_3]) func96 (by kernel_rfl) (by rw [ntmps96]; exact Nat.le_of_ble_eq_true (by kernel_rfl)) c96_l
    (F96_1_ok R p0 [] w _ rfl h)
noncomputable def c97_0 := cI0 f97 0
noncomputable def c97_1 := cI0 f97 1
noncomputable def c97_2 := cI0 f97 2
noncomputable def c97_3 := cI0 f97 3
noncomputable def c97_4 := cI0 f97 4
def F97_q1 (R : Rt) : EQ := endQ prog f97.results.toList R
def F97_1 (R : Rt) (p0 : Option Addr) (ds : Ds) (w : World) : Prop :=
 ptrE p0 fun a1 =>
 ∃ n6 : Int, w.cell? a1 = some (.int .i32 n6) /\
 ∃ v8 : Value, ∃ w2 : World, (convert 156 160 (.pointer p0)).run prog w = .ok (v8) w2 /\
 ∃ w3 : World, (callFunc 119 #[v8]).run prog w2 = .ok (.value (.tuple #[])) w3 /\
 ∃ w4 : World, (callFunc 114 #[]).run prog w3 = .ok (.value (.tuple #[])) w4 /\
 ptrE p0 fun a5 =>
 ∃ n14 : Int, ∃ w6 : World, (callFunc 120 #[.pointer (some a5), .int .i32 (-1)]).run prog w4 = .ok (.value (.int .i32 n14)) w6 /\
 Br (n14 != 0) (
 Calls prog 121 #[.pointer p0, .int .i32 n14] w6 fun e w7 =>
 e = .returned (.tuple #[]) /\
 ∃ w8 : World, (callFunc 116 #[]).run prog w7 = .ok (.value (.tuple #[])) w8 /\
 runD prog ds w8 fun w9 =>
 R (.returned (.tuple #[])) w9) (
 ∃ w10 : World, (callFunc 116 #[]).run prog w6 = .ok (.value (.tuple #[])) w10 /\
 runD prog ds w10 fun w11 =>
 R (.returned (.tuple #[])) w11)
theorem c97_l : flat (bodyOf f97) = [c97_0, c97_1, c97_2, c97_3, c97_4] := by kernel_rfl
theorem F97_1_ok (R : Rt) (p0 : Option Addr) (ds : Ds) (w : World) (E : Env) (e0 : E 0 = .pointer p0) (h : F97_1 R p0 ds w) :
    TrL prog f97.ntmps [c97_0, c97_1, c97_2, c97_3, c97_4] (F97_q1 R) E ds w :=
  TrL_leaf (X := F97_1 R p0 ds w) (setAll_cons e0 setAll_nil) (by kernel_rfl) (by kernel_rfl) h
theorem F97_calls (p0 : Option Addr) (w : World) (R : Rt) (h : F97_1 R p0 [] w) : Calls prog 97 #[.pointer p0] w R :=
  calls_of_L (l := [c97_0, c97_1, c97_2, c97_3, c97_4]) func97 (by kernel_rfl) (by rw [ntmps97]; exact Nat.le_of_ble_eq_true (by kernel_rfl)) c97_l
    (F97_1_ok R p0 [] w _ rfl h)
noncomputable def c113_0 := cI0 f113 0
noncomputable def c113_1 := cI0 f113 1
noncomputable def c113_2 := cI0 f113 2
noncomputable def c113_3 := cI0 f113 3
noncomputable def c113_4 := cI0 f113 4
noncomputable def c113_5 := cI0 f113 5
noncomputable def c113_6 := cI0 f113 6
noncomputable def c113_4_0 := cJ0 c113_4 0
noncomputable def c113_4_0_0 := cJ0 c113_4_0 0
noncomputable def c113_4_0_1 := cJ0 c113_4_0 1
noncomputable def c113_4_0_2 := cJ0 c113_4_0 2
noncomputable def c113_4_0_3 := cJ0 c113_4_0 3
def F113_q1 (R : Rt) : EQ := endQ prog f113.results.toList R
def F113_1 (R : Rt) (p6 p7 : Option Addr) (ds : Ds) (w : World) : Prop :=
 ptrE p7 fun a1 =>
 ∃ c58 : Array Value, c58.size = 96 /\ (∀ i, i < 96 -> w.cell? (a1.add i) = c58[i]?) /\
 ptrE p6 fun a2 =>
 stA prog 89 a2 c58 w fun w3 =>
 runD prog ds w3 fun w4 =>
 ptrE p6 fun a5 =>
 ∃ cR0 : Array Value, cR0.size = 96 /\ (∀ i, i < 96 -> w4.cell? (a5.add i) = cR0[i]?) /\
 R (.returned (.agg cR0)) w4
def F113_k2 (R : Rt) : EP := (fun E ds w => dPtr (E 6) fun p6 => dPtr (E 7) fun p7 => F113_1 R p6 p7 ds w)
def F113_q3 (R : Rt) : EQ := (thenQ (F113_k2 R) (F113_q1 R))
def F113_q4 (R : Rt) : EQ := (blockQ 0 (F113_q3 R))
def F113_q5 (R : Rt) (J1 : (Int) -> World -> Prop) : EQ := (thenQ (fun E _ w => dInt .i64 (E 9) fun n9 => J1 n9 w) (F113_q4 R))
def F113_2 (R : Rt) (J1 : (Int) -> World -> Prop) (p5 p6 p7 : Option Addr) (l8 : SV) (n9 : Int) (ds : Ds) (w : World) : Prop :=
 Br (decide (n9 < 32)) (
 ptrE p5 fun a6 =>
 ∃ n29 : Int, w.cell? (a6.add 1) = some (.int .i64 n29) /\
 Br (decide ((IntKind.i64.wrap ((IntKind.i64.wrap (n29 * 32)) + n9)) < (l8.len : Int))) (
 ptrE p7 fun a7 =>
 0 <= n9 /\ n9 < (32 : Int) /\
 ∃ b42 : Bool, w.cell? ((a7.add 32).add (n9.toNat * 1)) = some (.bool b42) /\
 Br (!b42) (
 dwE w fun w8 =>
 ∃ S1 : World -> Prop, S1 w8 /\
 ptrE p5 fun a9 =>
 ∃ n48 : Int, (∀ w', S1 w' -> w'.cell? (a9.add 1) = some (.int .i64 n48)) /\
 ∃ a10 : Addr, l8.a = some a10 /\ 0 <= (IntKind.i64.wrap ((IntKind.i64.wrap (n48 * 32)) + n9)) /\ (IntKind.i64.wrap ((IntKind.i64.wrap (n48 * 32)) + n9)) < (l8.len : Int) /\
 ∃ n53 : Int, (∀ w', S1 w' -> w'.cell? (a10.add ((IntKind.i64.wrap ((IntKind.i64.wrap (n48 * 32)) + n9)).toNat * 1)) = some (.int .u8 n53)) /\
 ptrE p7 fun a11 =>
 0 <= n9 /\ n9 < (32 : Int) /\
 ptrE p7 fun a12 =>
 st1 ((a11.add 32).add (n9.toNat * 1)) (.bool true) w8 fun w13 =>
 S1 w13 /\
 0 <= n9 /\ n9 < (32 : Int) /\
 st1 (a12.add (n9.toNat * 1)) (.int .u8 n53) w13 fun w14 =>
 J1 (IntKind.i64.wrap (n9 + 1)) w14) (
 J1 (IntKind.i64.wrap (n9 + 1)) w)) (
 F113_1 R p6 p7 ds w)) (
 F113_1 R p6 p7 ds w)
def F113_3 (R : Rt) (p5 p6 p7 : Option Addr) (l8 : SV) (n9 : Int) (ds : Ds) (w : World) : Prop :=
 loopT (fun (J1 : (Int) -> World -> Prop) (s : Int) (w : World) => F113_2 R J1 p5 p6 p7 l8 s ds w) n9 w
abbrev F113_4 (R : Rt) (p5 p6 p7 : Option Addr) (l8 : SV) (n9 : Int) (ds : Ds) (w : World) : Prop := F113_3 R p5 p6 p7 l8 n9 ds w
def F113_k6 (R : Rt) : EP := (fun E ds w => dPtr (E 5) fun p5 => dPtr (E 6) fun p6 => dPtr (E 7) fun p7 => dSl (E 8) fun l8 => dInt .i64 (E 9) fun n9 => F113_4 R p5 p6 p7 l8 n9 ds w)
def F113_5 (R : Rt) (p0 : Option Addr) (n1 : Int) (s2_0 : ByteArray) (n2_1 : Int) (ds : Ds) (w : World) : Prop :=
 alE (.cells #[.string s2_0, .int .i64 n2_1] 92) w fun r5 w15 =>
 alE (.cells (zc prog 89) 89) w15 fun r6 w16 =>
 dwE w16 fun w17 =>
 ∃ S2 : World -> Prop, S2 w17 /\
 ptrE p0 fun a18 =>
 0 <= n1 /\ n1 < (4 : Int) /\
 ∃ m15 : Option Nat, (∀ w', S2 w' -> w'.cell? ((a18.add 3).add (n1.toNat * 1)) = some (.map m15)) /\
 ∃ s16_0 : ByteArray, (∀ w', S2 w' -> w'.cell? ((⟨r5, 0, none⟩ : Addr).add 0) = some (.string s16_0)) /\
 ∃ n16_1 : Int, (∀ w', S2 w' -> w'.cell? ((⟨r5, 0, none⟩ : Addr).add 1) = some (.int .i64 n16_1)) /\
 ∃ c17 : Array Value, c17.size = 96 /\ (∀ w', S2 w' -> (Instr.lookup 63 (.map m15) (.agg #[.string s16_0, .int .i64 n16_1]) false).run prog w' = .ok (.agg c17) w') /\
 alE (.cells (zc prog 89) 89) w17 fun r7 w19 =>
 S2 w19 /\
 stA prog 89 (⟨r7, 0, none⟩ : Addr) c17 w19 fun w20 =>
 dwE w20 fun w21 =>
 ptrE p0 fun a22 =>
 ∃ m21 : Option Nat, w21.cell? (a22.add 2) = some (.map m21) /\
 ∃ s23 : ByteArray, w21.cell? (⟨r5, 0, none⟩ : Addr) = some (.string s23) /\
 ∃ l24 : SV, (Instr.lookup 55 (.map m21) (.string s23) false).run prog w21 = .ok (.slice l24.a l24.len l24.cap) w21 /\
 F113_4 R (some (⟨r5, 0, none⟩ : Addr)) (some (⟨r6, 0, none⟩ : Addr)) (some (⟨r7, 0, none⟩ : Addr)) l24 0 ds w21
theorem c113_l : flat (bodyOf f113) = [c113_0, c113_1, c113_2, c113_3, c113_4, c113_5, c113_6] := by kernel_rfl
theorem c113_4_l : flat (innerC c113_4) = [c113_4_0] := by kernel_rfl
theorem c113_4_0_l : flat (innerC c113_4_0) = [c113_4_0_0, c113_4_0_1, c113_4_0_2, c113_4_0_3] := by kernel_rfl
theorem F113_1_ok (R : Rt) (p6 p7 : Option Addr) (ds : Ds) (w : World) (E : Env) (e6 : E 6 = .pointer p6) (e7 : E 7 = .pointer p7) (h : F113_1 R p6 p7 ds w) :
    TrL prog f113.ntmps [c113_5, c113_6] (F113_q1 R) E ds w :=
  TrL_leaf (X := F113_1 R p6 p7 ds w) (setAll_cons e6 (setAll_cons e7 setAll_nil)) (by kernel_rfl) (by kernel_rfl) h
theorem F113_2_ok (R : Rt) (J1 : (Int) -> World -> Prop) (p5 p6 p7 : Option Addr) (l8 : SV) (n9 : Int) (ds : Ds) (w : World) (E : Env) (e5 : E 5 = .pointer p5) (e6 : E 6 = .pointer p6) (e7 : E 7 = .pointer p7) (e8 : E 8 = .slice l8.a l8.len l8.cap) (e9 : E 9 = .int .i64 n9) (h : F113_2 R J1 p5 p6 p7 l8 n9 ds w) :
    TrL prog f113.ntmps [c113_4_0_0, c113_4_0_1, c113_4_0_2, c113_4_0_3] (F113_q5 R J1) E ds w :=
  TrL_leaf (X := F113_2 R J1 p5 p6 p7 l8 n9 ds w) (setAll_cons e5 (setAll_cons e6 (setAll_cons e7 (setAll_cons e8 (setAll_cons e9 setAll_nil))))) (by kernel_rfl) (by kernel_rfl) h
theorem F113_3_ok (R : Rt) (p5 p6 p7 : Option Addr) (l8 : SV) (n9 : Int) (ds : Ds) (w : World) (E : Env) (e5 : E 5 = .pointer p5) (e6 : E 6 = .pointer p6) (e7 : E 7 = .pointer p7) (e8 : E 8 = .slice l8.a l8.len l8.cap) (e9 : E 9 = .int .i64 n9) (h : F113_3 R p5 p6 p7 l8 n9 ds w) :
    TrL prog f113.ntmps [c113_4_0] (F113_q4 R) E ds w :=
  TrL_one (Tr_loop' (c := innerC c113_4_0) (σ := Int) (enc := (fun (s : Int) (E : Env) => E 9 = .int .i64 s)) (D := (fun E K => dInt .i64 (E 9) fun n9 => K n9)) (F := (fun (J1 : (Int) -> World -> Prop) (s : Int) (w : World) => F113_2 R J1 p5 p6 p7 l8 s ds w)) (s0 := n9) (by kernel_rfl) c113_4_0_l e9 (by kernel_rfl) (fun E K hD => by obtain ⟨n9, e9, hD⟩ := dInt_elim hD; exact ⟨n9, e9, hD⟩)
      (fun J1 s E' w' he ha hF => by
      have e9' := he
      exact F113_2_ok R J1 p5 p6 p7 l8 s ds w' E' ((ha 5 (by kernel_rfl)).trans e5) ((ha 6 (by kernel_rfl)).trans e6) ((ha 7 (by kernel_rfl)).trans e7) ((ha 8 (by kernel_rfl)).trans e8) e9' hF) h)
theorem F113_4_ok (R : Rt) (p5 p6 p7 : Option Addr) (l8 : SV) (n9 : Int) (ds : Ds) (w : World) (E : Env) (e5 : E 5 = .pointer p5) (e6 : E 6 = .pointer p6) (e7 : E 7 = .pointer p7) (e8 : E 8 = .slice l8.a l8.len l8.cap) (e9 : E 9 = .int .i64 n9) (h : F113_4 R p5 p6 p7 l8 n9 ds w) :
    TrL prog f113.ntmps [c113_4, c113_5, c113_6] (F113_q1 R) E ds w :=
  TrL_head (K := (F113_k2 R)) (Tr_block' (c := innerC c113_4) (by kernel_rfl) c113_4_l (F113_3_ok R p5 p6 p7 l8 n9 ds w E e5 e6 e7 e8 e9 h))
    (fun E' ds' w' hD => by
      obtain ⟨p6, e6, hD⟩ := dPtr_elim hD; obtain ⟨p7, e7, hD⟩ := dPtr_elim hD; exact F113_1_ok R p6 p7 ds' w' E' e6 e7 hD)
theorem F113_5_ok (R : Rt) (p0 : Option Addr) (n1 : Int) (s2_0 : ByteArray) (n2_1 : Int) (ds : Ds) (w : World) (E : Env) (e0 : E 0 = .pointer p0) (e1 : E 1 = .int .i64 n1) (e2 : E 2 = .agg #[.string s2_0, .int .i64 n2_1]) (h : F113_5 R p0 n1 s2_0 n2_1 ds w) :
    TrL prog f113.ntmps [c113_0, c113_1, c113_2, c113_3, c113_4, c113_5, c113_6] (F113_q1 R) E ds w :=
  TrL_piece (pre := [c113_0, c113_1, c113_2, c113_3]) (K := (F113_k6 R)) (X := F113_5 R p0 n1 s2_0 n2_1 ds w) (setAll_cons e0 (setAll_cons e1 (setAll_cons e2 setAll_nil))) (by kernel_rfl) (by kernel_rfl)
    (fun E' ds' w' hD => by
      obtain ⟨p5, e5, hD⟩ := dPtr_elim hD; obtain ⟨p6, e6, hD⟩ := dPtr_elim hD; obtain ⟨p7, e7, hD⟩ := dPtr_elim hD; obtain ⟨l8, e8, hD⟩ := dSl_elim hD; obtain ⟨n9, e9, hD⟩ := dInt_elim hD; exact F113_4_ok R p5 p6 p7 l8 n9 ds' w' E' e5 e6 e7 e8 e9 hD) h
theorem F113_calls (p0 : Option Addr) (n1 : Int) (s2_0 : ByteArray) (n2_1 : Int) (w : World) (R : Rt) (h : F113_5 R p0 n1 s2_0 n2_1 [] w) : Calls prog 113 #[.pointer p0, .int .i64 n1, .agg #[.string s2_0, .int .i64 n2_1]] w R :=
  calls_of_L (l := [c113_0, c113_1, c113_2, c113_3, c113_4, c113_5, c113_6]) func113 (by kernel_rfl) (by rw [ntmps113]; exact Nat.le_of_ble_eq_true (by kernel_rfl)) c113_l
    (F113_5_ok R p0 n1 s2_0 n2_1 [] w _ rfl rfl rfl h)
end Go.Proofs.YtnigfiljenfgjaaGreat
