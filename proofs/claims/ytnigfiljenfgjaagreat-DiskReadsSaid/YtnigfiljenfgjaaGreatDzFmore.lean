import Derived.Test.YtnigfiljenfgjaaGreatProg
import Derived.Test.YtnigfiljenfgjaaGreatShEight
/- Shallow texts of functions, printed by program, each checked by the kernel against the loaded code. No condition. -/
set_option maxRecDepth 100000
set_option linter.unusedVariables false
namespace Go.Proofs.YtnigfiljenfgjaaGreat
open Go.Sh
open Tryz
@[reducible] noncomputable def cI3 (f : Func) (i : Nat) : Code := itemAt (flat (bodyOf f)) i
@[reducible] noncomputable def cJ3 (c : Code) (i : Nat) : Code := itemAt (flat (innerC c)) i
noncomputable def c90_0 := cI3 f90 0
noncomputable def c90_1 := cI3 f90 1
noncomputable def c90_2 := cI3 f90 2
noncomputable def c90_3 := cI3 f90 3
noncomputable def c90_4 := cI3 f90 4
noncomputable def c90_5 := cI3 f90 5
noncomputable def c90_6 := cI3 f90 6
def F90_q1 (R : Rt) : EQ := endQ prog f90.results.toList R
def F90_1 (R : Rt) (p0 : Option Addr) (s1 : ByteArray) (ds : Ds) (w : World) : Prop :=
 Calls prog 43 #[.pointer p0, .int .i64 0, .string s1] w fun e w1 =>
 ∃ v11_0 : Value, ∃ n11_1 : Int, e = .returned (.tuple #[v11_0, .int .i64 n11_1]) /\
 fnE v11_0 fun fx firstx capx =>
 Br (n11_1 != 0) (
 runD prog ({ target := .fn (.func fx) capx, args := (firstx.toList ++ ([] : List Value)).toArray } :: ds) w1 fun w2 =>
 R (.returned (.tuple #[.int .i64 0, .int .i64 n11_1])) w2) (
 ptrE p0 fun a3 =>
 ∃ m21 : Option Nat, w1.cell? (a3.add 2) = some (.map m21) /\
 ∃ l23 : SV, ∃ w4 : World, (Instr.lookup 55 (.map m21) (.string s1) false).run prog w1 = .ok (.slice l23.a l23.len l23.cap) w4 /\
 runD prog ({ target := .fn (.func fx) capx, args := (firstx.toList ++ ([] : List Value)).toArray } :: ds) w4 fun w5 =>
 R (.returned (.tuple #[.int .i64 (l23.len : Int), .int .i64 0])) w5)
theorem c90_l : flat (bodyOf f90) = [c90_0, c90_1, c90_2, c90_3, c90_4, c90_5, c90_6] := by kernel_rfl
theorem F90_1_ok (R : Rt) (p0 : Option Addr) (s1 : ByteArray) (ds : Ds) (w : World) (E : Env) (e0 : E 0 = .pointer p0) (e1 : E 1 = .string s1) (h : F90_1 R p0 s1 ds w) :
    TrL prog f90.ntmps [c90_0, c90_1, c90_2, c90_3, c90_4, c90_5, c90_6] (F90_q1 R) E ds w :=
  TrL_leaf (X := F90_1 R p0 s1 ds w) (setAll_cons e0 (setAll_cons e1 setAll_nil)) (by kernel_rfl) (by kernel_rfl) h
theorem F90_calls (p0 : Option Addr) (s1 : ByteArray) (w : World) (R : Rt) (h : F90_1 R p0 s1 [] w) : Calls prog 90 #[.pointer p0, .string s1] w R :=
  calls_of_L (l := [c90_0, c90_1, c90_2, c90_3, c90_4, c90_5, c90_6]) func90 (by kernel_rfl) (by rw [ntmps90]; exact Nat.le_of_ble_eq_true (by kernel_rfl)) c90_l
    (F90_1_ok R p0 s1 [] w _ rfl rfl h)
noncomputable def c87_0 := cI3 f87 0
noncomputable def c87_1 := cI3 f87 1
noncomputable def c87_2 := cI3 f87 2
noncomputable def c87_3 := cI3 f87 3
noncomputable def c87_4 := cI3 f87 4
noncomputable def c87_5 := cI3 f87 5
noncomputable def c87_6 := cI3 f87 6
noncomputable def c87_7 := cI3 f87 7
noncomputable def c87_8 := cI3 f87 8
noncomputable def c87_9 := cI3 f87 9
noncomputable def c87_10 := cI3 f87 10
noncomputable def c87_11 := cI3 f87 11
noncomputable def c87_9_0 := cJ3 c87_9 0
noncomputable def c87_9_0_0 := cJ3 c87_9_0 0
noncomputable def c87_9_0_1 := cJ3 c87_9_0 1
noncomputable def c87_9_0_2 := cJ3 c87_9_0 2
noncomputable def c87_9_0_3 := cJ3 c87_9_0 3
def F87_q1 (R : Rt) : EQ := endQ prog f87.results.toList R
def F87_1 (R : Rt) (ds : Ds) (w : World) : Prop :=
 runD prog ds w fun w1 =>
 R (.returned (.int .i64 0)) w1
def F87_k2 (R : Rt) : EP := (fun E ds w => F87_1 R ds w)
def F87_q3 (R : Rt) : EQ := (thenQ (F87_k2 R) (F87_q1 R))
def F87_q4 (R : Rt) : EQ := (blockQ 0 (F87_q3 R))
def F87_q5 (R : Rt) (J1 : (Int) -> World -> Prop) : EQ := (thenQ (fun E _ w => dInt .i64 (E 29) fun n29 => J1 n29 w) (F87_q4 R))
def F87_2 (R : Rt) (J1 : (Int) -> World -> Prop) (p0 p3 : Option Addr) (n29 : Int) (ds : Ds) (w : World) : Prop :=
 Br (decide (n29 < 4)) (
 ptrE p0 fun a2 =>
 0 <= n29 /\ n29 < (4 : Int) /\
 ∃ m37 : Option Nat, w.cell? ((a2.add 3).add (n29.toNat * 1)) = some (.map m37) /\
 Calls prog 110 #[.map m37, .func (.func 111) #[] #[.pointer p3]] w fun e w3 =>
 e = .returned (.tuple #[]) /\
 J1 (IntKind.i64.wrap (n29 + 1)) w3) (
 F87_1 R ds w)
def F87_3 (R : Rt) (p0 p3 : Option Addr) (n29 : Int) (ds : Ds) (w : World) : Prop :=
 loopT (fun (J1 : (Int) -> World -> Prop) (s : Int) (w : World) => F87_2 R J1 p0 p3 s ds w) n29 w
abbrev F87_4 (R : Rt) (p0 p3 : Option Addr) (n29 : Int) (ds : Ds) (w : World) : Prop := F87_3 R p0 p3 n29 ds w
def F87_k6 (R : Rt) : EP := (fun E ds w => dPtr (E 0) fun p0 => dPtr (E 3) fun p3 => dInt .i64 (E 29) fun n29 => F87_4 R p0 p3 n29 ds w)
def F87_5 (R : Rt) (p0 : Option Addr) (s1 : ByteArray) (ds : Ds) (w : World) : Prop :=
 alE (.cells #[.string s1] 9) w fun r3 w4 =>
 ∃ s10 : ByteArray, w4.cell? (⟨r3, 0, none⟩ : Addr) = some (.string s10) /\
 Calls prog 43 #[.pointer p0, .int .i64 0, .string s10] w4 fun e w5 =>
 ∃ v11_0 : Value, ∃ n11_1 : Int, e = .returned (.tuple #[v11_0, .int .i64 n11_1]) /\
 fnE v11_0 fun fx firstx capx =>
 Br (n11_1 != 0) (
 runD prog ({ target := .fn (.func fx) capx, args := (firstx.toList ++ ([] : List Value)).toArray } :: ds) w5 fun w6 =>
 R (.returned (.int .i64 n11_1)) w6) (
 ptrE p0 fun a7 =>
 ∃ l21 : SV, w5.cell? (a7.add 7) = some (.slice l21.a l21.len l21.cap) /\
 Calls prog 73 #[.slice l21.a l21.len l21.cap, .func (.func 109) #[] #[.pointer (some (⟨r3, 0, none⟩ : Addr))]] w5 fun e w8 =>
 ∃ b23 : Bool, e = .returned (.bool b23) /\
 Br b23 (
 runD prog ({ target := .fn (.func fx) capx, args := (firstx.toList ++ ([] : List Value)).toArray } :: ds) w8 fun w9 =>
 R (.returned (.int .i64 12)) w9) (
 dwE w8 fun w10 =>
 ptrE p0 fun a11 =>
 ∃ m27 : Option Nat, w10.cell? (a11.add 2) = some (.map m27) /\
 ∃ s28 : ByteArray, w10.cell? (⟨r3, 0, none⟩ : Addr) = some (.string s28) /\
 ∃ w12 : World, (Builtin.delete_ #[55, 9] 0 #[.map m27, .string s28]).run prog w10 = .ok (.tuple #[]) w12 /\
 F87_4 R p0 (some (⟨r3, 0, none⟩ : Addr)) 0 ({ target := .fn (.func fx) capx, args := (firstx.toList ++ ([] : List Value)).toArray } :: ds) w12))
theorem c87_l : flat (bodyOf f87) = [c87_0, c87_1, c87_2, c87_3, c87_4, c87_5, c87_6, c87_7, c87_8, c87_9, c87_10, c87_11] := by kernel_rfl
theorem c87_9_l : flat (innerC c87_9) = [c87_9_0] := by kernel_rfl
theorem c87_9_0_l : flat (innerC c87_9_0) = [c87_9_0_0, c87_9_0_1, c87_9_0_2, c87_9_0_3] := by kernel_rfl
theorem F87_1_ok (R : Rt) (ds : Ds) (w : World) (E : Env) (h : F87_1 R ds w) :
    TrL prog f87.ntmps [c87_10, c87_11] (F87_q1 R) E ds w :=
  TrL_leaf (X := F87_1 R ds w) setAll_nil (by kernel_rfl) (by kernel_rfl) h
theorem F87_2_ok (R : Rt) (J1 : (Int) -> World -> Prop) (p0 p3 : Option Addr) (n29 : Int) (ds : Ds) (w : World) (E : Env) (e0 : E 0 = .pointer p0) (e3 : E 3 = .pointer p3) (e29 : E 29 = .int .i64 n29) (h : F87_2 R J1 p0 p3 n29 ds w) :
    TrL prog f87.ntmps [c87_9_0_0, c87_9_0_1, c87_9_0_2, c87_9_0_3] (F87_q5 R J1) E ds w :=
  TrL_leaf (X := F87_2 R J1 p0 p3 n29 ds w) (setAll_cons e0 (setAll_cons e3 (setAll_cons e29 setAll_nil))) (by kernel_rfl) (by kernel_rfl) h
theorem F87_3_ok (R : Rt) (p0 p3 : Option Addr) (n29 : Int) (ds : Ds) (w : World) (E : Env) (e0 : E 0 = .pointer p0) (e3 : E 3 = .pointer p3) (e29 : E 29 = .int .i64 n29) (h : F87_3 R p0 p3 n29 ds w) :
    TrL prog f87.ntmps [c87_9_0] (F87_q4 R) E ds w :=
  TrL_one (Tr_loop' (c := innerC c87_9_0) (σ := Int) (enc := (fun (s : Int) (E : Env) => E 29 = .int .i64 s)) (D := (fun E K => dInt .i64 (E 29) fun n29 => K n29)) (F := (fun (J1 : (Int) -> World -> Prop) (s : Int) (w : World) => F87_2 R J1 p0 p3 s ds w)) (s0 := n29) (by kernel_rfl) c87_9_0_l e29 (by kernel_rfl) (fun E K hD => by obtain ⟨n29, e29, hD⟩ := dInt_elim hD; exact ⟨n29, e29, hD⟩)
      (fun J1 s E' w' he ha hF => by
      have e29' := he
      exact F87_2_ok R J1 p0 p3 s ds w' E' ((ha 0 (by kernel_rfl)).trans e0) ((ha 3 (by kernel_rfl)).trans e3) e29' hF) h)
theorem F87_4_ok (R : Rt) (p0 p3 : Option Addr) (n29 : Int) (ds : Ds) (w : World) (E : Env) (e0 : E 0 = .pointer p0) (e3 : E 3 = .pointer p3) (e29 : E 29 = .int .i64 n29) (h : F87_4 R p0 p3 n29 ds w) :
    TrL prog f87.ntmps [c87_9, c87_10, c87_11] (F87_q1 R) E ds w :=
  TrL_head (K := (F87_k2 R)) (Tr_block' (c := innerC c87_9) (by kernel_rfl) c87_9_l (F87_3_ok R p0 p3 n29 ds w E e0 e3 e29 h))
    (fun E' ds' w' hD => by
      exact F87_1_ok R ds' w' E'  hD)
theorem F87_5_ok (R : Rt) (p0 : Option Addr) (s1 : ByteArray) (ds : Ds) (w : World) (E : Env) (e0 : E 0 = .pointer p0) (e1 : E 1 = .string s1) (h : F87_5 R p0 s1 ds w) :
    TrL prog f87.ntmps [c87_0, c87_1, c87_2, c87_3, c87_4, c87_5, c87_6, c87_7, c87_8, c87_9, c87_10, c87_11] (F87_q1 R) E ds w :=
  TrL_piece (pre := [c87_0, c87_1, c87_2, c87_3, c87_4, c87_5, c87_6, c87_7, c87_8]) (K := (F87_k6 R)) (X := F87_5 R p0 s1 ds w) (setAll_cons e0 (setAll_cons e1 setAll_nil)) (by kernel_rfl) (by kernel_rfl)
    (fun E' ds' w' hD => by
      obtain ⟨p0, e0, hD⟩ := dPtr_elim hD; obtain ⟨p3, e3, hD⟩ := dPtr_elim hD; obtain ⟨n29, e29, hD⟩ := dInt_elim hD; exact F87_4_ok R p0 p3 n29 ds' w' E' e0 e3 e29 hD) h
theorem F87_calls (p0 : Option Addr) (s1 : ByteArray) (w : World) (R : Rt) (h : F87_5 R p0 s1 [] w) : Calls prog 87 #[.pointer p0, .string s1] w R :=
  calls_of_L (l := [c87_0, c87_1, c87_2, c87_3, c87_4, c87_5, c87_6, c87_7, c87_8, c87_9, c87_10, c87_11]) func87 (by kernel_rfl) (by rw [ntmps87]; exact Nat.le_of_ble_eq_true (by kernel_rfl)) c87_l
    (F87_5_ok R p0 s1 [] w _ rfl rfl h)
noncomputable def c109_0 := cI3 f109 0
noncomputable def c109_1 := cI3 f109 1
noncomputable def c109_2 := cI3 f109 2
def F109_q1 (R : Rt) : EQ := endQ prog f109.results.toList R
def F109_1 (R : Rt) (n0_0 : Int) (s0_1 : ByteArray) (n0_2 n0_3 : Int) (v1 : Value) (ds : Ds) (w : World) : Prop :=
 alE (.cells #[.int .i64 n0_0, .string s0_1, .int .i64 n0_2, .int .i64 n0_3] 95) w fun r2 w1 =>
 ∃ s5 : ByteArray, w1.cell? ((⟨r2, 0, none⟩ : Addr).add 1) = some (.string s5) /\
 addrE v1 fun a2 =>
 ∃ s6 : ByteArray, w1.cell? a2 = some (.string s6) /\
 runD prog ds w1 fun w3 =>
 R (.returned (.bool (s5.toList == s6.toList))) w3
theorem c109_l : flat (bodyOf f109) = [c109_0, c109_1, c109_2] := by kernel_rfl
theorem F109_1_ok (R : Rt) (n0_0 : Int) (s0_1 : ByteArray) (n0_2 n0_3 : Int) (v1 : Value) (ds : Ds) (w : World) (E : Env) (e0 : E 0 = .agg #[.int .i64 n0_0, .string s0_1, .int .i64 n0_2, .int .i64 n0_3]) (e1 : E 1 = v1) (h : F109_1 R n0_0 s0_1 n0_2 n0_3 v1 ds w) :
    TrL prog f109.ntmps [c109_0, c109_1, c109_2] (F109_q1 R) E ds w :=
  TrL_leaf (X := F109_1 R n0_0 s0_1 n0_2 n0_3 v1 ds w) (setAll_cons e0 (setAll_cons e1 setAll_nil)) (by kernel_rfl) (by kernel_rfl) h
theorem F109_calls (n0_0 : Int) (s0_1 : ByteArray) (n0_2 n0_3 : Int) (v1 : Value) (w : World) (R : Rt) (h : F109_1 R n0_0 s0_1 n0_2 n0_3 v1 [] w) : Calls prog 109 #[.agg #[.int .i64 n0_0, .string s0_1, .int .i64 n0_2, .int .i64 n0_3], v1] w R :=
  calls_of_L (l := [c109_0, c109_1, c109_2]) func109 (by kernel_rfl) (by rw [ntmps109]; exact Nat.le_of_ble_eq_true (by kernel_rfl)) c109_l
    (F109_1_ok R n0_0 s0_1 n0_2 n0_3 v1 [] w _ rfl rfl h)
noncomputable def c110_0 := cI3 f110 0
noncomputable def c110_1 := cI3 f110 1
noncomputable def c110_1_0 := cJ3 c110_1 0
noncomputable def c110_1_0_0 := cJ3 c110_1_0 0
noncomputable def c110_1_0_1 := cJ3 c110_1_0 1
noncomputable def c110_1_0_2 := cJ3 c110_1_0 2
def F110_q1 (R : Rt) : EQ := endQ prog f110.results.toList R
def F110_q2 (R : Rt) : EQ := (blockQ 0 (F110_q1 R))
def F110_q3 (R : Rt) (J1 : (Unit) -> World -> Prop) : EQ := (thenQ (fun E _ w => J1 () w) (F110_q2 R))
def F110_1 (R : Rt) (J1 : (Unit) -> World -> Prop) (m0 : Option Nat) (v1 : Value) (p7 : Option Addr) (ds : Ds) (w : World) : Prop :=
 (∃ w1 : World, (Instr.next (.pointer p7) false 0).run prog w = .ok (.tuple #[.bool false]) w1 /\
 runD prog ds w1 fun w3 =>
 R (.returned (.tuple #[])) w3) ∨ (∃ k8 v8 : Value, ∃ w2 : World, (Instr.next (.pointer p7) false 0).run prog w = .ok (.tuple #[.bool true, k8, v8]) w2 /\
 ∃ k10 v10 : Value, ∃ w4 : World, (Instr.entry (.pointer p7)).run prog w2 = .ok (.tuple #[k10, v10]) w4 /\
 dAgg k10 fun q11 =>
 dHd q11 fun x11_0 q11_0 =>
 dStr x11_0 fun s11_0 =>
 dHd q11_0 fun x11_1 q11_1 =>
 dInt .i64 x11_1 fun n11_1 =>
 dNil q11_1 (
 dRow v10 fun c12 =>
 alE (.cells #[.string (⟨#[]⟩ : ByteArray), .int .i64 0] 92) w4 fun r4 w5 =>
 alE (.cells (zc prog 89) 89) w5 fun r5 w6 =>
 stA prog 92 (⟨r4, 0, none⟩ : Addr) #[.string s11_0, .int .i64 n11_1] w6 fun w7 =>
 stA prog 89 (⟨r5, 0, none⟩ : Addr) c12 w7 fun w8 =>
 ∃ s14_0 : ByteArray, w8.cell? ((⟨r4, 0, none⟩ : Addr).add 0) = some (.string s14_0) /\
 ∃ n14_1 : Int, w8.cell? ((⟨r4, 0, none⟩ : Addr).add 1) = some (.int .i64 n14_1) /\
 ∃ c15 : Array Value, c15.size = 96 /\ (∀ i, i < 96 -> w8.cell? ((⟨r5, 0, none⟩ : Addr).add i) = c15[i]?) /\
 fnE v1 fun f16 first16 cap16 =>
 hasBody prog f16 = true /\ Calls prog f16 (first16.toList ++ (([.agg #[.string s14_0, .int .i64 n14_1], .agg c15] : List Value) ++ cap16.toList)).toArray w8 fun e w9 =>
 ∃ b16 : Bool, e = .returned (.bool b16) /\
 Br b16 (
 ∃ s18_0 : ByteArray, w9.cell? ((⟨r4, 0, none⟩ : Addr).add 0) = some (.string s18_0) /\
 ∃ n18_1 : Int, w9.cell? ((⟨r4, 0, none⟩ : Addr).add 1) = some (.int .i64 n18_1) /\
 ∃ w10 : World, (Builtin.delete_ #[63, 92] 0 #[.map m0, .agg #[.string s18_0, .int .i64 n18_1]]).run prog w9 = .ok (.tuple #[]) w10 /\
 J1 () w10) (
 J1 () w9)))
def F110_2 (R : Rt) (m0 : Option Nat) (v1 : Value) (p7 : Option Addr) (ds : Ds) (w : World) : Prop :=
 loopT (fun (J1 : (Unit) -> World -> Prop) (_ : Unit) (w : World) => F110_1 R J1 m0 v1 p7 ds w) () w
abbrev F110_3 (R : Rt) (m0 : Option Nat) (v1 : Value) (p7 : Option Addr) (ds : Ds) (w : World) : Prop := F110_2 R m0 v1 p7 ds w
def F110_k4 (R : Rt) : EP := (fun E ds w => dMap (E 0) fun m0 => dPtr (E 7) fun p7 => F110_3 R m0 (E 1) p7 ds w)
def F110_4 (R : Rt) (m0 : Option Nat) (v1 : Value) (ds : Ds) (w : World) : Prop :=
 ∃ p7 : Option Addr, ∃ w11 : World, (Instr.range 63 (.map m0)).run prog w = .ok (.pointer p7) w11 /\
 F110_3 R m0 (v1) p7 ds w11
theorem c110_l : flat (bodyOf f110) = [c110_0, c110_1] := by kernel_rfl
theorem c110_1_l : flat (innerC c110_1) = [c110_1_0] := by kernel_rfl
theorem c110_1_0_l : flat (innerC c110_1_0) = [c110_1_0_0, c110_1_0_1, c110_1_0_2] := by kernel_rfl
theorem F110_1_ok (R : Rt) (J1 : (Unit) -> World -> Prop) (m0 : Option Nat) (v1 : Value) (p7 : Option Addr) (ds : Ds) (w : World) (E : Env) (e0 : E 0 = .map m0) (e1 : E 1 = v1) (e7 : E 7 = .pointer p7) (h : F110_1 R J1 m0 v1 p7 ds w) :
    TrL prog f110.ntmps [c110_1_0_0, c110_1_0_1, c110_1_0_2] (F110_q3 R J1) E ds w :=
  TrL_leaf (X := F110_1 R J1 m0 v1 p7 ds w) (setAll_cons e0 (setAll_cons e1 (setAll_cons e7 setAll_nil))) (by kernel_rfl) (by kernel_rfl) h
theorem F110_2_ok (R : Rt) (m0 : Option Nat) (v1 : Value) (p7 : Option Addr) (ds : Ds) (w : World) (E : Env) (e0 : E 0 = .map m0) (e1 : E 1 = v1) (e7 : E 7 = .pointer p7) (h : F110_2 R m0 v1 p7 ds w) :
    TrL prog f110.ntmps [c110_1_0] (F110_q2 R) E ds w :=
  TrL_one (Tr_loop' (c := innerC c110_1_0) (σ := Unit) (enc := (fun (_ : Unit) (_ : Env) => True)) (D := (fun E K => K ())) (F := (fun (J1 : (Unit) -> World -> Prop) (_ : Unit) (w : World) => F110_1 R J1 m0 v1 p7 ds w)) (s0 := ()) (by kernel_rfl) c110_1_0_l trivial (by kernel_rfl) (fun E K hD => by exact ⟨(), trivial, hD⟩)
      (fun J1 _ E' w' he ha hF => by
      skip
      exact F110_1_ok R J1 m0 v1 p7 ds w' E' ((ha 0 (by kernel_rfl)).trans e0) ((ha 1 (by kernel_rfl)).trans e1) ((ha 7 (by kernel_rfl)).trans e7) hF) h)
theorem F110_3_ok (R : Rt) (m0 : Option Nat) (v1 : Value) (p7 : Option Addr) (ds : Ds) (w : World) (E : Env) (e0 : E 0 = .map m0) (e1 : E 1 = v1) (e7 : E 7 = .pointer p7) (h : F110_3 R m0 v1 p7 ds w) :
    TrL prog f110.ntmps [c110_1] (F110_q1 R) E ds w :=
  TrL_one (Tr_block' (c := innerC c110_1) (by kernel_rfl) c110_1_l (F110_2_ok R m0 v1 p7 ds w E e0 e1 e7 h))
theorem F110_4_ok (R : Rt) (m0 : Option Nat) (v1 : Value) (ds : Ds) (w : World) (E : Env) (e0 : E 0 = .map m0) (e1 : E 1 = v1) (h : F110_4 R m0 v1 ds w) :
    TrL prog f110.ntmps [c110_0, c110_1] (F110_q1 R) E ds w :=
  TrL_piece (pre := [c110_0]) (K := (F110_k4 R)) (X := F110_4 R m0 v1 ds w) (setAll_cons e0 (setAll_cons e1 setAll_nil)) (by kernel_rfl) (by kernel_rfl)
    (fun E' ds' w' hD => by
      obtain ⟨m0, e0, hD⟩ := dMap_elim hD; obtain ⟨p7, e7, hD⟩ := dPtr_elim hD; exact F110_3_ok R m0 (E' 1) p7 ds' w' E' e0 rfl e7 hD) h
theorem F110_calls (m0 : Option Nat) (v1 : Value) (w : World) (R : Rt) (h : F110_4 R m0 v1 [] w) : Calls prog 110 #[.map m0, v1] w R :=
  calls_of_L (l := [c110_0, c110_1]) func110 (by kernel_rfl) (by rw [ntmps110]; exact Nat.le_of_ble_eq_true (by kernel_rfl)) c110_l
    (F110_4_ok R m0 v1 [] w _ rfl rfl h)
noncomputable def c111_0 := cI3 f111 0
noncomputable def c111_1 := cI3 f111 1
noncomputable def c111_2 := cI3 f111 2
def F111_q1 (R : Rt) : EQ := endQ prog f111.results.toList R
def F111_1 (R : Rt) (s0_0 : ByteArray) (n0_1 : Int) (c1 : Array Value) (v2 : Value) (ds : Ds) (w : World) : Prop :=
 alE (.cells #[.string s0_0, .int .i64 n0_1] 92) w fun r3 w1 =>
 alE (.cells c1 89) w1 fun r4 w2 =>
 ∃ s7 : ByteArray, w2.cell? (⟨r3, 0, none⟩ : Addr) = some (.string s7) /\
 addrE v2 fun a3 =>
 ∃ s8 : ByteArray, w2.cell? a3 = some (.string s8) /\
 runD prog ds w2 fun w4 =>
 R (.returned (.bool (s7.toList == s8.toList))) w4
theorem c111_l : flat (bodyOf f111) = [c111_0, c111_1, c111_2] := by kernel_rfl
theorem F111_1_ok (R : Rt) (s0_0 : ByteArray) (n0_1 : Int) (c1 : Array Value) (v2 : Value) (ds : Ds) (w : World) (E : Env) (e0 : E 0 = .agg #[.string s0_0, .int .i64 n0_1]) (e1 : E 1 = .agg c1) (e2 : E 2 = v2) (h : F111_1 R s0_0 n0_1 c1 v2 ds w) :
    TrL prog f111.ntmps [c111_0, c111_1, c111_2] (F111_q1 R) E ds w :=
  TrL_leaf (X := F111_1 R s0_0 n0_1 c1 v2 ds w) (setAll_cons e0 (setAll_cons e1 (setAll_cons e2 setAll_nil))) (by kernel_rfl) (by kernel_rfl) h
theorem F111_calls (s0_0 : ByteArray) (n0_1 : Int) (c1 : Array Value) (v2 : Value) (w : World) (R : Rt) (h : F111_1 R s0_0 n0_1 c1 v2 [] w) : Calls prog 111 #[.agg #[.string s0_0, .int .i64 n0_1], .agg c1, v2] w R :=
  calls_of_L (l := [c111_0, c111_1, c111_2]) func111 (by kernel_rfl) (by rw [ntmps111]; exact Nat.le_of_ble_eq_true (by kernel_rfl)) c111_l
    (F111_1_ok R s0_0 n0_1 c1 v2 [] w _ rfl rfl rfl h)
noncomputable def c34_0 := cI3 f34 0
noncomputable def c34_1 := cI3 f34 1
noncomputable def c34_2 := cI3 f34 2
noncomputable def c34_3 := cI3 f34 3
noncomputable def c34_4 := cI3 f34 4
noncomputable def c34_5 := cI3 f34 5
noncomputable def c34_6 := cI3 f34 6
noncomputable def c34_7 := cI3 f34 7
noncomputable def c34_8 := cI3 f34 8
noncomputable def c34_9 := cI3 f34 9
noncomputable def c34_7_0 := cJ3 c34_7 0
noncomputable def c34_7_0_0 := cJ3 c34_7_0 0
noncomputable def c34_7_0_1 := cJ3 c34_7_0 1
noncomputable def c34_7_0_2 := cJ3 c34_7_0 2
noncomputable def c34_7_0_3 := cJ3 c34_7_0 3
def F34_q1 (R : Rt) : EQ := endQ prog f34.results.toList R
def F34_1 (R : Rt) (n10 : Int) (ds : Ds) (w : World) : Prop :=
 runD prog ds w fun w1 =>
 R (.returned (.tuple #[.int .i64 n10, .int .i64 0])) w1
def F34_k2 (R : Rt) : EP := (fun E ds w => dInt .i64 (E 10) fun n10 => F34_1 R n10 ds w)
def F34_q3 (R : Rt) : EQ := (thenQ (F34_k2 R) (F34_q1 R))
def F34_q4 (R : Rt) : EQ := (blockQ 0 (F34_q3 R))
def F34_q5 (R : Rt) (J1 : (Int × Int) -> World -> Prop) : EQ := (thenQ (fun E _ w => dInt .i64 (E 10) fun n10 => dInt .i64 (E 30) fun n30 => J1 (n10, n30) w) (F34_q4 R))
def F34_2 (R : Rt) (J1 : (Int × Int) -> World -> Prop) (p0 : Option Addr) (n1 n10 : Int) (l28 : SV) (n29 n30 : Int) (ds : Ds) (w : World) : Prop :=
 Br (decide (n30 < n29)) (
 ∃ a2 : Addr, l28.a = some a2 /\ 0 <= n30 /\ n30 < (l28.len : Int) /\
 ∃ s33_0 : ByteArray, w.cell? ((a2.add (n30.toNat * 2)).add 0) = some (.string s33_0) /\
 ∃ n33_1 : Int, w.cell? ((a2.add (n30.toNat * 2)).add 1) = some (.int .i64 n33_1) /\
 alE (.cells #[.string (⟨#[]⟩ : ByteArray), .int .i64 0] 92) w fun r12 w3 =>
 stA prog 92 (⟨r12, 0, none⟩ : Addr) #[.string s33_0, .int .i64 n33_1] w3 fun w4 =>
 dwE w4 fun w5 =>
 ∃ S1 : World -> Prop, S1 w5 /\
 ptrE p0 fun a6 =>
 0 <= n1 /\ n1 < (4 : Int) /\
 ∃ m39 : Option Nat, (∀ w', S1 w' -> w'.cell? ((a6.add 3).add (n1.toNat * 1)) = some (.map m39)) /\
 ∃ s40_0 : ByteArray, (∀ w', S1 w' -> w'.cell? ((⟨r12, 0, none⟩ : Addr).add 0) = some (.string s40_0)) /\
 ∃ n40_1 : Int, (∀ w', S1 w' -> w'.cell? ((⟨r12, 0, none⟩ : Addr).add 1) = some (.int .i64 n40_1)) /\
 ∃ c41 : Array Value, c41.size = 96 /\ (∀ w', S1 w' -> (Instr.lookup 63 (.map m39) (.agg #[.string s40_0, .int .i64 n40_1]) false).run prog w' = .ok (.agg c41) w') /\
 alE (.cells (zc prog 89) 89) w5 fun r13 w7 =>
 S1 w7 /\
 stA prog 89 (⟨r13, 0, none⟩ : Addr) c41 w7 fun w8 =>
 32 <= 32 /\ 0 <= 32 /\
 Calls prog 83 #[.slice (some (if 32 = 0 then ((⟨r13, 0, none⟩ : Addr).add 64) else ((⟨r13, 0, none⟩ : Addr).add 64).add (0 * 1))) (32 - 0) (32 - 0), .bool true] w8 fun e w9 =>
 ∃ b44 : Bool, e = .returned (.bool b44) /\
 Br (!b44) (
 dwE w9 fun w10 =>
 ptrE p0 fun a11 =>
 0 <= n1 /\ n1 < (4 : Int) /\
 ∃ m51 : Option Nat, w10.cell? ((a11.add 3).add (n1.toNat * 1)) = some (.map m51) /\
 ∃ s52_0 : ByteArray, w10.cell? ((⟨r12, 0, none⟩ : Addr).add 0) = some (.string s52_0) /\
 ∃ n52_1 : Int, w10.cell? ((⟨r12, 0, none⟩ : Addr).add 1) = some (.int .i64 n52_1) /\
 ∃ w12 : World, (Builtin.delete_ #[63, 92] 0 #[.map m51, .agg #[.string s52_0, .int .i64 n52_1]]).run prog w10 = .ok (.tuple #[]) w12 /\
 J1 ((IntKind.i64.wrap (n10 + 1)), (IntKind.i64.wrap (n30 + 1))) w12) (
 J1 (n10, (IntKind.i64.wrap (n30 + 1))) w9)) (
 F34_1 R n10 ds w)
def F34_3 (R : Rt) (p0 : Option Addr) (n1 n10 : Int) (l28 : SV) (n29 n30 : Int) (ds : Ds) (w : World) : Prop :=
 loopT (fun (J1 : (Int × Int) -> World -> Prop) (s : Int × Int) (w : World) => F34_2 R J1 p0 n1 s.1 l28 n29 s.2 ds w) (n10, n30) w
abbrev F34_4 (R : Rt) (p0 : Option Addr) (n1 n10 : Int) (l28 : SV) (n29 n30 : Int) (ds : Ds) (w : World) : Prop := F34_3 R p0 n1 n10 l28 n29 n30 ds w
def F34_k6 (R : Rt) : EP := (fun E ds w => dPtr (E 0) fun p0 => dInt .i64 (E 1) fun n1 => dInt .i64 (E 10) fun n10 => dSl (E 28) fun l28 => dInt .i64 (E 29) fun n29 => dInt .i64 (E 30) fun n30 => F34_4 R p0 n1 n10 l28 n29 n30 ds w)
def F34_5 (R : Rt) (p0 : Option Addr) (n1 : Int) (s2 : ByteArray) (ds : Ds) (w : World) : Prop :=
 Calls prog 43 #[.pointer p0, .int .i64 n1, .string s2] w fun e w13 =>
 ∃ v18_0 : Value, ∃ n18_1 : Int, e = .returned (.tuple #[v18_0, .int .i64 n18_1]) /\
 fnE v18_0 fun fx firstx capx =>
 Br (n18_1 != 0) (
 runD prog ({ target := .fn (.func fx) capx, args := (firstx.toList ++ ([] : List Value)).toArray } :: ds) w13 fun w14 =>
 R (.returned (.tuple #[.int .i64 0, .int .i64 n18_1])) w14) (
 Calls prog 69 #[.pointer p0, .int .i64 n1, .string s2, .int .i64 0, .int .i64 65536] w13 fun e w15 =>
 ∃ l28 : SV, e = .returned (.slice l28.a l28.len l28.cap) /\
 F34_4 R p0 n1 0 l28 (l28.len : Int) 0 ({ target := .fn (.func fx) capx, args := (firstx.toList ++ ([] : List Value)).toArray } :: ds) w15)
theorem c34_l : flat (bodyOf f34) = [c34_0, c34_1, c34_2, c34_3, c34_4, c34_5, c34_6, c34_7, c34_8, c34_9] := by kernel_rfl
theorem c34_7_l : flat (innerC c34_7) = [c34_7_0] := by kernel_rfl
theorem c34_7_0_l : flat (innerC c34_7_0) = [c34_7_0_0, c34_7_0_1, c34_7_0_2, c34_7_0_3] := by kernel_rfl
theorem F34_1_ok (R : Rt) (n10 : Int) (ds : Ds) (w : World) (E : Env) (e10 : E 10 = .int .i64 n10) (h : F34_1 R n10 ds w) :
    TrL prog f34.ntmps [c34_8, c34_9] (F34_q1 R) E ds w :=
  TrL_leaf (X := F34_1 R n10 ds w) (setAll_cons e10 setAll_nil) (by kernel_rfl) (by kernel_rfl) h
theorem F34_2_ok (R : Rt) (J1 : (Int × Int) -> World -> Prop) (p0 : Option Addr) (n1 n10 : Int) (l28 : SV) (n29 n30 : Int) (ds : Ds) (w : World) (E : Env) (e0 : E 0 = .pointer p0) (e1 : E 1 = .int .i64 n1) (e10 : E 10 = .int .i64 n10) (e28 : E 28 = .slice l28.a l28.len l28.cap) (e29 : E 29 = .int .i64 n29) (e30 : E 30 = .int .i64 n30) (h : F34_2 R J1 p0 n1 n10 l28 n29 n30 ds w) :
    TrL prog f34.ntmps [c34_7_0_0, c34_7_0_1, c34_7_0_2, c34_7_0_3] (F34_q5 R J1) E ds w :=
  TrL_leaf (X := F34_2 R J1 p0 n1 n10 l28 n29 n30 ds w) (setAll_cons e0 (setAll_cons e1 (setAll_cons e10 (setAll_cons e28 (setAll_cons e29 (setAll_cons e30 setAll_nil)))))) (by kernel_rfl) (by kernel_rfl) h
theorem F34_3_ok (R : Rt) (p0 : Option Addr) (n1 n10 : Int) (l28 : SV) (n29 n30 : Int) (ds : Ds) (w : World) (E : Env) (e0 : E 0 = .pointer p0) (e1 : E 1 = .int .i64 n1) (e10 : E 10 = .int .i64 n10) (e28 : E 28 = .slice l28.a l28.len l28.cap) (e29 : E 29 = .int .i64 n29) (e30 : E 30 = .int .i64 n30) (h : F34_3 R p0 n1 n10 l28 n29 n30 ds w) :
    TrL prog f34.ntmps [c34_7_0] (F34_q4 R) E ds w :=
  TrL_one (Tr_loop' (c := innerC c34_7_0) (σ := Int × Int) (enc := (fun (s : Int × Int) (E : Env) => E 10 = .int .i64 s.1 /\ E 30 = .int .i64 s.2)) (D := (fun E K => dInt .i64 (E 10) fun n10 => dInt .i64 (E 30) fun n30 => K (n10, n30))) (F := (fun (J1 : (Int × Int) -> World -> Prop) (s : Int × Int) (w : World) => F34_2 R J1 p0 n1 s.1 l28 n29 s.2 ds w)) (s0 := (n10, n30)) (by kernel_rfl) c34_7_0_l ⟨e10, e30⟩ (by kernel_rfl) (fun E K hD => by obtain ⟨n10, e10, hD⟩ := dInt_elim hD; obtain ⟨n30, e30, hD⟩ := dInt_elim hD; exact ⟨(n10, n30), ⟨e10, e30⟩, hD⟩)
      (fun J1 s E' w' he ha hF => by
      obtain ⟨e10', e30'⟩ := he
      exact F34_2_ok R J1 p0 n1 s.1 l28 n29 s.2 ds w' E' ((ha 0 (by kernel_rfl)).trans e0) ((ha 1 (by kernel_rfl)).trans e1) e10' ((ha 28 (by kernel_rfl)).trans e28) ((ha 29 (by kernel_rfl)).trans e29) e30' hF) h)
theorem F34_4_ok (R : Rt) (p0 : Option Addr) (n1 n10 : Int) (l28 : SV) (n29 n30 : Int) (ds : Ds) (w : World) (E : Env) (e0 : E 0 = .pointer p0) (e1 : E 1 = .int .i64 n1) (e10 : E 10 = .int .i64 n10) (e28 : E 28 = .slice l28.a l28.len l28.cap) (e29 : E 29 = .int .i64 n29) (e30 : E 30 = .int .i64 n30) (h : F34_4 R p0 n1 n10 l28 n29 n30 ds w) :
    TrL prog f34.ntmps [c34_7, c34_8, c34_9] (F34_q1 R) E ds w :=
  TrL_head (K := (F34_k2 R)) (Tr_block' (c := innerC c34_7) (by kernel_rfl) c34_7_l (F34_3_ok R p0 n1 n10 l28 n29 n30 ds w E e0 e1 e10 e28 e29 e30 h))
    (fun E' ds' w' hD => by
      obtain ⟨n10, e10, hD⟩ := dInt_elim hD; exact F34_1_ok R n10 ds' w' E' e10 hD)
theorem F34_5_ok (R : Rt) (p0 : Option Addr) (n1 : Int) (s2 : ByteArray) (ds : Ds) (w : World) (E : Env) (e0 : E 0 = .pointer p0) (e1 : E 1 = .int .i64 n1) (e2 : E 2 = .string s2) (h : F34_5 R p0 n1 s2 ds w) :
    TrL prog f34.ntmps [c34_0, c34_1, c34_2, c34_3, c34_4, c34_5, c34_6, c34_7, c34_8, c34_9] (F34_q1 R) E ds w :=
  TrL_piece (pre := [c34_0, c34_1, c34_2, c34_3, c34_4, c34_5, c34_6]) (K := (F34_k6 R)) (X := F34_5 R p0 n1 s2 ds w) (setAll_cons e0 (setAll_cons e1 (setAll_cons e2 setAll_nil))) (by kernel_rfl) (by kernel_rfl)
    (fun E' ds' w' hD => by
      obtain ⟨p0, e0, hD⟩ := dPtr_elim hD; obtain ⟨n1, e1, hD⟩ := dInt_elim hD; obtain ⟨n10, e10, hD⟩ := dInt_elim hD; obtain ⟨l28, e28, hD⟩ := dSl_elim hD; obtain ⟨n29, e29, hD⟩ := dInt_elim hD; obtain ⟨n30, e30, hD⟩ := dInt_elim hD; exact F34_4_ok R p0 n1 n10 l28 n29 n30 ds' w' E' e0 e1 e10 e28 e29 e30 hD) h
theorem F34_calls (p0 : Option Addr) (n1 : Int) (s2 : ByteArray) (w : World) (R : Rt) (h : F34_5 R p0 n1 s2 [] w) : Calls prog 34 #[.pointer p0, .int .i64 n1, .string s2] w R :=
  calls_of_L (l := [c34_0, c34_1, c34_2, c34_3, c34_4, c34_5, c34_6, c34_7, c34_8, c34_9]) func34 (by kernel_rfl) (by rw [ntmps34]; exact Nat.le_of_ble_eq_true (by kernel_rfl)) c34_l
    (F34_5_ok R p0 n1 s2 [] w _ rfl rfl rfl h)
noncomputable def c83_0 := cI3 f83 0
noncomputable def c83_1 := cI3 f83 1
noncomputable def c83_2 := cI3 f83 2
def F83_q1 (R : Rt) : EQ := endQ prog f83.results.toList R
def F83_1 (R : Rt) (l0 : SV) (b1 : Bool) (ds : Ds) (w : World) : Prop :=
 Calls prog 107 #[.slice l0.a l0.len l0.cap, .bool b1] w fun e w1 =>
 ∃ n7 : Int, e = .returned (.int .i64 n7) /\
 runD prog ds w1 fun w2 =>
 R (.returned (.bool (decide (n7 ≥ 0)))) w2
theorem c83_l : flat (bodyOf f83) = [c83_0, c83_1, c83_2] := by kernel_rfl
theorem F83_1_ok (R : Rt) (l0 : SV) (b1 : Bool) (ds : Ds) (w : World) (E : Env) (e0 : E 0 = .slice l0.a l0.len l0.cap) (e1 : E 1 = .bool b1) (h : F83_1 R l0 b1 ds w) :
    TrL prog f83.ntmps [c83_0, c83_1, c83_2] (F83_q1 R) E ds w :=
  TrL_leaf (X := F83_1 R l0 b1 ds w) (setAll_cons e0 (setAll_cons e1 setAll_nil)) (by kernel_rfl) (by kernel_rfl) h
theorem F83_calls (l0 : SV) (b1 : Bool) (w : World) (R : Rt) (h : F83_1 R l0 b1 [] w) : Calls prog 83 #[.slice l0.a l0.len l0.cap, .bool b1] w R :=
  calls_of_L (l := [c83_0, c83_1, c83_2]) func83 (by kernel_rfl) (by rw [ntmps83]; exact Nat.le_of_ble_eq_true (by kernel_rfl)) c83_l
    (F83_1_ok R l0 b1 [] w _ rfl rfl h)
noncomputable def c107_0 := cI3 f107 0
noncomputable def c107_1 := cI3 f107 1
noncomputable def c107_2 := cI3 f107 2
noncomputable def c107_3 := cI3 f107 3
noncomputable def c107_4 := cI3 f107 4
noncomputable def c107_2_0 := cJ3 c107_2 0
noncomputable def c107_2_0_0 := cJ3 c107_2_0 0
noncomputable def c107_2_0_1 := cJ3 c107_2_0 1
noncomputable def c107_2_0_2 := cJ3 c107_2_0 2
noncomputable def c107_2_0_3 := cJ3 c107_2_0 3
def F107_q1 (R : Rt) : EQ := endQ prog f107.results.toList R
def F107_1 (R : Rt) (ds : Ds) (w : World) : Prop :=
 runD prog ds w fun w1 =>
 R (.returned (.int .i64 (-1))) w1
def F107_k2 (R : Rt) : EP := (fun E ds w => F107_1 R ds w)
def F107_q3 (R : Rt) : EQ := (thenQ (F107_k2 R) (F107_q1 R))
def F107_q4 (R : Rt) : EQ := (blockQ 0 (F107_q3 R))
def F107_q5 (R : Rt) (J1 : (Int) -> World -> Prop) : EQ := (thenQ (fun E _ w => dInt .i64 (E 8) fun n8 => J1 n8 w) (F107_q4 R))
def F107_2 (R : Rt) (J1 : (Int) -> World -> Prop) (l0 : SV) (b1 : Bool) (n7 n8 : Int) (ds : Ds) (w : World) : Prop :=
 Br (decide (n8 < n7)) (
 ∃ a2 : Addr, l0.a = some a2 /\ 0 <= n8 /\ n8 < (l0.len : Int) /\
 ∃ b15 : Bool, w.cell? (a2.add (n8.toNat * 1)) = some (.bool b15) /\
 Br (b1 == b15) (
 runD prog ds w fun w3 =>
 R (.returned (.int .i64 n8)) w3) (
 J1 (IntKind.i64.wrap (n8 + 1)) w)) (
 F107_1 R ds w)
def F107_3 (R : Rt) (l0 : SV) (b1 : Bool) (n7 n8 : Int) (ds : Ds) (w : World) : Prop :=
 loopT (fun (J1 : (Int) -> World -> Prop) (s : Int) (w : World) => F107_2 R J1 l0 b1 n7 s ds w) n8 w
abbrev F107_4 (R : Rt) (l0 : SV) (b1 : Bool) (n7 n8 : Int) (ds : Ds) (w : World) : Prop := F107_3 R l0 b1 n7 n8 ds w
def F107_k6 (R : Rt) : EP := (fun E ds w => dSl (E 0) fun l0 => dBl (E 1) fun b1 => dInt .i64 (E 7) fun n7 => dInt .i64 (E 8) fun n8 => F107_4 R l0 b1 n7 n8 ds w)
def F107_5 (R : Rt) (l0 : SV) (b1 : Bool) (ds : Ds) (w : World) : Prop :=
 F107_4 R l0 b1 (l0.len : Int) 0 ds w
theorem c107_l : flat (bodyOf f107) = [c107_0, c107_1, c107_2, c107_3, c107_4] := by kernel_rfl
theorem c107_2_l : flat (innerC c107_2) = [c107_2_0] := by kernel_rfl
theorem c107_2_0_l : flat (innerC c107_2_0) = [c107_2_0_0, c107_2_0_1, c107_2_0_2, c107_2_0_3] := by kernel_rfl
theorem F107_1_ok (R : Rt) (ds : Ds) (w : World) (E : Env) (h : F107_1 R ds w) :
    TrL prog f107.ntmps [c107_3, c107_4] (F107_q1 R) E ds w :=
  TrL_leaf (X := F107_1 R ds w) setAll_nil (by kernel_rfl) (by kernel_rfl) h
theorem F107_2_ok (R : Rt) (J1 : (Int) -> World -> Prop) (l0 : SV) (b1 : Bool) (n7 n8 : Int) (ds : Ds) (w : World) (E : Env) (e0 : E 0 = .slice l0.a l0.len l0.cap) (e1 : E 1 = .bool b1) (e7 : E 7 = .int .i64 n7) (e8 : E 8 = .int .i64 n8) (h : F107_2 R J1 l0 b1 n7 n8 ds w) :
    TrL prog f107.ntmps [c107_2_0_0, c107_2_0_1, c107_2_0_2, c107_2_0_3] (F107_q5 R J1) E ds w :=
  TrL_leaf (X := F107_2 R J1 l0 b1 n7 n8 ds w) (setAll_cons e0 (setAll_cons e1 (setAll_cons e7 (setAll_cons e8 setAll_nil)))) (by kernel_rfl) (by kernel_rfl) h
theorem F107_3_ok (R : Rt) (l0 : SV) (b1 : Bool) (n7 n8 : Int) (ds : Ds) (w : World) (E : Env) (e0 : E 0 = .slice l0.a l0.len l0.cap) (e1 : E 1 = .bool b1) (e7 : E 7 = .int .i64 n7) (e8 : E 8 = .int .i64 n8) (h : F107_3 R l0 b1 n7 n8 ds w) :
    TrL prog f107.ntmps [c107_2_0] (F107_q4 R) E ds w :=
  TrL_one (Tr_loop' (c := innerC c107_2_0) (σ := Int) (enc := (fun (s : Int) (E : Env) => E 8 = .int .i64 s)) (D := (fun E K => dInt .i64 (E 8) fun n8 => K n8)) (F := (fun (J1 : (Int) -> World -> Prop) (s : Int) (w : World) => F107_2 R J1 l0 b1 n7 s ds w)) (s0 := n8) (by kernel_rfl) c107_2_0_l e8 (by kernel_rfl) (fun E K hD => by obtain ⟨n8, e8, hD⟩ := dInt_elim hD; exact ⟨n8, e8, hD⟩)
      (fun J1 s E' w' he ha hF => by
      have e8' := he
      exact F107_2_ok R J1 l0 b1 n7 s ds w' E' ((ha 0 (by kernel_rfl)).trans e0) ((ha 1 (by kernel_rfl)).trans e1) ((ha 7 (by kernel_rfl)).trans e7) e8' hF) h)
theorem F107_4_ok (R : Rt) (l0 : SV) (b1 : Bool) (n7 n8 : Int) (ds : Ds) (w : World) (E : Env) (e0 : E 0 = .slice l0.a l0.len l0.cap) (e1 : E 1 = .bool b1) (e7 : E 7 = .int .i64 n7) (e8 : E 8 = .int .i64 n8) (h : F107_4 R l0 b1 n7 n8 ds w) :
    TrL prog f107.ntmps [c107_2, c107_3, c107_4] (F107_q1 R) E ds w :=
  TrL_head (K := (F107_k2 R)) (Tr_block' (c := innerC c107_2) (by kernel_rfl) c107_2_l (F107_3_ok R l0 b1 n7 n8 ds w E e0 e1 e7 e8 h))
    (fun E' ds' w' hD => by
      exact F107_1_ok R ds' w' E'  hD)
theorem F107_5_ok (R : Rt) (l0 : SV) (b1 : Bool) (ds : Ds) (w : World) (E : Env) (e0 : E 0 = .slice l0.a l0.len l0.cap) (e1 : E 1 = .bool b1) (h : F107_5 R l0 b1 ds w) :
    TrL prog f107.ntmps [c107_0, c107_1, c107_2, c107_3, c107_4] (F107_q1 R) E ds w :=
  TrL_piece (pre := [c107_0, c107_1]) (K := (F107_k6 R)) (X := F107_5 R l0 b1 ds w) (setAll_cons e0 (setAll_cons e1 setAll_nil)) (by kernel_rfl) (by kernel_rfl)
    (fun E' ds' w' hD => by
      obtain ⟨l0, e0, hD⟩ := dSl_elim hD; obtain ⟨b1, e1, hD⟩ := dBl_elim hD; obtain ⟨n7, e7, hD⟩ := dInt_elim hD; obtain ⟨n8, e8, hD⟩ := dInt_elim hD; exact F107_4_ok R l0 b1 n7 n8 ds' w' E' e0 e1 e7 e8 hD) h
theorem F107_calls (l0 : SV) (b1 : Bool) (w : World) (R : Rt) (h : F107_5 R l0 b1 [] w) : Calls prog 107 #[.slice l0.a l0.len l0.cap, .bool b1] w R :=
  calls_of_L (l := [c107_0, c107_1, c107_2, c107_3, c107_4]) func107 (by kernel_rfl) (by rw [ntmps107]; exact Nat.le_of_ble_eq_true (by kernel_rfl)) c107_l
    (F107_5_ok R l0 b1 [] w _ rfl rfl h)
noncomputable def c14_0 := cI3 f14 0
noncomputable def c14_1 := cI3 f14 1
noncomputable def c14_2 := cI3 f14 2
noncomputable def c14_3 := cI3 f14 3
noncomputable def c14_4 := cI3 f14 4
noncomputable def c14_5 := cI3 f14 5
noncomputable def c14_6 := cI3 f14 6
noncomputable def c14_7 := cI3 f14 7
noncomputable def c14_8 := cI3 f14 8
noncomputable def c14_9 := cI3 f14 9
noncomputable def c14_10 := cI3 f14 10
noncomputable def c14_11 := cI3 f14 11
noncomputable def c14_12 := cI3 f14 12
noncomputable def c14_13 := cI3 f14 13
noncomputable def c14_9_0 := cJ3 c14_9 0
noncomputable def c14_9_0_0 := cJ3 c14_9_0 0
noncomputable def c14_9_0_1 := cJ3 c14_9_0 1
noncomputable def c14_9_0_2 := cJ3 c14_9_0 2
noncomputable def c14_9_0_2_0 := cJ3 c14_9_0_2 0
noncomputable def c14_9_0_2_1 := cJ3 c14_9_0_2 1
noncomputable def c14_9_0_2_2 := cJ3 c14_9_0_2 2
noncomputable def c14_9_0_2_2_0 := cJ3 c14_9_0_2_2 0
noncomputable def c14_9_0_2_2_0_0 := cJ3 c14_9_0_2_2_0 0
noncomputable def c14_9_0_2_2_0_1 := cJ3 c14_9_0_2_2_0 1
noncomputable def c14_9_0_2_2_0_2 := cJ3 c14_9_0_2_2_0 2
noncomputable def c14_9_0_2_2_0_3 := cJ3 c14_9_0_2_2_0 3
def F14_q1 (R : Rt) : EQ := endQ prog f14.results.toList R
def F14_1 (R : Rt) (p0 p3 : Option Addr) (n6 : Int) (ds : Ds) (w : World) : Prop :=
 dwE w fun w1 =>
 ∃ S1 : World -> Prop, S1 w1 /\
 ptrE p3 fun a2 =>
 ∃ n47 : Int, (∀ w', S1 w' -> w'.cell? a2 = some (.int .i64 n47)) /\
 ptrE p0 fun a3 =>
 alE (.map #[] 0) w1 fun r48 w4 =>
 S1 w4 /\
 0 <= n47 /\ n47 < (4 : Int) /\
 st1 ((a3.add 3).add (n47.toNat * 1)) (.map (some r48)) w4 fun w5 =>
 ptrE p0 fun a6 =>
 ∃ l56 : SV, w5.cell? (a6.add 7) = some (.slice l56.a l56.len l56.cap) /\
 Calls prog 48 #[.slice l56.a l56.len l56.cap, .func (.func 49) #[] #[.pointer p3]] w5 fun e w7 =>
 ∃ l58 : SV, e = .returned (.slice l58.a l58.len l58.cap) /\
 ptrE p0 fun a8 =>
 st1 (a8.add 7) (.slice l58.a l58.len l58.cap) w7 fun w9 =>
 runD prog ds w9 fun w10 =>
 R (.returned (.tuple #[.int .i64 n6, .int .i64 0])) w10
def F14_k2 (R : Rt) : EP := (fun E ds w => dPtr (E 0) fun p0 => dPtr (E 3) fun p3 => dInt .i64 (E 6) fun n6 => F14_1 R p0 p3 n6 ds w)
def F14_q3 (R : Rt) : EQ := (thenQ (F14_k2 R) (F14_q1 R))
def F14_q4 (R : Rt) : EQ := (blockQ 0 (F14_q3 R))
def F14_q5 (R : Rt) (J1 : (Int) -> World -> Prop) : EQ := (thenQ (fun E _ w => dInt .i64 (E 6) fun n6 => J1 n6 w) (F14_q4 R))
def F14_q6 (R : Rt) (J1 : (Int) -> World -> Prop) : EQ := (blockQ 1 (F14_q5 R J1))
def F14_q7 (R : Rt) (J1 : (Int) -> World -> Prop) : EQ := (blockQ 2 (F14_q6 R J1))
def F14_q8 (R : Rt) (J1 : (Int) -> World -> Prop) (J2 : (Int × Int) -> World -> Prop) : EQ := (thenQ (fun E _ w => dInt .i64 (E 6) fun n6 => dInt .i64 (E 39) fun n39 => J2 (n6, n39) w) (F14_q7 R J1))
def F14_2 (R : Rt) (J1 : (Int) -> World -> Prop) (J2 : (Int × Int) -> World -> Prop) (p0 p3 : Option Addr) (n6 : Int) (p32 : Option Addr) (c38 : Array Value) (n39 : Int) (ds : Ds) (w : World) : Prop :=
 Br (decide (n39 < 32)) (
 ∃ b41 : Bool, ∃ w11 : World, (Instr.index 87 (.agg c38) (.int .i64 n39)).run prog w = .ok (.bool b41) w11 /\
 Br b41 (
 J2 ((IntKind.i64.wrap (n6 + 1)), (IntKind.i64.wrap (n39 + 1))) w11) (
 J2 (n6, (IntKind.i64.wrap (n39 + 1))) w11)) (
 J1 n6 w)
def F14_3 (R : Rt) (J1 : (Int) -> World -> Prop) (p0 p3 : Option Addr) (n6 : Int) (p32 : Option Addr) (c38 : Array Value) (n39 : Int) (ds : Ds) (w : World) : Prop :=
 loopT (fun (J2 : (Int × Int) -> World -> Prop) (s : Int × Int) (w : World) => F14_2 R J1 J2 p0 p3 s.1 p32 c38 s.2 ds w) (n6, n39) w
abbrev F14_4 (R : Rt) (J1 : (Int) -> World -> Prop) (p0 p3 : Option Addr) (n6 : Int) (p32 : Option Addr) (c38 : Array Value) (n39 : Int) (ds : Ds) (w : World) : Prop := F14_3 R J1 p0 p3 n6 p32 c38 n39 ds w
def F14_k9 (R : Rt) (J1 : (Int) -> World -> Prop) : EP := (fun E ds w => dPtr (E 0) fun p0 => dPtr (E 3) fun p3 => dInt .i64 (E 6) fun n6 => dPtr (E 32) fun p32 => dRow (E 38) fun c38 => dInt .i64 (E 39) fun n39 => F14_4 R J1 p0 p3 n6 p32 c38 n39 ds w)
def F14_5 (R : Rt) (J1 : (Int) -> World -> Prop) (p0 p3 : Option Addr) (n6 : Int) (p32 : Option Addr) (ds : Ds) (w : World) : Prop :=
 ∃ k35 v35 : Value, ∃ w12 : World, (Instr.entry (.pointer p32)).run prog w = .ok (.tuple #[k35, v35]) w12 /\
 dRow v35 fun c36 =>
 alE (.cells (zc prog 89) 89) w12 fun r8 w13 =>
 stA prog 89 (⟨r8, 0, none⟩ : Addr) c36 w13 fun w14 =>
 ∃ c38 : Array Value, c38.size = 32 /\ (∀ i, i < 32 -> w14.cell? (((⟨r8, 0, none⟩ : Addr).add 64).add i) = c38[i]?) /\
 F14_4 R J1 p0 p3 n6 p32 c38 0 ds w14
abbrev F14_6 (R : Rt) (J1 : (Int) -> World -> Prop) (p0 p3 : Option Addr) (n6 : Int) (p32 : Option Addr) (ds : Ds) (w : World) : Prop := F14_5 R J1 p0 p3 n6 p32 ds w
def F14_k10 (R : Rt) (J1 : (Int) -> World -> Prop) : EP := (fun E ds w => dPtr (E 0) fun p0 => dPtr (E 3) fun p3 => dInt .i64 (E 6) fun n6 => dPtr (E 32) fun p32 => F14_6 R J1 p0 p3 n6 p32 ds w)
def F14_7 (R : Rt) (J1 : (Int) -> World -> Prop) (p0 p3 : Option Addr) (n6 : Int) (p32 : Option Addr) (ds : Ds) (w : World) : Prop :=
 (∃ w15 : World, (Instr.next (.pointer p32) false 0).run prog w = .ok (.tuple #[.bool false]) w15 /\
 F14_1 R p0 p3 n6 ds w15) ∨ (∃ k33 v33 : Value, ∃ w16 : World, (Instr.next (.pointer p32) false 0).run prog w = .ok (.tuple #[.bool true, k33, v33]) w16 /\
 F14_6 R J1 p0 p3 n6 p32 ds w16)
def F14_8 (R : Rt) (p0 p3 : Option Addr) (n6 : Int) (p32 : Option Addr) (ds : Ds) (w : World) : Prop :=
 loopT (fun (J1 : (Int) -> World -> Prop) (s : Int) (w : World) => F14_7 R J1 p0 p3 s p32 ds w) n6 w
abbrev F14_9 (R : Rt) (p0 p3 : Option Addr) (n6 : Int) (p32 : Option Addr) (ds : Ds) (w : World) : Prop := F14_8 R p0 p3 n6 p32 ds w
def F14_k11 (R : Rt) : EP := (fun E ds w => dPtr (E 0) fun p0 => dPtr (E 3) fun p3 => dInt .i64 (E 6) fun n6 => dPtr (E 32) fun p32 => F14_9 R p0 p3 n6 p32 ds w)
def F14_10 (R : Rt) (p0 : Option Addr) (n1 : Int) (ds : Ds) (w : World) : Prop :=
 alE (.cells #[.int .i64 n1] 3) w fun r3 w17 =>
 ∃ b12 : Bool, ∃ w18 : World, (eqS .eql 25 (.tmp 11) (.const (.pointer none)) (.pointer p0) (.pointer none)).run prog w17 = .ok (.bool b12) w18 /\
 Br b12 (
 runD prog ds w18 fun w19 =>
 R (.returned (.tuple #[.int .i64 0, .int .i64 9])) w19) (
 ptrE p0 fun a20 =>
 Calls prog 46 #[.pointer (some a20)] w18 fun e w21 =>
 e = .returned (.tuple #[]) /\
 ptrE p0 fun a22 =>
 ∃ n20 : Int, w21.cell? (⟨r3, 0, none⟩ : Addr) = some (.int .i64 n20) /\
 Br (decide (n20 < 0)) (
 runD prog ({ target := .fn (.func 47) #[], args := #[.pointer (some a22)] } :: ds) w21 fun w23 =>
 R (.returned (.tuple #[.int .i64 0, .int .i64 1])) w23) (
 ∃ n23 : Int, w21.cell? (⟨r3, 0, none⟩ : Addr) = some (.int .i64 n23) /\
 Br (decide (n23 ≥ 4)) (
 runD prog ({ target := .fn (.func 47) #[], args := #[.pointer (some a22)] } :: ds) w21 fun w24 =>
 R (.returned (.tuple #[.int .i64 0, .int .i64 1])) w24) (
 dwE w21 fun w25 =>
 ∃ n27 : Int, w25.cell? (⟨r3, 0, none⟩ : Addr) = some (.int .i64 n27) /\
 ptrE p0 fun a26 =>
 0 <= n27 /\ n27 < (4 : Int) /\
 ∃ m31 : Option Nat, w25.cell? ((a26.add 3).add (n27.toNat * 1)) = some (.map m31) /\
 ∃ p32 : Option Addr, ∃ w27 : World, (Instr.range 63 (.map m31)).run prog w25 = .ok (.pointer p32) w27 /\
 F14_9 R p0 (some (⟨r3, 0, none⟩ : Addr)) 0 p32 ({ target := .fn (.func 47) #[], args := #[.pointer (some a22)] } :: ds) w27)))
theorem c14_l : flat (bodyOf f14) = [c14_0, c14_1, c14_2, c14_3, c14_4, c14_5, c14_6, c14_7, c14_8, c14_9, c14_10, c14_11, c14_12, c14_13] := by kernel_rfl
theorem c14_9_l : flat (innerC c14_9) = [c14_9_0] := by kernel_rfl
theorem c14_9_0_l : flat (innerC c14_9_0) = [c14_9_0_0, c14_9_0_1, c14_9_0_2] := by kernel_rfl
theorem c14_9_0_2_l : flat (innerC c14_9_0_2) = [c14_9_0_2_0, c14_9_0_2_1, c14_9_0_2_2] := by kernel_rfl
theorem c14_9_0_2_2_l : flat (innerC c14_9_0_2_2) = [c14_9_0_2_2_0] := by kernel_rfl
theorem c14_9_0_2_2_0_l : flat (innerC c14_9_0_2_2_0) = [c14_9_0_2_2_0_0, c14_9_0_2_2_0_1, c14_9_0_2_2_0_2, c14_9_0_2_2_0_3] := by kernel_rfl
theorem F14_1_ok (R : Rt) (p0 p3 : Option Addr) (n6 : Int) (ds : Ds) (w : World) (E : Env) (e0 : E 0 = .pointer p0) (e3 : E 3 = .pointer p3) (e6 : E 6 = .int .i64 n6) (h : F14_1 R p0 p3 n6 ds w) :
    TrL prog f14.ntmps [c14_10, c14_11, c14_12, c14_13] (F14_q1 R) E ds w :=
  TrL_leaf (X := F14_1 R p0 p3 n6 ds w) (setAll_cons e0 (setAll_cons e3 (setAll_cons e6 setAll_nil))) (by kernel_rfl) (by kernel_rfl) h
theorem F14_2_ok (R : Rt) (J1 : (Int) -> World -> Prop) (J2 : (Int × Int) -> World -> Prop) (p0 p3 : Option Addr) (n6 : Int) (p32 : Option Addr) (c38 : Array Value) (n39 : Int) (ds : Ds) (w : World) (E : Env) (e0 : E 0 = .pointer p0) (e3 : E 3 = .pointer p3) (e6 : E 6 = .int .i64 n6) (e32 : E 32 = .pointer p32) (e38 : E 38 = .agg c38) (e39 : E 39 = .int .i64 n39) (h : F14_2 R J1 J2 p0 p3 n6 p32 c38 n39 ds w) :
    TrL prog f14.ntmps [c14_9_0_2_2_0_0, c14_9_0_2_2_0_1, c14_9_0_2_2_0_2, c14_9_0_2_2_0_3] (F14_q8 R J1 J2) E ds w :=
  TrL_leaf (X := F14_2 R J1 J2 p0 p3 n6 p32 c38 n39 ds w) (setAll_cons e0 (setAll_cons e3 (setAll_cons e6 (setAll_cons e32 (setAll_cons e38 (setAll_cons e39 setAll_nil)))))) (by kernel_rfl) (by kernel_rfl) h
theorem F14_3_ok (R : Rt) (J1 : (Int) -> World -> Prop) (p0 p3 : Option Addr) (n6 : Int) (p32 : Option Addr) (c38 : Array Value) (n39 : Int) (ds : Ds) (w : World) (E : Env) (e0 : E 0 = .pointer p0) (e3 : E 3 = .pointer p3) (e6 : E 6 = .int .i64 n6) (e32 : E 32 = .pointer p32) (e38 : E 38 = .agg c38) (e39 : E 39 = .int .i64 n39) (h : F14_3 R J1 p0 p3 n6 p32 c38 n39 ds w) :
    TrL prog f14.ntmps [c14_9_0_2_2_0] (F14_q7 R J1) E ds w :=
  TrL_one (Tr_loop' (c := innerC c14_9_0_2_2_0) (σ := Int × Int) (enc := (fun (s : Int × Int) (E : Env) => E 6 = .int .i64 s.1 /\ E 39 = .int .i64 s.2)) (D := (fun E K => dInt .i64 (E 6) fun n6 => dInt .i64 (E 39) fun n39 => K (n6, n39))) (F := (fun (J2 : (Int × Int) -> World -> Prop) (s : Int × Int) (w : World) => F14_2 R J1 J2 p0 p3 s.1 p32 c38 s.2 ds w)) (s0 := (n6, n39)) (by kernel_rfl) c14_9_0_2_2_0_l ⟨e6, e39⟩ (by kernel_rfl) (fun E K hD => by obtain ⟨n6, e6, hD⟩ := dInt_elim hD; obtain ⟨n39, e39, hD⟩ := dInt_elim hD; exact ⟨(n6, n39), ⟨e6, e39⟩, hD⟩)
      (fun J2 s E' w' he ha hF => by
      obtain ⟨e6', e39'⟩ := he
      exact F14_2_ok R J1 J2 p0 p3 s.1 p32 c38 s.2 ds w' E' ((ha 0 (by kernel_rfl)).trans e0) ((ha 3 (by kernel_rfl)).trans e3) e6' ((ha 32 (by kernel_rfl)).trans e32) ((ha 38 (by kernel_rfl)).trans e38) e39' hF) h)
theorem F14_4_ok (R : Rt) (J1 : (Int) -> World -> Prop) (p0 p3 : Option Addr) (n6 : Int) (p32 : Option Addr) (c38 : Array Value) (n39 : Int) (ds : Ds) (w : World) (E : Env) (e0 : E 0 = .pointer p0) (e3 : E 3 = .pointer p3) (e6 : E 6 = .int .i64 n6) (e32 : E 32 = .pointer p32) (e38 : E 38 = .agg c38) (e39 : E 39 = .int .i64 n39) (h : F14_4 R J1 p0 p3 n6 p32 c38 n39 ds w) :
    TrL prog f14.ntmps [c14_9_0_2_2] (F14_q6 R J1) E ds w :=
  TrL_one (Tr_block' (c := innerC c14_9_0_2_2) (by kernel_rfl) c14_9_0_2_2_l (F14_3_ok R J1 p0 p3 n6 p32 c38 n39 ds w E e0 e3 e6 e32 e38 e39 h))
theorem F14_5_ok (R : Rt) (J1 : (Int) -> World -> Prop) (p0 p3 : Option Addr) (n6 : Int) (p32 : Option Addr) (ds : Ds) (w : World) (E : Env) (e0 : E 0 = .pointer p0) (e3 : E 3 = .pointer p3) (e6 : E 6 = .int .i64 n6) (e32 : E 32 = .pointer p32) (h : F14_5 R J1 p0 p3 n6 p32 ds w) :
    TrL prog f14.ntmps [c14_9_0_2_0, c14_9_0_2_1, c14_9_0_2_2] (F14_q6 R J1) E ds w :=
  TrL_piece (pre := [c14_9_0_2_0, c14_9_0_2_1]) (K := (F14_k9 R J1)) (X := F14_5 R J1 p0 p3 n6 p32 ds w) (setAll_cons e0 (setAll_cons e3 (setAll_cons e6 (setAll_cons e32 setAll_nil)))) (by kernel_rfl) (by kernel_rfl)
    (fun E' ds' w' hD => by
      obtain ⟨p0, e0, hD⟩ := dPtr_elim hD; obtain ⟨p3, e3, hD⟩ := dPtr_elim hD; obtain ⟨n6, e6, hD⟩ := dInt_elim hD; obtain ⟨p32, e32, hD⟩ := dPtr_elim hD; obtain ⟨c38, e38, hD⟩ := dRow_elim hD; obtain ⟨n39, e39, hD⟩ := dInt_elim hD; exact F14_4_ok R J1 p0 p3 n6 p32 c38 n39 ds' w' E' e0 e3 e6 e32 e38 e39 hD) h
theorem F14_6_ok (R : Rt) (J1 : (Int) -> World -> Prop) (p0 p3 : Option Addr) (n6 : Int) (p32 : Option Addr) (ds : Ds) (w : World) (E : Env) (e0 : E 0 = .pointer p0) (e3 : E 3 = .pointer p3) (e6 : E 6 = .int .i64 n6) (e32 : E 32 = .pointer p32) (h : F14_6 R J1 p0 p3 n6 p32 ds w) :
    TrL prog f14.ntmps [c14_9_0_2] (F14_q5 R J1) E ds w :=
  TrL_one (Tr_block' (c := innerC c14_9_0_2) (by kernel_rfl) c14_9_0_2_l (F14_5_ok R J1 p0 p3 n6 p32 ds w E e0 e3 e6 e32 h))
theorem F14_7_ok (R : Rt) (J1 : (Int) -> World -> Prop) (p0 p3 : Option Addr) (n6 : Int) (p32 : Option Addr) (ds : Ds) (w : World) (E : Env) (e0 : E 0 = .pointer p0) (e3 : E 3 = .pointer p3) (e6 : E 6 = .int .i64 n6) (e32 : E 32 = .pointer p32) (h : F14_7 R J1 p0 p3 n6 p32 ds w) :
    TrL prog f14.ntmps [c14_9_0_0, c14_9_0_1, c14_9_0_2] (F14_q5 R J1) E ds w :=
  TrL_piece (pre := [c14_9_0_0, c14_9_0_1]) (K := (F14_k10 R J1)) (X := F14_7 R J1 p0 p3 n6 p32 ds w) (setAll_cons e0 (setAll_cons e3 (setAll_cons e6 (setAll_cons e32 setAll_nil)))) (by kernel_rfl) (by kernel_rfl)
    (fun E' ds' w' hD => by
      obtain ⟨p0, e0, hD⟩ := dPtr_elim hD; obtain ⟨p3, e3, hD⟩ := dPtr_elim hD; obtain ⟨n6, e6, hD⟩ := dInt_elim hD; obtain ⟨p32, e32, hD⟩ := dPtr_elim hD; exact F14_6_ok R J1 p0 p3 n6 p32 ds' w' E' e0 e3 e6 e32 hD) h
theorem F14_8_ok (R : Rt) (p0 p3 : Option Addr) (n6 : Int) (p32 : Option Addr) (ds : Ds) (w : World) (E : Env) (e0 : E 0 = .pointer p0) (e3 : E 3 = .pointer p3) (e6 : E 6 = .int .i64 n6) (e32 : E 32 = .pointer p32) (h : F14_8 R p0 p3 n6 p32 ds w) :
    TrL prog f14.ntmps [c14_9_0] (F14_q4 R) E ds w :=
  TrL_one (Tr_loop' (c := innerC c14_9_0) (σ := Int) (enc := (fun (s : Int) (E : Env) => E 6 = .int .i64 s)) (D := (fun E K => dInt .i64 (E 6) fun n6 => K n6)) (F := (fun (J1 : (Int) -> World -> Prop) (s : Int) (w : World) => F14_7 R J1 p0 p3 s p32 ds w)) (s0 := n6) (by kernel_rfl) c14_9_0_l e6 (by kernel_rfl) (fun E K hD => by obtain ⟨n6, e6, hD⟩ := dInt_elim hD; exact ⟨n6, e6, hD⟩)
      (fun J1 s E' w' he ha hF => by
      have e6' := he
      exact F14_7_ok R J1 p0 p3 s p32 ds w' E' ((ha 0 (by kernel_rfl)).trans e0) ((ha 3 (by kernel_rfl)).trans e3) e6' ((ha 32 (by kernel_rfl)).trans e32) hF) h)
theorem F14_9_ok (R : Rt) (p0 p3 : Option Addr) (n6 : Int) (p32 : Option Addr) (ds : Ds) (w : World) (E : Env) (e0 : E 0 = .pointer p0) (e3 : E 3 = .pointer p3) (e6 : E 6 = .int .i64 n6) (e32 : E 32 = .pointer p32) (h : F14_9 R p0 p3 n6 p32 ds w) :
    TrL prog f14.ntmps [c14_9, c14_10, c14_11, c14_12, c14_13] (F14_q1 R) E ds w :=
  TrL_head (K := (F14_k2 R)) (Tr_block' (c := innerC c14_9) (by kernel_rfl) c14_9_l (F14_8_ok R p0 p3 n6 p32 ds w E e0 e3 e6 e32 h))
    (fun E' ds' w' hD => by
      obtain ⟨p0, e0, hD⟩ := dPtr_elim hD; obtain ⟨p3, e3, hD⟩ := dPtr_elim hD; obtain ⟨n6, e6, hD⟩ := dInt_elim hD; exact F14_1_ok R p0 p3 n6 ds' w' E' e0 e3 e6 hD)
theorem F14_10_ok (R : Rt) (p0 : Option Addr) (n1 : Int) (ds : Ds) (w : World) (E : Env) (e0 : E 0 = .pointer p0) (e1 : E 1 = .int .i64 n1) (h : F14_10 R p0 n1 ds w) :
    TrL prog f14.ntmps [c14_0, c14_1, c14_2, c14_3, c14_4, c14_5, c14_6, c14_7, c14_8, c14_9, c14_10, c14_11, c14_12, c14_13] (F14_q1 R) E ds w :=
  TrL_piece (pre := [c14_0, c14_1, c14_2, c14_3, c14_4, c14_5, c14_6, c14_7, c14_8]) (K := (F14_k11 R)) (X := F14_10 R p0 n1 ds w) (setAll_cons e0 (setAll_cons e1 setAll_nil)) (by kernel_rfl) (by kernel_rfl)
    (fun E' ds' w' hD => by
      obtain ⟨p0, e0, hD⟩ := dPtr_elim hD; obtain ⟨p3, e3, hD⟩ := dPtr_elim hD; obtain ⟨n6, e6, hD⟩ := dInt_elim hD; obtain ⟨p32, e32, hD⟩ := dPtr_elim hD; exact F14_9_ok R p0 p3 n6 p32 ds' w' E' e0 e3 e6 e32 hD) h
theorem F14_calls (p0 : Option Addr) (n1 : Int) (w : World) (R : Rt) (h : F14_10 R p0 n1 [] w) : Calls prog 14 #[.pointer p0, .int .i64 n1] w R :=
  calls_of_L (l := [c14_0, c14_1, c14_2, c14_3, c14_4, c14_5, c14_6, c14_7, c14_8, c14_9, c14_10, c14_11, c14_12, c14_13]) func14 (by kernel_rfl) (by rw [ntmps14]; exact Nat.le_of_ble_eq_true (by kernel_rfl)) c14_l
    (F14_10_ok R p0 n1 [] w _ rfl rfl h)
noncomputable def c48_0 := cI3 f48 0
noncomputable def c48_1 := cI3 f48 1
noncomputable def c48_2 := cI3 f48 2
noncomputable def c48_3 := cI3 f48 3
noncomputable def c48_4 := cI3 f48 4
noncomputable def c48_5 := cI3 f48 5
noncomputable def c48_6 := cI3 f48 6
noncomputable def c48_7 := cI3 f48 7
noncomputable def c48_8 := cI3 f48 8
noncomputable def c48_5_0 := cJ3 c48_5 0
noncomputable def c48_5_0_0 := cJ3 c48_5_0 0
noncomputable def c48_5_0_1 := cJ3 c48_5_0 1
noncomputable def c48_5_0_2 := cJ3 c48_5_0 2
noncomputable def c48_5_0_3 := cJ3 c48_5_0 3
def F48_q1 (R : Rt) : EQ := endQ prog f48.results.toList R
def F48_1 (R : Rt) (l0 : SV) (n5 : Int) (ds : Ds) (w : World) : Prop :=
 l0.len <= l0.cap /\ 0 <= n5 /\ n5.toNat <= l0.len /\
 ∃ w1 : World, (Builtin.clear_ #[65] 0 #[.slice (if l0.cap = n5.toNat then l0.a else l0.a.map (fun x => x.add (n5.toNat * 4))) (l0.len - n5.toNat) (l0.cap - n5.toNat)]).run prog w = .ok (.tuple #[]) w1 /\
 0 <= n5 /\ n5.toNat <= l0.cap /\ 0 <= n5.toNat /\
 runD prog ds w1 fun w2 =>
 R (.returned (.slice (if l0.cap = 0 then l0.a else l0.a.map (fun x => x.add (0 * 4))) (n5.toNat - 0) (l0.cap - 0))) w2
def F48_k2 (R : Rt) : EP := (fun E ds w => dSl (E 0) fun l0 => dInt .i64 (E 5) fun n5 => F48_1 R l0 n5 ds w)
def F48_q3 (R : Rt) : EQ := (thenQ (F48_k2 R) (F48_q1 R))
def F48_q4 (R : Rt) : EQ := (blockQ 0 (F48_q3 R))
def F48_q5 (R : Rt) (J1 : (Int × Int) -> World -> Prop) : EQ := (thenQ (fun E _ w => dInt .i64 (E 5) fun n5 => dInt .i64 (E 6) fun n6 => J1 (n5, n6) w) (F48_q4 R))
def F48_2 (R : Rt) (J1 : (Int × Int) -> World -> Prop) (l0 : SV) (v1 : Value) (n5 n6 : Int) (ds : Ds) (w : World) : Prop :=
 Br (decide (n6 < (l0.len : Int))) (
 ∃ a3 : Addr, l0.a = some a3 /\ 0 <= n6 /\ n6 < (l0.len : Int) /\
 ∃ n25_0 : Int, w.cell? ((a3.add (n6.toNat * 4)).add 0) = some (.int .i64 n25_0) /\
 ∃ s25_1 : ByteArray, w.cell? ((a3.add (n6.toNat * 4)).add 1) = some (.string s25_1) /\
 ∃ n25_2 : Int, w.cell? ((a3.add (n6.toNat * 4)).add 2) = some (.int .i64 n25_2) /\
 ∃ n25_3 : Int, w.cell? ((a3.add (n6.toNat * 4)).add 3) = some (.int .i64 n25_3) /\
 alE (.cells #[.int .i64 0, .string (⟨#[]⟩ : ByteArray), .int .i64 0, .int .i64 0] 95) w fun r7 w4 =>
 stA prog 95 (⟨r7, 0, none⟩ : Addr) #[.int .i64 n25_0, .string s25_1, .int .i64 n25_2, .int .i64 n25_3] w4 fun w5 =>
 ∃ n27_0 : Int, w5.cell? ((⟨r7, 0, none⟩ : Addr).add 0) = some (.int .i64 n27_0) /\
 ∃ s27_1 : ByteArray, w5.cell? ((⟨r7, 0, none⟩ : Addr).add 1) = some (.string s27_1) /\
 ∃ n27_2 : Int, w5.cell? ((⟨r7, 0, none⟩ : Addr).add 2) = some (.int .i64 n27_2) /\
 ∃ n27_3 : Int, w5.cell? ((⟨r7, 0, none⟩ : Addr).add 3) = some (.int .i64 n27_3) /\
 fnE v1 fun f28 first28 cap28 =>
 hasBody prog f28 = true /\ Calls prog f28 (first28.toList ++ (([.agg #[.int .i64 n27_0, .string s27_1, .int .i64 n27_2, .int .i64 n27_3]] : List Value) ++ cap28.toList)).toArray w5 fun e w6 =>
 ∃ b28 : Bool, e = .returned (.bool b28) /\
 Br (!b28) (
 ∃ n32_0 : Int, w6.cell? ((⟨r7, 0, none⟩ : Addr).add 0) = some (.int .i64 n32_0) /\
 ∃ s32_1 : ByteArray, w6.cell? ((⟨r7, 0, none⟩ : Addr).add 1) = some (.string s32_1) /\
 ∃ n32_2 : Int, w6.cell? ((⟨r7, 0, none⟩ : Addr).add 2) = some (.int .i64 n32_2) /\
 ∃ n32_3 : Int, w6.cell? ((⟨r7, 0, none⟩ : Addr).add 3) = some (.int .i64 n32_3) /\
 ∃ a7 : Addr, l0.a = some a7 /\ 0 <= n5 /\ n5 < (l0.len : Int) /\
 stA prog 95 (a7.add (n5.toNat * 4)) #[.int .i64 n32_0, .string s32_1, .int .i64 n32_2, .int .i64 n32_3] w6 fun w8 =>
 J1 ((IntKind.i64.wrap (n5 + 1)), (IntKind.i64.wrap (n6 + 1))) w8) (
 J1 (n5, (IntKind.i64.wrap (n6 + 1))) w6)) (
 F48_1 R l0 n5 ds w)
def F48_3 (R : Rt) (l0 : SV) (v1 : Value) (n5 n6 : Int) (ds : Ds) (w : World) : Prop :=
 loopT (fun (J1 : (Int × Int) -> World -> Prop) (s : Int × Int) (w : World) => F48_2 R J1 l0 v1 s.1 s.2 ds w) (n5, n6) w
abbrev F48_4 (R : Rt) (l0 : SV) (v1 : Value) (n5 n6 : Int) (ds : Ds) (w : World) : Prop := F48_3 R l0 v1 n5 n6 ds w
def F48_k6 (R : Rt) : EP := (fun E ds w => dSl (E 0) fun l0 => dInt .i64 (E 5) fun n5 => dInt .i64 (E 6) fun n6 => F48_4 R l0 (E 1) n5 n6 ds w)
def F48_5 (R : Rt) (l0 : SV) (v1 : Value) (ds : Ds) (w : World) : Prop :=
 Calls prog 98 #[.slice l0.a l0.len l0.cap, v1] w fun e w9 =>
 ∃ n10 : Int, e = .returned (.int .i64 n10) /\
 Br (n10 == (-1)) (
 runD prog ds w9 fun w10 =>
 R (.returned (.slice l0.a l0.len l0.cap)) w10) (
 F48_4 R l0 (v1) n10 (IntKind.i64.wrap (n10 + 1)) ds w9)
theorem c48_l : flat (bodyOf f48) = [c48_0, c48_1, c48_2, c48_3, c48_4, c48_5, c48_6, c48_7, c48_8] := by kernel_rfl
theorem c48_5_l : flat (innerC c48_5) = [c48_5_0] := by kernel_rfl
theorem c48_5_0_l : flat (innerC c48_5_0) = [c48_5_0_0, c48_5_0_1, c48_5_0_2, c48_5_0_3] := by kernel_rfl
theorem F48_1_ok (R : Rt) (l0 : SV) (n5 : Int) (ds : Ds) (w : World) (E : Env) (e0 : E 0 = .slice l0.a l0.len l0.cap) (e5 : E 5 = .int .i64 n5) (h : F48_1 R l0 n5 ds w) :
    TrL prog f48.ntmps [c48_6, c48_7, c48_8] (F48_q1 R) E ds w :=
  TrL_leaf (X := F48_1 R l0 n5 ds w) (setAll_cons e0 (setAll_cons e5 setAll_nil)) (by kernel_rfl) (by kernel_rfl) h
theorem F48_2_ok (R : Rt) (J1 : (Int × Int) -> World -> Prop) (l0 : SV) (v1 : Value) (n5 n6 : Int) (ds : Ds) (w : World) (E : Env) (e0 : E 0 = .slice l0.a l0.len l0.cap) (e1 : E 1 = v1) (e5 : E 5 = .int .i64 n5) (e6 : E 6 = .int .i64 n6) (h : F48_2 R J1 l0 v1 n5 n6 ds w) :
    TrL prog f48.ntmps [c48_5_0_0, c48_5_0_1, c48_5_0_2, c48_5_0_3] (F48_q5 R J1) E ds w :=
  TrL_leaf (X := F48_2 R J1 l0 v1 n5 n6 ds w) (setAll_cons e0 (setAll_cons e1 (setAll_cons e5 (setAll_cons e6 setAll_nil)))) (by kernel_rfl) (by kernel_rfl) h
theorem F48_3_ok (R : Rt) (l0 : SV) (v1 : Value) (n5 n6 : Int) (ds : Ds) (w : World) (E : Env) (e0 : E 0 = .slice l0.a l0.len l0.cap) (e1 : E 1 = v1) (e5 : E 5 = .int .i64 n5) (e6 : E 6 = .int .i64 n6) (h : F48_3 R l0 v1 n5 n6 ds w) :
    TrL prog f48.ntmps [c48_5_0] (F48_q4 R) E ds w :=
  TrL_one (Tr_loop' (c := innerC c48_5_0) (σ := Int × Int) (enc := (fun (s : Int × Int) (E : Env) => E 5 = .int .i64 s.1 /\ E 6 = .int .i64 s.2)) (D := (fun E K => dInt .i64 (E 5) fun n5 => dInt .i64 (E 6) fun n6 => K (n5, n6))) (F := (fun (J1 : (Int × Int) -> World -> Prop) (s : Int × Int) (w : World) => F48_2 R J1 l0 v1 s.1 s.2 ds w)) (s0 := (n5, n6)) (by kernel_rfl) c48_5_0_l ⟨e5, e6⟩ (by kernel_rfl) (fun E K hD => by obtain ⟨n5, e5, hD⟩ := dInt_elim hD; obtain ⟨n6, e6, hD⟩ := dInt_elim hD; exact ⟨(n5, n6), ⟨e5, e6⟩, hD⟩)
      (fun J1 s E' w' he ha hF => by
      obtain ⟨e5', e6'⟩ := he
      exact F48_2_ok R J1 l0 v1 s.1 s.2 ds w' E' ((ha 0 (by kernel_rfl)).trans e0) ((ha 1 (by kernel_rfl)).trans e1) e5' e6' hF) h)
theorem F48_4_ok (R : Rt) (l0 : SV) (v1 : Value) (n5 n6 : Int) (ds : Ds) (w : World) (E : Env) (e0 : E 0 = .slice l0.a l0.len l0.cap) (e1 : E 1 = v1) (e5 : E 5 = .int .i64 n5) (e6 : E 6 = .int .i64 n6) (h : F48_4 R l0 v1 n5 n6 ds w) :
    TrL prog f48.ntmps [c48_5, c48_6, c48_7, c48_8] (F48_q1 R) E ds w :=
  TrL_head (K := (F48_k2 R)) (Tr_block' (c := innerC c48_5) (by kernel_rfl) c48_5_l (F48_3_ok R l0 v1 n5 n6 ds w E e0 e1 e5 e6 h))
    (fun E' ds' w' hD => by
      obtain ⟨l0, e0, hD⟩ := dSl_elim hD; obtain ⟨n5, e5, hD⟩ := dInt_elim hD; exact F48_1_ok R l0 n5 ds' w' E' e0 e5 hD)
theorem F48_5_ok (R : Rt) (l0 : SV) (v1 : Value) (ds : Ds) (w : World) (E : Env) (e0 : E 0 = .slice l0.a l0.len l0.cap) (e1 : E 1 = v1) (h : F48_5 R l0 v1 ds w) :
    TrL prog f48.ntmps [c48_0, c48_1, c48_2, c48_3, c48_4, c48_5, c48_6, c48_7, c48_8] (F48_q1 R) E ds w :=
  TrL_piece (pre := [c48_0, c48_1, c48_2, c48_3, c48_4]) (K := (F48_k6 R)) (X := F48_5 R l0 v1 ds w) (setAll_cons e0 (setAll_cons e1 setAll_nil)) (by kernel_rfl) (by kernel_rfl)
    (fun E' ds' w' hD => by
      obtain ⟨l0, e0, hD⟩ := dSl_elim hD; obtain ⟨n5, e5, hD⟩ := dInt_elim hD; obtain ⟨n6, e6, hD⟩ := dInt_elim hD; exact F48_4_ok R l0 (E' 1) n5 n6 ds' w' E' e0 rfl e5 e6 hD) h
theorem F48_calls (l0 : SV) (v1 : Value) (w : World) (R : Rt) (h : F48_5 R l0 v1 [] w) : Calls prog 48 #[.slice l0.a l0.len l0.cap, v1] w R :=
  calls_of_L (l := [c48_0, c48_1, c48_2, c48_3, c48_4, c48_5, c48_6, c48_7, c48_8]) func48 (by kernel_rfl) (by rw [ntmps48]; exact Nat.le_of_ble_eq_true (by kernel_rfl)) c48_l
    (F48_5_ok R l0 v1 [] w _ rfl rfl h)
noncomputable def c49_0 := cI3 f49 0
noncomputable def c49_1 := cI3 f49 1
noncomputable def c49_2 := cI3 f49 2
def F49_q1 (R : Rt) : EQ := endQ prog f49.results.toList R
def F49_1 (R : Rt) (n0_0 : Int) (s0_1 : ByteArray) (n0_2 n0_3 : Int) (v1 : Value) (ds : Ds) (w : World) : Prop :=
 alE (.cells #[.int .i64 n0_0, .string s0_1, .int .i64 n0_2, .int .i64 n0_3] 95) w fun r2 w1 =>
 ∃ n5 : Int, w1.cell? (⟨r2, 0, none⟩ : Addr) = some (.int .i64 n5) /\
 addrE v1 fun a2 =>
 ∃ n6 : Int, w1.cell? a2 = some (.int .i64 n6) /\
 runD prog ds w1 fun w3 =>
 R (.returned (.bool (n5 == n6))) w3
theorem c49_l : flat (bodyOf f49) = [c49_0, c49_1, c49_2] := by kernel_rfl
theorem F49_1_ok (R : Rt) (n0_0 : Int) (s0_1 : ByteArray) (n0_2 n0_3 : Int) (v1 : Value) (ds : Ds) (w : World) (E : Env) (e0 : E 0 = .agg #[.int .i64 n0_0, .string s0_1, .int .i64 n0_2, .int .i64 n0_3]) (e1 : E 1 = v1) (h : F49_1 R n0_0 s0_1 n0_2 n0_3 v1 ds w) :
    TrL prog f49.ntmps [c49_0, c49_1, c49_2] (F49_q1 R) E ds w :=
  TrL_leaf (X := F49_1 R n0_0 s0_1 n0_2 n0_3 v1 ds w) (setAll_cons e0 (setAll_cons e1 setAll_nil)) (by kernel_rfl) (by kernel_rfl) h
theorem F49_calls (n0_0 : Int) (s0_1 : ByteArray) (n0_2 n0_3 : Int) (v1 : Value) (w : World) (R : Rt) (h : F49_1 R n0_0 s0_1 n0_2 n0_3 v1 [] w) : Calls prog 49 #[.agg #[.int .i64 n0_0, .string s0_1, .int .i64 n0_2, .int .i64 n0_3], v1] w R :=
  calls_of_L (l := [c49_0, c49_1, c49_2]) func49 (by kernel_rfl) (by rw [ntmps49]; exact Nat.le_of_ble_eq_true (by kernel_rfl)) c49_l
    (F49_1_ok R n0_0 s0_1 n0_2 n0_3 v1 [] w _ rfl rfl h)
noncomputable def c37_0 := cI3 f37 0
noncomputable def c37_1 := cI3 f37 1
noncomputable def c37_2 := cI3 f37 2
noncomputable def c37_3 := cI3 f37 3
noncomputable def c37_4 := cI3 f37 4
noncomputable def c37_5 := cI3 f37 5
noncomputable def c37_6 := cI3 f37 6
noncomputable def c37_7 := cI3 f37 7
noncomputable def c37_8 := cI3 f37 8
noncomputable def c37_9 := cI3 f37 9
noncomputable def c37_10 := cI3 f37 10
noncomputable def c37_7_0 := cJ3 c37_7 0
noncomputable def c37_7_0_0 := cJ3 c37_7_0 0
noncomputable def c37_7_0_1 := cJ3 c37_7_0 1
noncomputable def c37_7_0_2 := cJ3 c37_7_0 2
noncomputable def c37_7_0_3 := cJ3 c37_7_0 3
noncomputable def c37_7_0_2_0 := cJ3 c37_7_0_2 0
noncomputable def c37_7_0_2_1 := cJ3 c37_7_0_2 1
noncomputable def c37_7_0_2_2 := cJ3 c37_7_0_2 2
noncomputable def c37_7_0_2_2_0 := cJ3 c37_7_0_2_2 0
noncomputable def c37_7_0_2_2_0_0 := cJ3 c37_7_0_2_2_0 0
noncomputable def c37_7_0_2_2_0_1 := cJ3 c37_7_0_2_2_0 1
noncomputable def c37_7_0_2_2_0_2 := cJ3 c37_7_0_2_2_0 2
noncomputable def c37_7_0_2_2_0_3 := cJ3 c37_7_0_2_2_0 3
def F37_q1 (R : Rt) : EQ := endQ prog f37.results.toList R
def F37_1 (R : Rt) (l10 : SV) (ds : Ds) (w : World) : Prop :=
 Calls prog 85 #[.slice l10.a l10.len l10.cap] w fun e w1 =>
 e = .returned (.tuple #[]) /\
 runD prog ds w1 fun w2 =>
 R (.returned (.tuple #[.slice l10.a l10.len l10.cap, .int .i64 0])) w2
def F37_k2 (R : Rt) : EP := (fun E ds w => dSl (E 10) fun l10 => F37_1 R l10 ds w)
def F37_q3 (R : Rt) : EQ := (thenQ (F37_k2 R) (F37_q1 R))
def F37_q4 (R : Rt) : EQ := (blockQ 0 (F37_q3 R))
def F37_q5 (R : Rt) (J1 : (SV × Int) -> World -> Prop) : EQ := (thenQ (fun E _ w => dSl (E 10) fun l10 => dInt .i64 (E 31) fun n31 => J1 (l10, n31) w) (F37_q4 R))
def F37_2 (R : Rt) (J1 : (SV × Int) -> World -> Prop) (p0 : Option Addr) (n1 : Int) (l10 l29 : SV) (n30 n31 : Int) (ds : Ds) (w : World) : Prop :=
 J1 (l10, (IntKind.i64.wrap (n31 + 1))) w
def F37_k6 (R : Rt) (J1 : (SV × Int) -> World -> Prop) : EP := (fun E ds w => dPtr (E 0) fun p0 => dInt .i64 (E 1) fun n1 => dSl (E 10) fun l10 => dSl (E 29) fun l29 => dInt .i64 (E 30) fun n30 => dInt .i64 (E 31) fun n31 => F37_2 R J1 p0 n1 l10 l29 n30 n31 ds w)
def F37_q7 (R : Rt) (J1 : (SV × Int) -> World -> Prop) : EQ := (thenQ (F37_k6 R J1) (F37_q5 R J1))
def F37_q8 (R : Rt) (J1 : (SV × Int) -> World -> Prop) : EQ := (blockQ 1 (F37_q7 R J1))
def F37_q9 (R : Rt) (J1 : (SV × Int) -> World -> Prop) : EQ := (blockQ 2 (F37_q8 R J1))
def F37_q10 (R : Rt) (J1 : (SV × Int) -> World -> Prop) (J2 : (SV × Int) -> World -> Prop) : EQ := (thenQ (fun E _ w => dSl (E 10) fun l10 => dInt .i64 (E 44) fun n44 => J2 (l10, n44) w) (F37_q9 R J1))
def F37_3 (R : Rt) (J1 : (SV × Int) -> World -> Prop) (J2 : (SV × Int) -> World -> Prop) (p0 : Option Addr) (n1 : Int) (l10 : SV) (p12 : Option Addr) (l29 : SV) (n30 n31 : Int) (c43 : Array Value) (n44 : Int) (ds : Ds) (w : World) : Prop :=
 Br (decide (n44 < 32)) (
 ∃ b47 : Bool, ∃ w3 : World, (Instr.index 87 (.agg c43) (.int .i64 n44)).run prog w = .ok (.bool b47) w3 /\
 Br b47 (
 ptrE p12 fun a4 =>
 ∃ n51 : Int, w3.cell? (a4.add 1) = some (.int .i64 n51) /\
 alE (.cells #[.int .i64 (IntKind.i64.wrap ((IntKind.i64.wrap (n51 * 32)) + n44))] 3) w3 fun r55 w5 =>
 ∃ l56 : SV, ∃ w6 : World, (Builtin.append_ #[74, 74] 74 #[.slice l10.a l10.len l10.cap, .slice (some ⟨r55, 0, none⟩) 1 1]).run prog w5 = .ok (.slice l56.a l56.len l56.cap) w6 /\
 J2 (l56, (IntKind.i64.wrap (n44 + 1))) w6) (
 J2 (l10, (IntKind.i64.wrap (n44 + 1))) w3)) (
 F37_2 R J1 p0 n1 l10 l29 n30 n31 ds w)
def F37_4 (R : Rt) (J1 : (SV × Int) -> World -> Prop) (p0 : Option Addr) (n1 : Int) (l10 : SV) (p12 : Option Addr) (l29 : SV) (n30 n31 : Int) (c43 : Array Value) (n44 : Int) (ds : Ds) (w : World) : Prop :=
 loopT (fun (J2 : (SV × Int) -> World -> Prop) (s : SV × Int) (w : World) => F37_3 R J1 J2 p0 n1 s.1 p12 l29 n30 n31 c43 s.2 ds w) (l10, n44) w
abbrev F37_5 (R : Rt) (J1 : (SV × Int) -> World -> Prop) (p0 : Option Addr) (n1 : Int) (l10 : SV) (p12 : Option Addr) (l29 : SV) (n30 n31 : Int) (c43 : Array Value) (n44 : Int) (ds : Ds) (w : World) : Prop := F37_4 R J1 p0 n1 l10 p12 l29 n30 n31 c43 n44 ds w
def F37_k11 (R : Rt) (J1 : (SV × Int) -> World -> Prop) : EP := (fun E ds w => dPtr (E 0) fun p0 => dInt .i64 (E 1) fun n1 => dSl (E 10) fun l10 => dPtr (E 12) fun p12 => dSl (E 29) fun l29 => dInt .i64 (E 30) fun n30 => dInt .i64 (E 31) fun n31 => dRow (E 43) fun c43 => dInt .i64 (E 44) fun n44 => F37_5 R J1 p0 n1 l10 p12 l29 n30 n31 c43 n44 ds w)
def F37_6 (R : Rt) (J1 : (SV × Int) -> World -> Prop) (p0 : Option Addr) (n1 : Int) (l10 l29 : SV) (n30 n31 : Int) (ds : Ds) (w : World) : Prop :=
 ∃ a7 : Addr, l29.a = some a7 /\ 0 <= n31 /\ n31 < (l29.len : Int) /\
 ∃ s34_0 : ByteArray, w.cell? ((a7.add (n31.toNat * 2)).add 0) = some (.string s34_0) /\
 ∃ n34_1 : Int, w.cell? ((a7.add (n31.toNat * 2)).add 1) = some (.int .i64 n34_1) /\
 alE (.cells #[.string (⟨#[]⟩ : ByteArray), .int .i64 0] 92) w fun r12 w8 =>
 stA prog 92 (⟨r12, 0, none⟩ : Addr) #[.string s34_0, .int .i64 n34_1] w8 fun w9 =>
 dwE w9 fun w10 =>
 ptrE p0 fun a11 =>
 0 <= n1 /\ n1 < (4 : Int) /\
 ∃ m40 : Option Nat, w10.cell? ((a11.add 3).add (n1.toNat * 1)) = some (.map m40) /\
 ∃ s41_0 : ByteArray, w10.cell? ((⟨r12, 0, none⟩ : Addr).add 0) = some (.string s41_0) /\
 ∃ n41_1 : Int, w10.cell? ((⟨r12, 0, none⟩ : Addr).add 1) = some (.int .i64 n41_1) /\
 ∃ c42 : Array Value, c42.size = 96 /\ (Instr.lookup 63 (.map m40) (.agg #[.string s41_0, .int .i64 n41_1]) false).run prog w10 = .ok (.agg c42) w10 /\
 F37_5 R J1 p0 n1 l10 (some (⟨r12, 0, none⟩ : Addr)) l29 n30 n31 (c42.extract 64 (64 + 32)) 0 ds w10
abbrev F37_7 (R : Rt) (J1 : (SV × Int) -> World -> Prop) (p0 : Option Addr) (n1 : Int) (l10 l29 : SV) (n30 n31 : Int) (ds : Ds) (w : World) : Prop := F37_6 R J1 p0 n1 l10 l29 n30 n31 ds w
def F37_k12 (R : Rt) (J1 : (SV × Int) -> World -> Prop) : EP := (fun E ds w => dPtr (E 0) fun p0 => dInt .i64 (E 1) fun n1 => dSl (E 10) fun l10 => dSl (E 29) fun l29 => dInt .i64 (E 30) fun n30 => dInt .i64 (E 31) fun n31 => F37_7 R J1 p0 n1 l10 l29 n30 n31 ds w)
def F37_8 (R : Rt) (J1 : (SV × Int) -> World -> Prop) (p0 : Option Addr) (n1 : Int) (l10 l29 : SV) (n30 n31 : Int) (ds : Ds) (w : World) : Prop :=
 Br (decide (n31 < n30)) (
 F37_7 R J1 p0 n1 l10 l29 n30 n31 ds w) (
 F37_1 R l10 ds w)
def F37_9 (R : Rt) (p0 : Option Addr) (n1 : Int) (l10 l29 : SV) (n30 n31 : Int) (ds : Ds) (w : World) : Prop :=
 loopT (fun (J1 : (SV × Int) -> World -> Prop) (s : SV × Int) (w : World) => F37_8 R J1 p0 n1 s.1 l29 n30 s.2 ds w) (l10, n31) w
abbrev F37_10 (R : Rt) (p0 : Option Addr) (n1 : Int) (l10 l29 : SV) (n30 n31 : Int) (ds : Ds) (w : World) : Prop := F37_9 R p0 n1 l10 l29 n30 n31 ds w
def F37_k13 (R : Rt) : EP := (fun E ds w => dPtr (E 0) fun p0 => dInt .i64 (E 1) fun n1 => dSl (E 10) fun l10 => dSl (E 29) fun l29 => dInt .i64 (E 30) fun n30 => dInt .i64 (E 31) fun n31 => F37_10 R p0 n1 l10 l29 n30 n31 ds w)
def F37_11 (R : Rt) (p0 : Option Addr) (n1 : Int) (s2 : ByteArray) (ds : Ds) (w : World) : Prop :=
 Calls prog 43 #[.pointer p0, .int .i64 n1, .string s2] w fun e w12 =>
 ∃ v19_0 : Value, ∃ n19_1 : Int, e = .returned (.tuple #[v19_0, .int .i64 n19_1]) /\
 fnE v19_0 fun fx firstx capx =>
 Br (n19_1 != 0) (
 runD prog ({ target := .fn (.func fx) capx, args := (firstx.toList ++ ([] : List Value)).toArray } :: ds) w12 fun w13 =>
 R (.returned (.tuple #[.slice none 0 0, .int .i64 n19_1])) w13) (
 Calls prog 69 #[.pointer p0, .int .i64 n1, .string s2, .int .i64 0, .int .i64 65536] w12 fun e w14 =>
 ∃ l29 : SV, e = .returned (.slice l29.a l29.len l29.cap) /\
 F37_10 R p0 n1 ⟨none, 0, 0⟩ l29 (l29.len : Int) 0 ({ target := .fn (.func fx) capx, args := (firstx.toList ++ ([] : List Value)).toArray } :: ds) w14)
theorem c37_l : flat (bodyOf f37) = [c37_0, c37_1, c37_2, c37_3, c37_4, c37_5, c37_6, c37_7, c37_8, c37_9, c37_10] := by kernel_rfl
theorem c37_7_l : flat (innerC c37_7) = [c37_7_0] := by kernel_rfl
theorem c37_7_0_l : flat (innerC c37_7_0) = [c37_7_0_0, c37_7_0_1, c37_7_0_2, c37_7_0_3] := by kernel_rfl
theorem c37_7_0_2_l : flat (innerC c37_7_0_2) = [c37_7_0_2_0, c37_7_0_2_1, c37_7_0_2_2] := by kernel_rfl
theorem c37_7_0_2_2_l : flat (innerC c37_7_0_2_2) = [c37_7_0_2_2_0] := by kernel_rfl
theorem c37_7_0_2_2_0_l : flat (innerC c37_7_0_2_2_0) = [c37_7_0_2_2_0_0, c37_7_0_2_2_0_1, c37_7_0_2_2_0_2, c37_7_0_2_2_0_3] := by kernel_rfl
theorem F37_1_ok (R : Rt) (l10 : SV) (ds : Ds) (w : World) (E : Env) (e10 : E 10 = .slice l10.a l10.len l10.cap) (h : F37_1 R l10 ds w) :
    TrL prog f37.ntmps [c37_8, c37_9, c37_10] (F37_q1 R) E ds w :=
  TrL_leaf (X := F37_1 R l10 ds w) (setAll_cons e10 setAll_nil) (by kernel_rfl) (by kernel_rfl) h
theorem F37_2_ok (R : Rt) (J1 : (SV × Int) -> World -> Prop) (p0 : Option Addr) (n1 : Int) (l10 l29 : SV) (n30 n31 : Int) (ds : Ds) (w : World) (E : Env) (e0 : E 0 = .pointer p0) (e1 : E 1 = .int .i64 n1) (e10 : E 10 = .slice l10.a l10.len l10.cap) (e29 : E 29 = .slice l29.a l29.len l29.cap) (e30 : E 30 = .int .i64 n30) (e31 : E 31 = .int .i64 n31) (h : F37_2 R J1 p0 n1 l10 l29 n30 n31 ds w) :
    TrL prog f37.ntmps [c37_7_0_3] (F37_q5 R J1) E ds w :=
  TrL_leaf (X := F37_2 R J1 p0 n1 l10 l29 n30 n31 ds w) (setAll_cons e0 (setAll_cons e1 (setAll_cons e10 (setAll_cons e29 (setAll_cons e30 (setAll_cons e31 setAll_nil)))))) (by kernel_rfl) (by kernel_rfl) h
theorem F37_3_ok (R : Rt) (J1 : (SV × Int) -> World -> Prop) (J2 : (SV × Int) -> World -> Prop) (p0 : Option Addr) (n1 : Int) (l10 : SV) (p12 : Option Addr) (l29 : SV) (n30 n31 : Int) (c43 : Array Value) (n44 : Int) (ds : Ds) (w : World) (E : Env) (e0 : E 0 = .pointer p0) (e1 : E 1 = .int .i64 n1) (e10 : E 10 = .slice l10.a l10.len l10.cap) (e12 : E 12 = .pointer p12) (e29 : E 29 = .slice l29.a l29.len l29.cap) (e30 : E 30 = .int .i64 n30) (e31 : E 31 = .int .i64 n31) (e43 : E 43 = .agg c43) (e44 : E 44 = .int .i64 n44) (h : F37_3 R J1 J2 p0 n1 l10 p12 l29 n30 n31 c43 n44 ds w) :
    TrL prog f37.ntmps [c37_7_0_2_2_0_0, c37_7_0_2_2_0_1, c37_7_0_2_2_0_2, c37_7_0_2_2_0_3] (F37_q10 R J1 J2) E ds w :=
  TrL_leaf (X := F37_3 R J1 J2 p0 n1 l10 p12 l29 n30 n31 c43 n44 ds w) (setAll_cons e0 (setAll_cons e1 (setAll_cons e10 (setAll_cons e12 (setAll_cons e29 (setAll_cons e30 (setAll_cons e31 (setAll_cons e43 (setAll_cons e44 setAll_nil))))))))) (by kernel_rfl) (by kernel_rfl) h
theorem F37_4_ok (R : Rt) (J1 : (SV × Int) -> World -> Prop) (p0 : Option Addr) (n1 : Int) (l10 : SV) (p12 : Option Addr) (l29 : SV) (n30 n31 : Int) (c43 : Array Value) (n44 : Int) (ds : Ds) (w : World) (E : Env) (e0 : E 0 = .pointer p0) (e1 : E 1 = .int .i64 n1) (e10 : E 10 = .slice l10.a l10.len l10.cap) (e12 : E 12 = .pointer p12) (e29 : E 29 = .slice l29.a l29.len l29.cap) (e30 : E 30 = .int .i64 n30) (e31 : E 31 = .int .i64 n31) (e43 : E 43 = .agg c43) (e44 : E 44 = .int .i64 n44) (h : F37_4 R J1 p0 n1 l10 p12 l29 n30 n31 c43 n44 ds w) :
    TrL prog f37.ntmps [c37_7_0_2_2_0] (F37_q9 R J1) E ds w :=
  TrL_one (Tr_loop' (c := innerC c37_7_0_2_2_0) (σ := SV × Int) (enc := (fun (s : SV × Int) (E : Env) => E 10 = .slice s.1.a s.1.len s.1.cap /\ E 44 = .int .i64 s.2)) (D := (fun E K => dSl (E 10) fun l10 => dInt .i64 (E 44) fun n44 => K (l10, n44))) (F := (fun (J2 : (SV × Int) -> World -> Prop) (s : SV × Int) (w : World) => F37_3 R J1 J2 p0 n1 s.1 p12 l29 n30 n31 c43 s.2 ds w)) (s0 := (l10, n44)) (by kernel_rfl) c37_7_0_2_2_0_l ⟨e10, e44⟩ (by kernel_rfl) (fun E K hD => by obtain ⟨l10, e10, hD⟩ := dSl_elim hD; obtain ⟨n44, e44, hD⟩ := dInt_elim hD; exact ⟨(l10, n44), ⟨e10, e44⟩, hD⟩)
      (fun J2 s E' w' he ha hF => by
      obtain ⟨e10', e44'⟩ := he
      exact F37_3_ok R J1 J2 p0 n1 s.1 p12 l29 n30 n31 c43 s.2 ds w' E' ((ha 0 (by kernel_rfl)).trans e0) ((ha 1 (by kernel_rfl)).trans e1) e10' ((ha 12 (by kernel_rfl)).trans e12) ((ha 29 (by kernel_rfl)).trans e29) ((ha 30 (by kernel_rfl)).trans e30) ((ha 31 (by kernel_rfl)).trans e31) ((ha 43 (by kernel_rfl)).trans e43) e44' hF) h)
theorem F37_5_ok (R : Rt) (J1 : (SV × Int) -> World -> Prop) (p0 : Option Addr) (n1 : Int) (l10 : SV) (p12 : Option Addr) (l29 : SV) (n30 n31 : Int) (c43 : Array Value) (n44 : Int) (ds : Ds) (w : World) (E : Env) (e0 : E 0 = .pointer p0) (e1 : E 1 = .int .i64 n1) (e10 : E 10 = .slice l10.a l10.len l10.cap) (e12 : E 12 = .pointer p12) (e29 : E 29 = .slice l29.a l29.len l29.cap) (e30 : E 30 = .int .i64 n30) (e31 : E 31 = .int .i64 n31) (e43 : E 43 = .agg c43) (e44 : E 44 = .int .i64 n44) (h : F37_5 R J1 p0 n1 l10 p12 l29 n30 n31 c43 n44 ds w) :
    TrL prog f37.ntmps [c37_7_0_2_2] (F37_q8 R J1) E ds w :=
  TrL_one (Tr_block' (c := innerC c37_7_0_2_2) (by kernel_rfl) c37_7_0_2_2_l (F37_4_ok R J1 p0 n1 l10 p12 l29 n30 n31 c43 n44 ds w E e0 e1 e10 e12 e29 e30 e31 e43 e44 h))
theorem F37_6_ok (R : Rt) (J1 : (SV × Int) -> World -> Prop) (p0 : Option Addr) (n1 : Int) (l10 l29 : SV) (n30 n31 : Int) (ds : Ds) (w : World) (E : Env) (e0 : E 0 = .pointer p0) (e1 : E 1 = .int .i64 n1) (e10 : E 10 = .slice l10.a l10.len l10.cap) (e29 : E 29 = .slice l29.a l29.len l29.cap) (e30 : E 30 = .int .i64 n30) (e31 : E 31 = .int .i64 n31) (h : F37_6 R J1 p0 n1 l10 l29 n30 n31 ds w) :
    TrL prog f37.ntmps [c37_7_0_2_0, c37_7_0_2_1, c37_7_0_2_2] (F37_q8 R J1) E ds w :=
  TrL_piece (pre := [c37_7_0_2_0, c37_7_0_2_1]) (K := (F37_k11 R J1)) (X := F37_6 R J1 p0 n1 l10 l29 n30 n31 ds w) (setAll_cons e0 (setAll_cons e1 (setAll_cons e10 (setAll_cons e29 (setAll_cons e30 (setAll_cons e31 setAll_nil)))))) (by kernel_rfl) (by kernel_rfl)
    (fun E' ds' w' hD => by
      obtain ⟨p0, e0, hD⟩ := dPtr_elim hD; obtain ⟨n1, e1, hD⟩ := dInt_elim hD; obtain ⟨l10, e10, hD⟩ := dSl_elim hD; obtain ⟨p12, e12, hD⟩ := dPtr_elim hD; obtain ⟨l29, e29, hD⟩ := dSl_elim hD; obtain ⟨n30, e30, hD⟩ := dInt_elim hD; obtain ⟨n31, e31, hD⟩ := dInt_elim hD; obtain ⟨c43, e43, hD⟩ := dRow_elim hD; obtain ⟨n44, e44, hD⟩ := dInt_elim hD; exact F37_5_ok R J1 p0 n1 l10 p12 l29 n30 n31 c43 n44 ds' w' E' e0 e1 e10 e12 e29 e30 e31 e43 e44 hD) h
theorem F37_7_ok (R : Rt) (J1 : (SV × Int) -> World -> Prop) (p0 : Option Addr) (n1 : Int) (l10 l29 : SV) (n30 n31 : Int) (ds : Ds) (w : World) (E : Env) (e0 : E 0 = .pointer p0) (e1 : E 1 = .int .i64 n1) (e10 : E 10 = .slice l10.a l10.len l10.cap) (e29 : E 29 = .slice l29.a l29.len l29.cap) (e30 : E 30 = .int .i64 n30) (e31 : E 31 = .int .i64 n31) (h : F37_7 R J1 p0 n1 l10 l29 n30 n31 ds w) :
    TrL prog f37.ntmps [c37_7_0_2, c37_7_0_3] (F37_q5 R J1) E ds w :=
  TrL_head (K := (F37_k6 R J1)) (Tr_block' (c := innerC c37_7_0_2) (by kernel_rfl) c37_7_0_2_l (F37_6_ok R J1 p0 n1 l10 l29 n30 n31 ds w E e0 e1 e10 e29 e30 e31 h))
    (fun E' ds' w' hD => by
      obtain ⟨p0, e0, hD⟩ := dPtr_elim hD; obtain ⟨n1, e1, hD⟩ := dInt_elim hD; obtain ⟨l10, e10, hD⟩ := dSl_elim hD; obtain ⟨l29, e29, hD⟩ := dSl_elim hD; obtain ⟨n30, e30, hD⟩ := dInt_elim hD; obtain ⟨n31, e31, hD⟩ := dInt_elim hD; exact F37_2_ok R J1 p0 n1 l10 l29 n30 n31 ds' w' E' e0 e1 e10 e29 e30 e31 hD)
theorem F37_8_ok (R : Rt) (J1 : (SV × Int) -> World -> Prop) (p0 : Option Addr) (n1 : Int) (l10 l29 : SV) (n30 n31 : Int) (ds : Ds) (w : World) (E : Env) (e0 : E 0 = .pointer p0) (e1 : E 1 = .int .i64 n1) (e10 : E 10 = .slice l10.a l10.len l10.cap) (e29 : E 29 = .slice l29.a l29.len l29.cap) (e30 : E 30 = .int .i64 n30) (e31 : E 31 = .int .i64 n31) (h : F37_8 R J1 p0 n1 l10 l29 n30 n31 ds w) :
    TrL prog f37.ntmps [c37_7_0_0, c37_7_0_1, c37_7_0_2, c37_7_0_3] (F37_q5 R J1) E ds w :=
  TrL_piece (pre := [c37_7_0_0, c37_7_0_1]) (K := (F37_k12 R J1)) (X := F37_8 R J1 p0 n1 l10 l29 n30 n31 ds w) (setAll_cons e0 (setAll_cons e1 (setAll_cons e10 (setAll_cons e29 (setAll_cons e30 (setAll_cons e31 setAll_nil)))))) (by kernel_rfl) (by kernel_rfl)
    (fun E' ds' w' hD => by
      obtain ⟨p0, e0, hD⟩ := dPtr_elim hD; obtain ⟨n1, e1, hD⟩ := dInt_elim hD; obtain ⟨l10, e10, hD⟩ := dSl_elim hD; obtain ⟨l29, e29, hD⟩ := dSl_elim hD; obtain ⟨n30, e30, hD⟩ := dInt_elim hD; obtain ⟨n31, e31, hD⟩ := dInt_elim hD; exact F37_7_ok R J1 p0 n1 l10 l29 n30 n31 ds' w' E' e0 e1 e10 e29 e30 e31 hD) h
theorem F37_9_ok (R : Rt) (p0 : Option Addr) (n1 : Int) (l10 l29 : SV) (n30 n31 : Int) (ds : Ds) (w : World) (E : Env) (e0 : E 0 = .pointer p0) (e1 : E 1 = .int .i64 n1) (e10 : E 10 = .slice l10.a l10.len l10.cap) (e29 : E 29 = .slice l29.a l29.len l29.cap) (e30 : E 30 = .int .i64 n30) (e31 : E 31 = .int .i64 n31) (h : F37_9 R p0 n1 l10 l29 n30 n31 ds w) :
    TrL prog f37.ntmps [c37_7_0] (F37_q4 R) E ds w :=
  TrL_one (Tr_loop' (c := innerC c37_7_0) (σ := SV × Int) (enc := (fun (s : SV × Int) (E : Env) => E 10 = .slice s.1.a s.1.len s.1.cap /\ E 31 = .int .i64 s.2)) (D := (fun E K => dSl (E 10) fun l10 => dInt .i64 (E 31) fun n31 => K (l10, n31))) (F := (fun (J1 : (SV × Int) -> World -> Prop) (s : SV × Int) (w : World) => F37_8 R J1 p0 n1 s.1 l29 n30 s.2 ds w)) (s0 := (l10, n31)) (by kernel_rfl) c37_7_0_l ⟨e10, e31⟩ (by kernel_rfl) (fun E K hD => by obtain ⟨l10, e10, hD⟩ := dSl_elim hD; obtain ⟨n31, e31, hD⟩ := dInt_elim hD; exact ⟨(l10, n31), ⟨e10, e31⟩, hD⟩)
      (fun J1 s E' w' he ha hF => by
      obtain ⟨e10', e31'⟩ := he
      exact F37_8_ok R J1 p0 n1 s.1 l29 n30 s.2 ds w' E' ((ha 0 (by kernel_rfl)).trans e0) ((ha 1 (by kernel_rfl)).trans e1) e10' ((ha 29 (by kernel_rfl)).trans e29) ((ha 30 (by kernel_rfl)).trans e30) e31' hF) h)
theorem F37_10_ok (R : Rt) (p0 : Option Addr) (n1 : Int) (l10 l29 : SV) (n30 n31 : Int) (ds : Ds) (w : World) (E : Env) (e0 : E 0 = .pointer p0) (e1 : E 1 = .int .i64 n1) (e10 : E 10 = .slice l10.a l10.len l10.cap) (e29 : E 29 = .slice l29.a l29.len l29.cap) (e30 : E 30 = .int .i64 n30) (e31 : E 31 = .int .i64 n31) (h : F37_10 R p0 n1 l10 l29 n30 n31 ds w) :
    TrL prog f37.ntmps [c37_7, c37_8, c37_9, c37_10] (F37_q1 R) E ds w :=
  TrL_head (K := (F37_k2 R)) (Tr_block' (c := innerC c37_7) (by kernel_rfl) c37_7_l (F37_9_ok R p0 n1 l10 l29 n30 n31 ds w E e0 e1 e10 e29 e30 e31 h))
    (fun E' ds' w' hD => by
      obtain ⟨l10, e10, hD⟩ := dSl_elim hD; exact F37_1_ok R l10 ds' w' E' e10 hD)
theorem F37_11_ok (R : Rt) (p0 : Option Addr) (n1 : Int) (s2 : ByteArray) (ds : Ds) (w : World) (E : Env) (e0 : E 0 = .pointer p0) (e1 : E 1 = .int .i64 n1) (e2 : E 2 = .string s2) (h : F37_11 R p0 n1 s2 ds w) :
    TrL prog f37.ntmps [c37_0, c37_1, c37_2, c37_3, c37_4, c37_5, c37_6, c37_7, c37_8, c37_9, c37_10] (F37_q1 R) E ds w :=
  TrL_piece (pre := [c37_0, c37_1, c37_2, c37_3, c37_4, c37_5, c37_6]) (K := (F37_k13 R)) (X := F37_11 R p0 n1 s2 ds w) (setAll_cons e0 (setAll_cons e1 (setAll_cons e2 setAll_nil))) (by kernel_rfl) (by kernel_rfl)
    (fun E' ds' w' hD => by
      obtain ⟨p0, e0, hD⟩ := dPtr_elim hD; obtain ⟨n1, e1, hD⟩ := dInt_elim hD; obtain ⟨l10, e10, hD⟩ := dSl_elim hD; obtain ⟨l29, e29, hD⟩ := dSl_elim hD; obtain ⟨n30, e30, hD⟩ := dInt_elim hD; obtain ⟨n31, e31, hD⟩ := dInt_elim hD; exact F37_10_ok R p0 n1 l10 l29 n30 n31 ds' w' E' e0 e1 e10 e29 e30 e31 hD) h
theorem F37_calls (p0 : Option Addr) (n1 : Int) (s2 : ByteArray) (w : World) (R : Rt) (h : F37_11 R p0 n1 s2 [] w) : Calls prog 37 #[.pointer p0, .int .i64 n1, .string s2] w R :=
  calls_of_L (l := [c37_0, c37_1, c37_2, c37_3, c37_4, c37_5, c37_6, c37_7, c37_8, c37_9, c37_10]) func37 (by kernel_rfl) (by rw [ntmps37]; exact Nat.le_of_ble_eq_true (by kernel_rfl)) c37_l
    (F37_11_ok R p0 n1 s2 [] w _ rfl rfl rfl h)
end Go.Proofs.YtnigfiljenfgjaaGreat
