import Derived.Test.YtnigfiljenfgjaaGreatProg
import Derived.Test.YtnigfiljenfgjaaGreatShEight
/- Shallow texts of functions, printed by program, each checked by the kernel against the loaded code. No condition. -/
set_option maxRecDepth 100000
set_option linter.unusedVariables false
namespace Go.Proofs.YtnigfiljenfgjaaGreat
open Go.Sh
open Tryz
@[reducible] noncomputable def cI1 (f : Func) (i : Nat) : Code := itemAt (flat (bodyOf f)) i
@[reducible] noncomputable def cJ1 (c : Code) (i : Nat) : Code := itemAt (flat (innerC c)) i
noncomputable def c10_0 := cI1 f10 0
noncomputable def c10_1 := cI1 f10 1
noncomputable def c10_2 := cI1 f10 2
noncomputable def c10_3 := cI1 f10 3
noncomputable def c10_4 := cI1 f10 4
noncomputable def c10_5 := cI1 f10 5
noncomputable def c10_3_0 := cJ1 c10_3 0
noncomputable def c10_3_0_0 := cJ1 c10_3_0 0
noncomputable def c10_3_0_1 := cJ1 c10_3_0 1
noncomputable def c10_3_0_2 := cJ1 c10_3_0 2
noncomputable def c10_3_0_3 := cJ1 c10_3_0 3
def F10_q1 (R : Rt) : EQ := endQ prog f10.results.toList R
def F10_1 (R : Rt) (p1 : Option Addr) (ds : Ds) (w : World) : Prop :=
 runD prog ds w fun w1 =>
 R (.returned (.pointer p1)) w1
def F10_k2 (R : Rt) : EP := (fun E ds w => dPtr (E 1) fun p1 => F10_1 R p1 ds w)
def F10_q3 (R : Rt) : EQ := (thenQ (F10_k2 R) (F10_q1 R))
def F10_q4 (R : Rt) : EQ := (blockQ 0 (F10_q3 R))
def F10_q5 (R : Rt) (J1 : (Int) -> World -> Prop) : EQ := (thenQ (fun E _ w => dInt .i64 (E 2) fun n2 => J1 n2 w) (F10_q4 R))
def F10_2 (R : Rt) (J1 : (Int) -> World -> Prop) (p1 : Option Addr) (n2 : Int) (ds : Ds) (w : World) : Prop :=
 Br (decide (n2 < 4)) (
 alE (.map #[] 0) w fun r11 w2 =>
 ptrE p1 fun a3 =>
 0 <= n2 /\ n2 < (4 : Int) /\
 st1 ((a3.add 1).add (n2.toNat * 1)) (.map (some r11)) w2 fun w4 =>
 J1 (IntKind.i64.wrap (n2 + 1)) w4) (
 F10_1 R p1 ds w)
def F10_3 (R : Rt) (p1 : Option Addr) (n2 : Int) (ds : Ds) (w : World) : Prop :=
 loopT (fun (J1 : (Int) -> World -> Prop) (s : Int) (w : World) => F10_2 R J1 p1 s ds w) n2 w
abbrev F10_4 (R : Rt) (p1 : Option Addr) (n2 : Int) (ds : Ds) (w : World) : Prop := F10_3 R p1 n2 ds w
def F10_k6 (R : Rt) : EP := (fun E ds w => dPtr (E 1) fun p1 => dInt .i64 (E 2) fun n2 => F10_4 R p1 n2 ds w)
def F10_5 (R : Rt) (ds : Ds) (w : World) : Prop :=
 alE (.cells #[.slice none 0 0, .map none, .map none, .map none, .map none, .slice none 0 0] 73) w fun r4 w5 =>
 F10_4 R (some (⟨r4, 0, none⟩ : Addr)) 0 ds w5
theorem c10_l : flat (bodyOf f10) = [c10_0, c10_1, c10_2, c10_3, c10_4, c10_5] := by kernel_rfl
theorem c10_3_l : flat (innerC c10_3) = [c10_3_0] := by kernel_rfl
theorem c10_3_0_l : flat (innerC c10_3_0) = [c10_3_0_0, c10_3_0_1, c10_3_0_2, c10_3_0_3] := by kernel_rfl
theorem F10_1_ok (R : Rt) (p1 : Option Addr) (ds : Ds) (w : World) (E : Env) (e1 : E 1 = .pointer p1) (h : F10_1 R p1 ds w) :
    TrL prog f10.ntmps [c10_4, c10_5] (F10_q1 R) E ds w :=
  TrL_leaf (X := F10_1 R p1 ds w) (setAll_cons e1 setAll_nil) (by kernel_rfl) (by kernel_rfl) h
theorem F10_2_ok (R : Rt) (J1 : (Int) -> World -> Prop) (p1 : Option Addr) (n2 : Int) (ds : Ds) (w : World) (E : Env) (e1 : E 1 = .pointer p1) (e2 : E 2 = .int .i64 n2) (h : F10_2 R J1 p1 n2 ds w) :
    TrL prog f10.ntmps [c10_3_0_0, c10_3_0_1, c10_3_0_2, c10_3_0_3] (F10_q5 R J1) E ds w :=
  TrL_leaf (X := F10_2 R J1 p1 n2 ds w) (setAll_cons e1 (setAll_cons e2 setAll_nil)) (by kernel_rfl) (by kernel_rfl) h
theorem F10_3_ok (R : Rt) (p1 : Option Addr) (n2 : Int) (ds : Ds) (w : World) (E : Env) (e1 : E 1 = .pointer p1) (e2 : E 2 = .int .i64 n2) (h : F10_3 R p1 n2 ds w) :
    TrL prog f10.ntmps [c10_3_0] (F10_q4 R) E ds w :=
  TrL_one (Tr_loop' (c := innerC c10_3_0) (σ := Int) (enc := (fun (s : Int) (E : Env) => E 2 = .int .i64 s)) (D := (fun E K => dInt .i64 (E 2) fun n2 => K n2)) (F := (fun (J1 : (Int) -> World -> Prop) (s : Int) (w : World) => F10_2 R J1 p1 s ds w)) (s0 := n2) (by kernel_rfl) c10_3_0_l e2 (by kernel_rfl) (fun E K hD => by obtain ⟨n2, e2, hD⟩ := dInt_elim hD; exact ⟨n2, e2, hD⟩)
      (fun J1 s E' w' he ha hF => by
      have e2' := he
      exact F10_2_ok R J1 p1 s ds w' E' ((ha 1 (by kernel_rfl)).trans e1) e2' hF) h)
theorem F10_4_ok (R : Rt) (p1 : Option Addr) (n2 : Int) (ds : Ds) (w : World) (E : Env) (e1 : E 1 = .pointer p1) (e2 : E 2 = .int .i64 n2) (h : F10_4 R p1 n2 ds w) :
    TrL prog f10.ntmps [c10_3, c10_4, c10_5] (F10_q1 R) E ds w :=
  TrL_head (K := (F10_k2 R)) (Tr_block' (c := innerC c10_3) (by kernel_rfl) c10_3_l (F10_3_ok R p1 n2 ds w E e1 e2 h))
    (fun E' ds' w' hD => by
      obtain ⟨p1, e1, hD⟩ := dPtr_elim hD; exact F10_1_ok R p1 ds' w' E' e1 hD)
theorem F10_5_ok (R : Rt) (ds : Ds) (w : World) (E : Env) (h : F10_5 R ds w) :
    TrL prog f10.ntmps [c10_0, c10_1, c10_2, c10_3, c10_4, c10_5] (F10_q1 R) E ds w :=
  TrL_piece (pre := [c10_0, c10_1, c10_2]) (K := (F10_k6 R)) (X := F10_5 R ds w) setAll_nil (by kernel_rfl) (by kernel_rfl)
    (fun E' ds' w' hD => by
      obtain ⟨p1, e1, hD⟩ := dPtr_elim hD; obtain ⟨n2, e2, hD⟩ := dInt_elim hD; exact F10_4_ok R p1 n2 ds' w' E' e1 e2 hD) h
theorem F10_calls  (w : World) (R : Rt) (h : F10_5 R [] w) : Calls prog 10 #[] w R :=
  calls_of_L (l := [c10_0, c10_1, c10_2, c10_3, c10_4, c10_5]) func10 (by kernel_rfl) (by rw [ntmps10]; exact Nat.le_of_ble_eq_true (by kernel_rfl)) c10_l
    (F10_5_ok R [] w _  h)
noncomputable def c12_0 := cI1 f12 0
noncomputable def c12_1 := cI1 f12 1
noncomputable def c12_2 := cI1 f12 2
noncomputable def c12_3 := cI1 f12 3
noncomputable def c12_4 := cI1 f12 4
noncomputable def c12_5 := cI1 f12 5
def F12_q1 (R : Rt) : EQ := endQ prog f12.results.toList R
def F12_1 (R : Rt) (p0 : Option Addr) (s1 : ByteArray) (ds : Ds) (w : World) : Prop :=
 Calls prog 41 #[.pointer p0, .string s1] w fun e w1 =>
 ∃ n9 : Int, e = .returned (.int .i64 n9) /\
 Br (n9 != 0) (
 runD prog ds w1 fun w2 =>
 R (.returned (.tuple #[.int .i64 0, .int .i64 n9])) w2) (
 dwE w1 fun w3 =>
 ∃ S1 : World -> Prop, S1 w3 /\
 ptrE p0 fun a4 =>
 ∃ l16 : SV, (∀ w', S1 w' -> w'.cell? a4 = some (.slice l16.a l16.len l16.cap)) /\
 Calls prog 42 #[.pointer p0, .string s1] w3 fun e w5 =>
 ∃ n19 : Int, e = .returned (.int .i64 n19) /\
 S1 w5 /\
 ∃ a6 : Addr, l16.a = some a6 /\ 0 <= n19 /\ n19 < (l16.len : Int) /\
 ∃ l22 : SV, (∀ w', S1 w' -> w'.cell? ((a6.add (n19.toNat * 2)).add 1) = some (.slice l22.a l22.len l22.cap)) /\
 runD prog ds w5 fun w7 =>
 R (.returned (.tuple #[.int .i64 (l22.len : Int), .int .i64 0])) w7)
theorem c12_l : flat (bodyOf f12) = [c12_0, c12_1, c12_2, c12_3, c12_4, c12_5] := by kernel_rfl
theorem F12_1_ok (R : Rt) (p0 : Option Addr) (s1 : ByteArray) (ds : Ds) (w : World) (E : Env) (e0 : E 0 = .pointer p0) (e1 : E 1 = .string s1) (h : F12_1 R p0 s1 ds w) :
    TrL prog f12.ntmps [c12_0, c12_1, c12_2, c12_3, c12_4, c12_5] (F12_q1 R) E ds w :=
  TrL_leaf (X := F12_1 R p0 s1 ds w) (setAll_cons e0 (setAll_cons e1 setAll_nil)) (by kernel_rfl) (by kernel_rfl) h
theorem F12_calls (p0 : Option Addr) (s1 : ByteArray) (w : World) (R : Rt) (h : F12_1 R p0 s1 [] w) : Calls prog 12 #[.pointer p0, .string s1] w R :=
  calls_of_L (l := [c12_0, c12_1, c12_2, c12_3, c12_4, c12_5]) func12 (by kernel_rfl) (by rw [ntmps12]; exact Nat.le_of_ble_eq_true (by kernel_rfl)) c12_l
    (F12_1_ok R p0 s1 [] w _ rfl rfl h)
noncomputable def c28_0 := cI1 f28 0
noncomputable def c28_1 := cI1 f28 1
noncomputable def c28_2 := cI1 f28 2
noncomputable def c28_3 := cI1 f28 3
noncomputable def c28_4 := cI1 f28 4
noncomputable def c28_5 := cI1 f28 5
noncomputable def c28_6 := cI1 f28 6
noncomputable def c28_7 := cI1 f28 7
noncomputable def c28_8 := cI1 f28 8
noncomputable def c28_9 := cI1 f28 9
noncomputable def c28_10 := cI1 f28 10
noncomputable def c28_11 := cI1 f28 11
noncomputable def c28_9_0 := cJ1 c28_9 0
noncomputable def c28_9_0_0 := cJ1 c28_9_0 0
noncomputable def c28_9_0_1 := cJ1 c28_9_0 1
noncomputable def c28_9_0_2 := cJ1 c28_9_0 2
noncomputable def c28_9_0_3 := cJ1 c28_9_0 3
def F28_q1 (R : Rt) : EQ := endQ prog f28.results.toList R
def F28_1 (R : Rt) (l13 : SV) (ds : Ds) (w : World) : Prop :=
 runD prog ds w fun w1 =>
 R (.returned (.tuple #[.slice l13.a l13.len l13.cap, .int .i64 0])) w1
def F28_k2 (R : Rt) : EP := (fun E ds w => dSl (E 13) fun l13 => F28_1 R l13 ds w)
def F28_q3 (R : Rt) : EQ := (thenQ (F28_k2 R) (F28_q1 R))
def F28_q4 (R : Rt) : EQ := (blockQ 0 (F28_q3 R))
def F28_q5 (R : Rt) (J1 : (SV × Int) -> World -> Prop) : EQ := (thenQ (fun E _ w => dSl (E 13) fun l13 => dInt .i64 (E 14) fun n14 => J1 (l13, n14) w) (F28_q4 R))
def F28_2 (R : Rt) (J1 : (SV × Int) -> World -> Prop) (p0 : Option Addr) (n1 : Int) (s2 : ByteArray) (n3 n4 : Int) (l13 : SV) (n14 : Int) (ds : Ds) (w : World) : Prop :=
 Br (decide (n14 < (IntKind.i64.wrap (n3 + n4)))) (
 ptrE p0 fun a2 =>
 0 <= n1 /\ n1 < (4 : Int) /\
 ∃ m48 : Option Nat, w.cell? ((a2.add 1).add (n1.toNat * 1)) = some (.map m48) /\
 ∃ l50 : SV, ∃ w3 : World, (Instr.lookup 69 (.map m48) (.string s2) false).run prog w = .ok (.slice l50.a l50.len l50.cap) w3 /\
 ∃ a4 : Addr, l50.a = some a4 /\ 0 <= n14 /\ n14 < (l50.len : Int) /\
 ∃ n54 : Int, w3.cell? ((a4.add (n14.toNat * 3)).add 2) = some (.int .u8 n54) /\
 alE (.cells #[.int .u8 n54] 5) w3 fun r55 w5 =>
 ∃ l56 : SV, ∃ w6 : World, (Builtin.append_ #[36, 36] 36 #[.slice l13.a l13.len l13.cap, .slice (some ⟨r55, 0, none⟩) 1 1]).run prog w5 = .ok (.slice l56.a l56.len l56.cap) w6 /\
 J1 (l56, (IntKind.i64.wrap (n14 + 1))) w6) (
 F28_1 R l13 ds w)
def F28_3 (R : Rt) (p0 : Option Addr) (n1 : Int) (s2 : ByteArray) (n3 n4 : Int) (l13 : SV) (n14 : Int) (ds : Ds) (w : World) : Prop :=
 loopT (fun (J1 : (SV × Int) -> World -> Prop) (s : SV × Int) (w : World) => F28_2 R J1 p0 n1 s2 n3 n4 s.1 s.2 ds w) (l13, n14) w
abbrev F28_4 (R : Rt) (p0 : Option Addr) (n1 : Int) (s2 : ByteArray) (n3 n4 : Int) (l13 : SV) (n14 : Int) (ds : Ds) (w : World) : Prop := F28_3 R p0 n1 s2 n3 n4 l13 n14 ds w
def F28_k6 (R : Rt) : EP := (fun E ds w => dPtr (E 0) fun p0 => dInt .i64 (E 1) fun n1 => dStr (E 2) fun s2 => dInt .i64 (E 3) fun n3 => dInt .i64 (E 4) fun n4 => dSl (E 13) fun l13 => dInt .i64 (E 14) fun n14 => F28_4 R p0 n1 s2 n3 n4 l13 n14 ds w)
def F28_5 (R : Rt) (p0 : Option Addr) (n1 : Int) (s2 : ByteArray) (n3 n4 : Int) (ds : Ds) (w : World) : Prop :=
 Calls prog 75 #[.pointer p0, .int .i64 n1, .string s2] w fun e w7 =>
 ∃ n18 : Int, e = .returned (.int .i64 n18) /\
 Br (n18 != 0) (
 runD prog ds w7 fun w8 =>
 R (.returned (.tuple #[.slice none 0 0, .int .i64 n18])) w8) (
 Calls prog 76 #[.pointer p0, .string s2, .int .i64 n3, .int .i64 n4] w7 fun e w9 =>
 ∃ b26 : Bool, e = .returned (.bool b26) /\
 Br (!b26) (
 runD prog ds w9 fun w10 =>
 R (.returned (.tuple #[.slice none 0 0, .int .i64 1])) w10) (
 Calls prog 77 #[.pointer p0, .int .i64 n1, .string s2, .int .i64 n3, .int .i64 n4] w9 fun e w11 =>
 e = .returned (.tuple #[]) /\
 F28_4 R p0 n1 s2 n3 n4 ⟨none, 0, 0⟩ n3 ds w11))
theorem c28_l : flat (bodyOf f28) = [c28_0, c28_1, c28_2, c28_3, c28_4, c28_5, c28_6, c28_7, c28_8, c28_9, c28_10, c28_11] := by kernel_rfl
theorem c28_9_l : flat (innerC c28_9) = [c28_9_0] := by kernel_rfl
theorem c28_9_0_l : flat (innerC c28_9_0) = [c28_9_0_0, c28_9_0_1, c28_9_0_2, c28_9_0_3] := by kernel_rfl
theorem F28_1_ok (R : Rt) (l13 : SV) (ds : Ds) (w : World) (E : Env) (e13 : E 13 = .slice l13.a l13.len l13.cap) (h : F28_1 R l13 ds w) :
    TrL prog f28.ntmps [c28_10, c28_11] (F28_q1 R) E ds w :=
  TrL_leaf (X := F28_1 R l13 ds w) (setAll_cons e13 setAll_nil) (by kernel_rfl) (by kernel_rfl) h
theorem F28_2_ok (R : Rt) (J1 : (SV × Int) -> World -> Prop) (p0 : Option Addr) (n1 : Int) (s2 : ByteArray) (n3 n4 : Int) (l13 : SV) (n14 : Int) (ds : Ds) (w : World) (E : Env) (e0 : E 0 = .pointer p0) (e1 : E 1 = .int .i64 n1) (e2 : E 2 = .string s2) (e3 : E 3 = .int .i64 n3) (e4 : E 4 = .int .i64 n4) (e13 : E 13 = .slice l13.a l13.len l13.cap) (e14 : E 14 = .int .i64 n14) (h : F28_2 R J1 p0 n1 s2 n3 n4 l13 n14 ds w) :
    TrL prog f28.ntmps [c28_9_0_0, c28_9_0_1, c28_9_0_2, c28_9_0_3] (F28_q5 R J1) E ds w :=
  TrL_leaf (X := F28_2 R J1 p0 n1 s2 n3 n4 l13 n14 ds w) (setAll_cons e0 (setAll_cons e1 (setAll_cons e2 (setAll_cons e3 (setAll_cons e4 (setAll_cons e13 (setAll_cons e14 setAll_nil))))))) (by kernel_rfl) (by kernel_rfl) h
theorem F28_3_ok (R : Rt) (p0 : Option Addr) (n1 : Int) (s2 : ByteArray) (n3 n4 : Int) (l13 : SV) (n14 : Int) (ds : Ds) (w : World) (E : Env) (e0 : E 0 = .pointer p0) (e1 : E 1 = .int .i64 n1) (e2 : E 2 = .string s2) (e3 : E 3 = .int .i64 n3) (e4 : E 4 = .int .i64 n4) (e13 : E 13 = .slice l13.a l13.len l13.cap) (e14 : E 14 = .int .i64 n14) (h : F28_3 R p0 n1 s2 n3 n4 l13 n14 ds w) :
    TrL prog f28.ntmps [c28_9_0] (F28_q4 R) E ds w :=
  TrL_one (Tr_loop' (c := innerC c28_9_0) (σ := SV × Int) (enc := (fun (s : SV × Int) (E : Env) => E 13 = .slice s.1.a s.1.len s.1.cap /\ E 14 = .int .i64 s.2)) (D := (fun E K => dSl (E 13) fun l13 => dInt .i64 (E 14) fun n14 => K (l13, n14))) (F := (fun (J1 : (SV × Int) -> World -> Prop) (s : SV × Int) (w : World) => F28_2 R J1 p0 n1 s2 n3 n4 s.1 s.2 ds w)) (s0 := (l13, n14)) (by kernel_rfl) c28_9_0_l ⟨e13, e14⟩ (by kernel_rfl) (fun E K hD => by obtain ⟨l13, e13, hD⟩ := dSl_elim hD; obtain ⟨n14, e14, hD⟩ := dInt_elim hD; exact ⟨(l13, n14), ⟨e13, e14⟩, hD⟩)
      (fun J1 s E' w' he ha hF => by
      obtain ⟨e13', e14'⟩ := he
      exact F28_2_ok R J1 p0 n1 s2 n3 n4 s.1 s.2 ds w' E' ((ha 0 (by kernel_rfl)).trans e0) ((ha 1 (by kernel_rfl)).trans e1) ((ha 2 (by kernel_rfl)).trans e2) ((ha 3 (by kernel_rfl)).trans e3) ((ha 4 (by kernel_rfl)).trans e4) e13' e14' hF) h)
theorem F28_4_ok (R : Rt) (p0 : Option Addr) (n1 : Int) (s2 : ByteArray) (n3 n4 : Int) (l13 : SV) (n14 : Int) (ds : Ds) (w : World) (E : Env) (e0 : E 0 = .pointer p0) (e1 : E 1 = .int .i64 n1) (e2 : E 2 = .string s2) (e3 : E 3 = .int .i64 n3) (e4 : E 4 = .int .i64 n4) (e13 : E 13 = .slice l13.a l13.len l13.cap) (e14 : E 14 = .int .i64 n14) (h : F28_4 R p0 n1 s2 n3 n4 l13 n14 ds w) :
    TrL prog f28.ntmps [c28_9, c28_10, c28_11] (F28_q1 R) E ds w :=
  TrL_head (K := (F28_k2 R)) (Tr_block' (c := innerC c28_9) (by kernel_rfl) c28_9_l (F28_3_ok R p0 n1 s2 n3 n4 l13 n14 ds w E e0 e1 e2 e3 e4 e13 e14 h))
    (fun E' ds' w' hD => by
      obtain ⟨l13, e13, hD⟩ := dSl_elim hD; exact F28_1_ok R l13 ds' w' E' e13 hD)
theorem F28_5_ok (R : Rt) (p0 : Option Addr) (n1 : Int) (s2 : ByteArray) (n3 n4 : Int) (ds : Ds) (w : World) (E : Env) (e0 : E 0 = .pointer p0) (e1 : E 1 = .int .i64 n1) (e2 : E 2 = .string s2) (e3 : E 3 = .int .i64 n3) (e4 : E 4 = .int .i64 n4) (h : F28_5 R p0 n1 s2 n3 n4 ds w) :
    TrL prog f28.ntmps [c28_0, c28_1, c28_2, c28_3, c28_4, c28_5, c28_6, c28_7, c28_8, c28_9, c28_10, c28_11] (F28_q1 R) E ds w :=
  TrL_piece (pre := [c28_0, c28_1, c28_2, c28_3, c28_4, c28_5, c28_6, c28_7, c28_8]) (K := (F28_k6 R)) (X := F28_5 R p0 n1 s2 n3 n4 ds w) (setAll_cons e0 (setAll_cons e1 (setAll_cons e2 (setAll_cons e3 (setAll_cons e4 setAll_nil))))) (by kernel_rfl) (by kernel_rfl)
    (fun E' ds' w' hD => by
      obtain ⟨p0, e0, hD⟩ := dPtr_elim hD; obtain ⟨n1, e1, hD⟩ := dInt_elim hD; obtain ⟨s2, e2, hD⟩ := dStr_elim hD; obtain ⟨n3, e3, hD⟩ := dInt_elim hD; obtain ⟨n4, e4, hD⟩ := dInt_elim hD; obtain ⟨l13, e13, hD⟩ := dSl_elim hD; obtain ⟨n14, e14, hD⟩ := dInt_elim hD; exact F28_4_ok R p0 n1 s2 n3 n4 l13 n14 ds' w' E' e0 e1 e2 e3 e4 e13 e14 hD) h
theorem F28_calls (p0 : Option Addr) (n1 : Int) (s2 : ByteArray) (n3 n4 : Int) (w : World) (R : Rt) (h : F28_5 R p0 n1 s2 n3 n4 [] w) : Calls prog 28 #[.pointer p0, .int .i64 n1, .string s2, .int .i64 n3, .int .i64 n4] w R :=
  calls_of_L (l := [c28_0, c28_1, c28_2, c28_3, c28_4, c28_5, c28_6, c28_7, c28_8, c28_9, c28_10, c28_11]) func28 (by kernel_rfl) (by rw [ntmps28]; exact Nat.le_of_ble_eq_true (by kernel_rfl)) c28_l
    (F28_5_ok R p0 n1 s2 n3 n4 [] w _ rfl rfl rfl rfl rfl h)
noncomputable def c29_0 := cI1 f29 0
noncomputable def c29_1 := cI1 f29 1
noncomputable def c29_2 := cI1 f29 2
noncomputable def c29_3 := cI1 f29 3
noncomputable def c29_4 := cI1 f29 4
noncomputable def c29_5 := cI1 f29 5
noncomputable def c29_6 := cI1 f29 6
noncomputable def c29_7 := cI1 f29 7
noncomputable def c29_8 := cI1 f29 8
noncomputable def c29_9 := cI1 f29 9
noncomputable def c29_10 := cI1 f29 10
noncomputable def c29_8_0 := cJ1 c29_8 0
noncomputable def c29_8_0_0 := cJ1 c29_8_0 0
noncomputable def c29_8_0_1 := cJ1 c29_8_0 1
noncomputable def c29_8_0_2 := cJ1 c29_8_0 2
noncomputable def c29_8_0_3 := cJ1 c29_8_0 3
def F29_q1 (R : Rt) : EQ := endQ prog f29.results.toList R
def F29_1 (R : Rt) (ds : Ds) (w : World) : Prop :=
 runD prog ds w fun w1 =>
 R (.returned (.int .i64 0)) w1
def F29_k2 (R : Rt) : EP := (fun E ds w => F29_1 R ds w)
def F29_q3 (R : Rt) : EQ := (thenQ (F29_k2 R) (F29_q1 R))
def F29_q4 (R : Rt) : EQ := (blockQ 0 (F29_q3 R))
def F29_q5 (R : Rt) (J1 : (Int) -> World -> Prop) : EQ := (thenQ (fun E _ w => dInt .i64 (E 12) fun n12 => J1 n12 w) (F29_q4 R))
def F29_2 (R : Rt) (J1 : (Int) -> World -> Prop) (p0 : Option Addr) (n1 : Int) (s2 : ByteArray) (n3 : Int) (l4 : SV) (n12 : Int) (ds : Ds) (w : World) : Prop :=
 Br (decide (n12 < (l4.len : Int))) (
 dwE w fun w2 =>
 ptrE p0 fun a3 =>
 0 <= n1 /\ n1 < (4 : Int) /\
 ∃ m45 : Option Nat, w2.cell? ((a3.add 1).add (n1.toNat * 1)) = some (.map m45) /\
 ∃ l47 : SV, (Instr.lookup 69 (.map m45) (.string s2) false).run prog w2 = .ok (.slice l47.a l47.len l47.cap) w2 /\
 ∃ a4 : Addr, l4.a = some a4 /\ 0 <= n12 /\ n12 < (l4.len : Int) /\
 ∃ n54 : Int, w2.cell? (a4.add (n12.toNat * 1)) = some (.int .u8 n54) /\
 ∃ a5 : Addr, l47.a = some a5 /\ 0 <= (IntKind.i64.wrap (n3 + n12)) /\ (IntKind.i64.wrap (n3 + n12)) < (l47.len : Int) /\
 stA prog 116 (a5.add ((IntKind.i64.wrap (n3 + n12)).toNat * 3)) #[.bool true, .bool true, .int .u8 n54] w2 fun w6 =>
 J1 (IntKind.i64.wrap (n12 + 1)) w6) (
 F29_1 R ds w)
def F29_3 (R : Rt) (p0 : Option Addr) (n1 : Int) (s2 : ByteArray) (n3 : Int) (l4 : SV) (n12 : Int) (ds : Ds) (w : World) : Prop :=
 loopT (fun (J1 : (Int) -> World -> Prop) (s : Int) (w : World) => F29_2 R J1 p0 n1 s2 n3 l4 s ds w) n12 w
abbrev F29_4 (R : Rt) (p0 : Option Addr) (n1 : Int) (s2 : ByteArray) (n3 : Int) (l4 : SV) (n12 : Int) (ds : Ds) (w : World) : Prop := F29_3 R p0 n1 s2 n3 l4 n12 ds w
def F29_k6 (R : Rt) : EP := (fun E ds w => dPtr (E 0) fun p0 => dInt .i64 (E 1) fun n1 => dStr (E 2) fun s2 => dInt .i64 (E 3) fun n3 => dSl (E 4) fun l4 => dInt .i64 (E 12) fun n12 => F29_4 R p0 n1 s2 n3 l4 n12 ds w)
def F29_5 (R : Rt) (p0 : Option Addr) (n1 : Int) (s2 : ByteArray) (n3 : Int) (l4 : SV) (ds : Ds) (w : World) : Prop :=
 Calls prog 75 #[.pointer p0, .int .i64 n1, .string s2] w fun e w7 =>
 ∃ n16 : Int, e = .returned (.int .i64 n16) /\
 Br (n16 != 0) (
 runD prog ds w7 fun w8 =>
 R (.returned (.int .i64 n16)) w8) (
 Calls prog 76 #[.pointer p0, .string s2, .int .i64 n3, .int .i64 (l4.len : Int)] w7 fun e w9 =>
 ∃ b25 : Bool, e = .returned (.bool b25) /\
 Br (!b25) (
 runD prog ds w9 fun w10 =>
 R (.returned (.int .i64 1)) w10) (
 Calls prog 77 #[.pointer p0, .int .i64 n1, .string s2, .int .i64 n3, .int .i64 (l4.len : Int)] w9 fun e w11 =>
 e = .returned (.tuple #[]) /\
 F29_4 R p0 n1 s2 n3 l4 0 ds w11))
theorem c29_l : flat (bodyOf f29) = [c29_0, c29_1, c29_2, c29_3, c29_4, c29_5, c29_6, c29_7, c29_8, c29_9, c29_10] := by kernel_rfl
theorem c29_8_l : flat (innerC c29_8) = [c29_8_0] := by kernel_rfl
theorem c29_8_0_l : flat (innerC c29_8_0) = [c29_8_0_0, c29_8_0_1, c29_8_0_2, c29_8_0_3] := by kernel_rfl
theorem F29_1_ok (R : Rt) (ds : Ds) (w : World) (E : Env) (h : F29_1 R ds w) :
    TrL prog f29.ntmps [c29_9, c29_10] (F29_q1 R) E ds w :=
  TrL_leaf (X := F29_1 R ds w) setAll_nil (by kernel_rfl) (by kernel_rfl) h
theorem F29_2_ok (R : Rt) (J1 : (Int) -> World -> Prop) (p0 : Option Addr) (n1 : Int) (s2 : ByteArray) (n3 : Int) (l4 : SV) (n12 : Int) (ds : Ds) (w : World) (E : Env) (e0 : E 0 = .pointer p0) (e1 : E 1 = .int .i64 n1) (e2 : E 2 = .string s2) (e3 : E 3 = .int .i64 n3) (e4 : E 4 = .slice l4.a l4.len l4.cap) (e12 : E 12 = .int .i64 n12) (h : F29_2 R J1 p0 n1 s2 n3 l4 n12 ds w) :
    TrL prog f29.ntmps [c29_8_0_0, c29_8_0_1, c29_8_0_2, c29_8_0_3] (F29_q5 R J1) E ds w :=
  TrL_leaf (X := F29_2 R J1 p0 n1 s2 n3 l4 n12 ds w) (setAll_cons e0 (setAll_cons e1 (setAll_cons e2 (setAll_cons e3 (setAll_cons e4 (setAll_cons e12 setAll_nil)))))) (by kernel_rfl) (by kernel_rfl) h
theorem F29_3_ok (R : Rt) (p0 : Option Addr) (n1 : Int) (s2 : ByteArray) (n3 : Int) (l4 : SV) (n12 : Int) (ds : Ds) (w : World) (E : Env) (e0 : E 0 = .pointer p0) (e1 : E 1 = .int .i64 n1) (e2 : E 2 = .string s2) (e3 : E 3 = .int .i64 n3) (e4 : E 4 = .slice l4.a l4.len l4.cap) (e12 : E 12 = .int .i64 n12) (h : F29_3 R p0 n1 s2 n3 l4 n12 ds w) :
    TrL prog f29.ntmps [c29_8_0] (F29_q4 R) E ds w :=
  TrL_one (Tr_loop' (c := innerC c29_8_0) (σ := Int) (enc := (fun (s : Int) (E : Env) => E 12 = .int .i64 s)) (D := (fun E K => dInt .i64 (E 12) fun n12 => K n12)) (F := (fun (J1 : (Int) -> World -> Prop) (s : Int) (w : World) => F29_2 R J1 p0 n1 s2 n3 l4 s ds w)) (s0 := n12) (by kernel_rfl) c29_8_0_l e12 (by kernel_rfl) (fun E K hD => by obtain ⟨n12, e12, hD⟩ := dInt_elim hD; exact ⟨n12, e12, hD⟩)
      (fun J1 s E' w' he ha hF => by
      have e12' := he
      exact F29_2_ok R J1 p0 n1 s2 n3 l4 s ds w' E' ((ha 0 (by kernel_rfl)).trans e0) ((ha 1 (by kernel_rfl)).trans e1) ((ha 2 (by kernel_rfl)).trans e2) ((ha 3 (by kernel_rfl)).trans e3) ((ha 4 (by kernel_rfl)).trans e4) e12' hF) h)
theorem F29_4_ok (R : Rt) (p0 : Option Addr) (n1 : Int) (s2 : ByteArray) (n3 : Int) (l4 : SV) (n12 : Int) (ds : Ds) (w : World) (E : Env) (e0 : E 0 = .pointer p0) (e1 : E 1 = .int .i64 n1) (e2 : E 2 = .string s2) (e3 : E 3 = .int .i64 n3) (e4 : E 4 = .slice l4.a l4.len l4.cap) (e12 : E 12 = .int .i64 n12) (h : F29_4 R p0 n1 s2 n3 l4 n12 ds w) :
    TrL prog f29.ntmps [c29_8, c29_9, c29_10] (F29_q1 R) E ds w :=
  TrL_head (K := (F29_k2 R)) (Tr_block' (c := innerC c29_8) (by kernel_rfl) c29_8_l (F29_3_ok R p0 n1 s2 n3 l4 n12 ds w E e0 e1 e2 e3 e4 e12 h))
    (fun E' ds' w' hD => by
      exact F29_1_ok R ds' w' E'  hD)
theorem F29_5_ok (R : Rt) (p0 : Option Addr) (n1 : Int) (s2 : ByteArray) (n3 : Int) (l4 : SV) (ds : Ds) (w : World) (E : Env) (e0 : E 0 = .pointer p0) (e1 : E 1 = .int .i64 n1) (e2 : E 2 = .string s2) (e3 : E 3 = .int .i64 n3) (e4 : E 4 = .slice l4.a l4.len l4.cap) (h : F29_5 R p0 n1 s2 n3 l4 ds w) :
    TrL prog f29.ntmps [c29_0, c29_1, c29_2, c29_3, c29_4, c29_5, c29_6, c29_7, c29_8, c29_9, c29_10] (F29_q1 R) E ds w :=
  TrL_piece (pre := [c29_0, c29_1, c29_2, c29_3, c29_4, c29_5, c29_6, c29_7]) (K := (F29_k6 R)) (X := F29_5 R p0 n1 s2 n3 l4 ds w) (setAll_cons e0 (setAll_cons e1 (setAll_cons e2 (setAll_cons e3 (setAll_cons e4 setAll_nil))))) (by kernel_rfl) (by kernel_rfl)
    (fun E' ds' w' hD => by
      obtain ⟨p0, e0, hD⟩ := dPtr_elim hD; obtain ⟨n1, e1, hD⟩ := dInt_elim hD; obtain ⟨s2, e2, hD⟩ := dStr_elim hD; obtain ⟨n3, e3, hD⟩ := dInt_elim hD; obtain ⟨l4, e4, hD⟩ := dSl_elim hD; obtain ⟨n12, e12, hD⟩ := dInt_elim hD; exact F29_4_ok R p0 n1 s2 n3 l4 n12 ds' w' E' e0 e1 e2 e3 e4 e12 hD) h
theorem F29_calls (p0 : Option Addr) (n1 : Int) (s2 : ByteArray) (n3 : Int) (l4 : SV) (w : World) (R : Rt) (h : F29_5 R p0 n1 s2 n3 l4 [] w) : Calls prog 29 #[.pointer p0, .int .i64 n1, .string s2, .int .i64 n3, .slice l4.a l4.len l4.cap] w R :=
  calls_of_L (l := [c29_0, c29_1, c29_2, c29_3, c29_4, c29_5, c29_6, c29_7, c29_8, c29_9, c29_10]) func29 (by kernel_rfl) (by rw [ntmps29]; exact Nat.le_of_ble_eq_true (by kernel_rfl)) c29_l
    (F29_5_ok R p0 n1 s2 n3 l4 [] w _ rfl rfl rfl rfl rfl h)
noncomputable def c30_0 := cI1 f30 0
noncomputable def c30_1 := cI1 f30 1
noncomputable def c30_2 := cI1 f30 2
noncomputable def c30_3 := cI1 f30 3
noncomputable def c30_4 := cI1 f30 4
noncomputable def c30_5 := cI1 f30 5
noncomputable def c30_6 := cI1 f30 6
noncomputable def c30_7 := cI1 f30 7
noncomputable def c30_8 := cI1 f30 8
noncomputable def c30_9 := cI1 f30 9
noncomputable def c30_10 := cI1 f30 10
noncomputable def c30_11 := cI1 f30 11
noncomputable def c30_12 := cI1 f30 12
noncomputable def c30_13 := cI1 f30 13
noncomputable def c30_14 := cI1 f30 14
noncomputable def c30_15 := cI1 f30 15
noncomputable def c30_16 := cI1 f30 16
noncomputable def c30_17 := cI1 f30 17
noncomputable def c30_15_0 := cJ1 c30_15 0
noncomputable def c30_15_0_0 := cJ1 c30_15_0 0
noncomputable def c30_15_0_1 := cJ1 c30_15_0 1
noncomputable def c30_15_0_2 := cJ1 c30_15_0 2
noncomputable def c30_15_0_3 := cJ1 c30_15_0 3
noncomputable def c30_8_0 := cJ1 c30_8 0
noncomputable def c30_8_0_0 := cJ1 c30_8_0 0
noncomputable def c30_8_0_1 := cJ1 c30_8_0 1
noncomputable def c30_8_0_2 := cJ1 c30_8_0 2
noncomputable def c30_8_0_3 := cJ1 c30_8_0 3
def F30_q1 (R : Rt) : EQ := endQ prog f30.results.toList R
def F30_1 (R : Rt) (ds : Ds) (w : World) : Prop :=
 runD prog ds w fun w1 =>
 R (.returned (.int .i64 0)) w1
def F30_k2 (R : Rt) : EP := (fun E ds w => F30_1 R ds w)
def F30_q3 (R : Rt) : EQ := (thenQ (F30_k2 R) (F30_q1 R))
def F30_q4 (R : Rt) : EQ := (blockQ 2 (F30_q3 R))
def F30_q5 (R : Rt) (J1 : (Int) -> World -> Prop) : EQ := (thenQ (fun E _ w => dInt .i64 (E 16) fun n16 => J1 n16 w) (F30_q4 R))
def F30_2 (R : Rt) (J1 : (Int) -> World -> Prop) (n3 n4 : Int) (l14 l15 : SV) (n16 : Int) (ds : Ds) (w : World) : Prop :=
 Br (decide (n16 < (l15.len : Int))) (
 Calls prog 79 #[.slice l15.a l15.len l15.cap, .int .i64 n16, .int .i64 n3, .int .i64 n4] w fun e w2 =>
 ∃ b113 : Bool, e = .returned (.bool b113) /\
 Br b113 (
 ∃ a3 : Addr, l15.a = some a3 /\ 0 <= n16 /\ n16 < (l15.len : Int) /\
 ∃ b119 : Bool, w2.cell? ((a3.add (n16.toNat * 3)).add 1) = some (.bool b119) /\
 Br (!b119) (
 ∃ a4 : Addr, l14.a = some a4 /\ 0 <= n16 /\ n16 < (l14.len : Int) /\
 ∃ n127 : Int, w2.cell? (a4.add (n16.toNat * 1)) = some (.int .u8 n127) /\
 ∃ a5 : Addr, l15.a = some a5 /\ 0 <= n16 /\ n16 < (l15.len : Int) /\
 st1 ((a5.add (n16.toNat * 3)).add 2) (.int .u8 n127) w2 fun w6 =>
 J1 (IntKind.i64.wrap (n16 + 1)) w6) (
 J1 (IntKind.i64.wrap (n16 + 1)) w2)) (
 J1 (IntKind.i64.wrap (n16 + 1)) w2)) (
 F30_1 R ds w)
def F30_3 (R : Rt) (n3 n4 : Int) (l14 l15 : SV) (n16 : Int) (ds : Ds) (w : World) : Prop :=
 loopT (fun (J1 : (Int) -> World -> Prop) (s : Int) (w : World) => F30_2 R J1 n3 n4 l14 l15 s ds w) n16 w
abbrev F30_4 (R : Rt) (n3 n4 : Int) (l14 l15 : SV) (n16 : Int) (ds : Ds) (w : World) : Prop := F30_3 R n3 n4 l14 l15 n16 ds w
def F30_k6 (R : Rt) : EP := (fun E ds w => dInt .i64 (E 3) fun n3 => dInt .i64 (E 4) fun n4 => dSl (E 14) fun l14 => dSl (E 15) fun l15 => dInt .i64 (E 16) fun n16 => F30_4 R n3 n4 l14 l15 n16 ds w)
def F30_5 (R : Rt) (p0 : Option Addr) (n1 : Int) (s2 : ByteArray) (n3 n4 : Int) (b12 : Bool) (ds : Ds) (w : World) : Prop :=
 Br b12 (
 runD prog ds w fun w7 =>
 R (.returned (.int .i64 12)) w7) (
 ptrE p0 fun a8 =>
 ∃ l75 : SV, w.cell? (a8.add 5) = some (.slice l75.a l75.len l75.cap) /\
 alE (.cells #[.int .i64 n1, .string s2, .int .i64 n3, .int .i64 n4] 127) w fun r81 w9 =>
 ∃ l82 : SV, ∃ w10 : World, (Builtin.append_ #[71, 71] 71 #[.slice l75.a l75.len l75.cap, .slice (some ⟨r81, 0, none⟩) 1 1]).run prog w9 = .ok (.slice l82.a l82.len l82.cap) w10 /\
 ptrE p0 fun a11 =>
 st1 (a11.add 5) (.slice l82.a l82.len l82.cap) w10 fun w12 =>
 dwE w12 fun w13 =>
 ∃ S1 : World -> Prop, S1 w13 /\
 ptrE p0 fun a14 =>
 ∃ l88 : SV, (∀ w', S1 w' -> w'.cell? a14 = some (.slice l88.a l88.len l88.cap)) /\
 Calls prog 42 #[.pointer p0, .string s2] w13 fun e w15 =>
 ∃ n91 : Int, e = .returned (.int .i64 n91) /\
 S1 w15 /\
 ∃ a16 : Addr, l88.a = some a16 /\ 0 <= n91 /\ n91 < (l88.len : Int) /\
 ∃ l94 : SV, (∀ w', S1 w' -> w'.cell? ((a16.add (n91.toNat * 2)).add 1) = some (.slice l94.a l94.len l94.cap)) /\
 ptrE p0 fun a17 =>
 0 <= n1 /\ n1 < (4 : Int) /\
 ∃ m100 : Option Nat, w15.cell? ((a17.add 1).add (n1.toNat * 1)) = some (.map m100) /\
 ∃ l102 : SV, ∃ w18 : World, (Instr.lookup 69 (.map m100) (.string s2) false).run prog w15 = .ok (.slice l102.a l102.len l102.cap) w18 /\
 F30_4 R n3 n4 l94 l102 0 ds w18)
def F30_k7 (R : Rt) : EP := (fun E ds w => dPtr (E 0) fun p0 => dInt .i64 (E 1) fun n1 => dStr (E 2) fun s2 => dInt .i64 (E 3) fun n3 => dInt .i64 (E 4) fun n4 => dBl (E 12) fun b12 => F30_5 R p0 n1 s2 n3 n4 b12 ds w)
def F30_q8 (R : Rt) : EQ := (thenQ (F30_k7 R) (F30_q1 R))
def F30_q9 (R : Rt) : EQ := (blockQ 0 (F30_q8 R))
def F30_q10 (R : Rt) (J1 : (Bool × Int) -> World -> Prop) : EQ := (thenQ (fun E _ w => dBl (E 12) fun b12 => dInt .i64 (E 13) fun n13 => J1 (b12, n13) w) (F30_q9 R))
def F30_6 (R : Rt) (J1 : (Bool × Int) -> World -> Prop) (p0 : Option Addr) (n1 : Int) (s2 : ByteArray) (n3 n4 : Int) (b12 : Bool) (n13 : Int) (ds : Ds) (w : World) : Prop :=
 ptrE p0 fun a19 =>
 ∃ l44 : SV, w.cell? (a19.add 5) = some (.slice l44.a l44.len l44.cap) /\
 Br (decide (n13 < (l44.len : Int))) (
 ptrE p0 fun a20 =>
 ∃ l52 : SV, w.cell? (a20.add 5) = some (.slice l52.a l52.len l52.cap) /\
 ∃ a21 : Addr, l52.a = some a21 /\ 0 <= n13 /\ n13 < (l52.len : Int) /\
 ∃ n55_0 : Int, w.cell? ((a21.add (n13.toNat * 4)).add 0) = some (.int .i64 n55_0) /\
 ∃ s55_1 : ByteArray, w.cell? ((a21.add (n13.toNat * 4)).add 1) = some (.string s55_1) /\
 ∃ n55_2 : Int, w.cell? ((a21.add (n13.toNat * 4)).add 2) = some (.int .i64 n55_2) /\
 ∃ n55_3 : Int, w.cell? ((a21.add (n13.toNat * 4)).add 3) = some (.int .i64 n55_3) /\
 Calls prog 78 #[.agg #[.int .i64 n55_0, .string s55_1, .int .i64 n55_2, .int .i64 n55_3], .string s2, .int .i64 n3, .int .i64 n4] w fun e w22 =>
 ∃ b59 : Bool, e = .returned (.bool b59) /\
 Br b59 (
 ptrE p0 fun a23 =>
 ∃ l63 : SV, w22.cell? (a23.add 5) = some (.slice l63.a l63.len l63.cap) /\
 ∃ a24 : Addr, l63.a = some a24 /\ 0 <= n13 /\ n13 < (l63.len : Int) /\
 ∃ n67 : Int, w22.cell? (a24.add (n13.toNat * 4)) = some (.int .i64 n67) /\
 Br (n67 == n1) (
 runD prog ds w22 fun w25 =>
 R (.returned (.int .i64 5)) w25) (
 J1 (true, (IntKind.i64.wrap (n13 + 1))) w22)) (
 J1 (b12, (IntKind.i64.wrap (n13 + 1))) w22)) (
 F30_5 R p0 n1 s2 n3 n4 b12 ds w)
def F30_7 (R : Rt) (p0 : Option Addr) (n1 : Int) (s2 : ByteArray) (n3 n4 : Int) (b12 : Bool) (n13 : Int) (ds : Ds) (w : World) : Prop :=
 loopT (fun (J1 : (Bool × Int) -> World -> Prop) (s : Bool × Int) (w : World) => F30_6 R J1 p0 n1 s2 n3 n4 s.1 s.2 ds w) (b12, n13) w
abbrev F30_8 (R : Rt) (p0 : Option Addr) (n1 : Int) (s2 : ByteArray) (n3 n4 : Int) (b12 : Bool) (n13 : Int) (ds : Ds) (w : World) : Prop := F30_7 R p0 n1 s2 n3 n4 b12 n13 ds w
def F30_k11 (R : Rt) : EP := (fun E ds w => dPtr (E 0) fun p0 => dInt .i64 (E 1) fun n1 => dStr (E 2) fun s2 => dInt .i64 (E 3) fun n3 => dInt .i64 (E 4) fun n4 => dBl (E 12) fun b12 => dInt .i64 (E 13) fun n13 => F30_8 R p0 n1 s2 n3 n4 b12 n13 ds w)
def F30_9 (R : Rt) (p0 : Option Addr) (n1 : Int) (s2 : ByteArray) (n3 n4 : Int) (ds : Ds) (w : World) : Prop :=
 Calls prog 75 #[.pointer p0, .int .i64 n1, .string s2] w fun e w26 =>
 ∃ n20 : Int, e = .returned (.int .i64 n20) /\
 Br (n20 != 0) (
 runD prog ds w26 fun w27 =>
 R (.returned (.int .i64 n20)) w27) (
 Br (decide (n3 < 0)) (
 runD prog ds w26 fun w28 =>
 R (.returned (.int .i64 1)) w28) (
 Br (decide (n4 < 1)) (
 runD prog ds w26 fun w29 =>
 R (.returned (.int .i64 1)) w29) (
 Br (decide (n3 > 131072)) (
 runD prog ds w26 fun w30 =>
 R (.returned (.int .i64 1)) w30) (
 Br (decide (n4 > (IntKind.i64.wrap ((131072 : Int) - n3)))) (
 runD prog ds w26 fun w31 =>
 R (.returned (.int .i64 1)) w31) (
 F30_8 R p0 n1 s2 n3 n4 false 0 ds w26)))))
theorem c30_l : flat (bodyOf f30) = [c30_0, c30_1, c30_2, c30_3, c30_4, c30_5, c30_6, c30_7, c30_8, c30_9, c30_10, c30_11, c30_12, c30_13, c30_14, c30_15, c30_16, c30_17] := by kernel_rfl
theorem c30_15_l : flat (innerC c30_15) = [c30_15_0] := by kernel_rfl
theorem c30_15_0_l : flat (innerC c30_15_0) = [c30_15_0_0, c30_15_0_1, c30_15_0_2, c30_15_0_3] := by kernel_rfl
theorem c30_8_l : flat (innerC c30_8) = [c30_8_0] := by kernel_rfl
theorem c30_8_0_l : flat (innerC c30_8_0) = [c30_8_0_0, c30_8_0_1, c30_8_0_2, c30_8_0_3] := by kernel_rfl
theorem F30_1_ok (R : Rt) (ds : Ds) (w : World) (E : Env) (h : F30_1 R ds w) :
    TrL prog f30.ntmps [c30_16, c30_17] (F30_q1 R) E ds w :=
  TrL_leaf (X := F30_1 R ds w) setAll_nil (by kernel_rfl) (by kernel_rfl) h
theorem F30_2_ok (R : Rt) (J1 : (Int) -> World -> Prop) (n3 n4 : Int) (l14 l15 : SV) (n16 : Int) (ds : Ds) (w : World) (E : Env) (e3 : E 3 = .int .i64 n3) (e4 : E 4 = .int .i64 n4) (e14 : E 14 = .slice l14.a l14.len l14.cap) (e15 : E 15 = .slice l15.a l15.len l15.cap) (e16 : E 16 = .int .i64 n16) (h : F30_2 R J1 n3 n4 l14 l15 n16 ds w) :
    TrL prog f30.ntmps [c30_15_0_0, c30_15_0_1, c30_15_0_2, c30_15_0_3] (F30_q5 R J1) E ds w :=
  TrL_leaf (X := F30_2 R J1 n3 n4 l14 l15 n16 ds w) (setAll_cons e3 (setAll_cons e4 (setAll_cons e14 (setAll_cons e15 (setAll_cons e16 setAll_nil))))) (by kernel_rfl) (by kernel_rfl) h
theorem F30_3_ok (R : Rt) (n3 n4 : Int) (l14 l15 : SV) (n16 : Int) (ds : Ds) (w : World) (E : Env) (e3 : E 3 = .int .i64 n3) (e4 : E 4 = .int .i64 n4) (e14 : E 14 = .slice l14.a l14.len l14.cap) (e15 : E 15 = .slice l15.a l15.len l15.cap) (e16 : E 16 = .int .i64 n16) (h : F30_3 R n3 n4 l14 l15 n16 ds w) :
    TrL prog f30.ntmps [c30_15_0] (F30_q4 R) E ds w :=
  TrL_one (Tr_loop' (c := innerC c30_15_0) (σ := Int) (enc := (fun (s : Int) (E : Env) => E 16 = .int .i64 s)) (D := (fun E K => dInt .i64 (E 16) fun n16 => K n16)) (F := (fun (J1 : (Int) -> World -> Prop) (s : Int) (w : World) => F30_2 R J1 n3 n4 l14 l15 s ds w)) (s0 := n16) (by kernel_rfl) c30_15_0_l e16 (by kernel_rfl) (fun E K hD => by obtain ⟨n16, e16, hD⟩ := dInt_elim hD; exact ⟨n16, e16, hD⟩)
      (fun J1 s E' w' he ha hF => by
      have e16' := he
      exact F30_2_ok R J1 n3 n4 l14 l15 s ds w' E' ((ha 3 (by kernel_rfl)).trans e3) ((ha 4 (by kernel_rfl)).trans e4) ((ha 14 (by kernel_rfl)).trans e14) ((ha 15 (by kernel_rfl)).trans e15) e16' hF) h)
theorem F30_4_ok (R : Rt) (n3 n4 : Int) (l14 l15 : SV) (n16 : Int) (ds : Ds) (w : World) (E : Env) (e3 : E 3 = .int .i64 n3) (e4 : E 4 = .int .i64 n4) (e14 : E 14 = .slice l14.a l14.len l14.cap) (e15 : E 15 = .slice l15.a l15.len l15.cap) (e16 : E 16 = .int .i64 n16) (h : F30_4 R n3 n4 l14 l15 n16 ds w) :
    TrL prog f30.ntmps [c30_15, c30_16, c30_17] (F30_q1 R) E ds w :=
  TrL_head (K := (F30_k2 R)) (Tr_block' (c := innerC c30_15) (by kernel_rfl) c30_15_l (F30_3_ok R n3 n4 l14 l15 n16 ds w E e3 e4 e14 e15 e16 h))
    (fun E' ds' w' hD => by
      exact F30_1_ok R ds' w' E'  hD)
theorem F30_5_ok (R : Rt) (p0 : Option Addr) (n1 : Int) (s2 : ByteArray) (n3 n4 : Int) (b12 : Bool) (ds : Ds) (w : World) (E : Env) (e0 : E 0 = .pointer p0) (e1 : E 1 = .int .i64 n1) (e2 : E 2 = .string s2) (e3 : E 3 = .int .i64 n3) (e4 : E 4 = .int .i64 n4) (e12 : E 12 = .bool b12) (h : F30_5 R p0 n1 s2 n3 n4 b12 ds w) :
    TrL prog f30.ntmps [c30_9, c30_10, c30_11, c30_12, c30_13, c30_14, c30_15, c30_16, c30_17] (F30_q1 R) E ds w :=
  TrL_piece (pre := [c30_9, c30_10, c30_11, c30_12, c30_13, c30_14]) (K := (F30_k6 R)) (X := F30_5 R p0 n1 s2 n3 n4 b12 ds w) (setAll_cons e0 (setAll_cons e1 (setAll_cons e2 (setAll_cons e3 (setAll_cons e4 (setAll_cons e12 setAll_nil)))))) (by kernel_rfl) (by kernel_rfl)
    (fun E' ds' w' hD => by
      obtain ⟨n3, e3, hD⟩ := dInt_elim hD; obtain ⟨n4, e4, hD⟩ := dInt_elim hD; obtain ⟨l14, e14, hD⟩ := dSl_elim hD; obtain ⟨l15, e15, hD⟩ := dSl_elim hD; obtain ⟨n16, e16, hD⟩ := dInt_elim hD; exact F30_4_ok R n3 n4 l14 l15 n16 ds' w' E' e3 e4 e14 e15 e16 hD) h
theorem F30_6_ok (R : Rt) (J1 : (Bool × Int) -> World -> Prop) (p0 : Option Addr) (n1 : Int) (s2 : ByteArray) (n3 n4 : Int) (b12 : Bool) (n13 : Int) (ds : Ds) (w : World) (E : Env) (e0 : E 0 = .pointer p0) (e1 : E 1 = .int .i64 n1) (e2 : E 2 = .string s2) (e3 : E 3 = .int .i64 n3) (e4 : E 4 = .int .i64 n4) (e12 : E 12 = .bool b12) (e13 : E 13 = .int .i64 n13) (h : F30_6 R J1 p0 n1 s2 n3 n4 b12 n13 ds w) :
    TrL prog f30.ntmps [c30_8_0_0, c30_8_0_1, c30_8_0_2, c30_8_0_3] (F30_q10 R J1) E ds w :=
  TrL_leaf (X := F30_6 R J1 p0 n1 s2 n3 n4 b12 n13 ds w) (setAll_cons e0 (setAll_cons e1 (setAll_cons e2 (setAll_cons e3 (setAll_cons e4 (setAll_cons e12 (setAll_cons e13 setAll_nil))))))) (by kernel_rfl) (by kernel_rfl) h
theorem F30_7_ok (R : Rt) (p0 : Option Addr) (n1 : Int) (s2 : ByteArray) (n3 n4 : Int) (b12 : Bool) (n13 : Int) (ds : Ds) (w : World) (E : Env) (e0 : E 0 = .pointer p0) (e1 : E 1 = .int .i64 n1) (e2 : E 2 = .string s2) (e3 : E 3 = .int .i64 n3) (e4 : E 4 = .int .i64 n4) (e12 : E 12 = .bool b12) (e13 : E 13 = .int .i64 n13) (h : F30_7 R p0 n1 s2 n3 n4 b12 n13 ds w) :
    TrL prog f30.ntmps [c30_8_0] (F30_q9 R) E ds w :=
  TrL_one (Tr_loop' (c := innerC c30_8_0) (σ := Bool × Int) (enc := (fun (s : Bool × Int) (E : Env) => E 12 = .bool s.1 /\ E 13 = .int .i64 s.2)) (D := (fun E K => dBl (E 12) fun b12 => dInt .i64 (E 13) fun n13 => K (b12, n13))) (F := (fun (J1 : (Bool × Int) -> World -> Prop) (s : Bool × Int) (w : World) => F30_6 R J1 p0 n1 s2 n3 n4 s.1 s.2 ds w)) (s0 := (b12, n13)) (by kernel_rfl) c30_8_0_l ⟨e12, e13⟩ (by kernel_rfl) (fun E K hD => by obtain ⟨b12, e12, hD⟩ := dBl_elim hD; obtain ⟨n13, e13, hD⟩ := dInt_elim hD; exact ⟨(b12, n13), ⟨e12, e13⟩, hD⟩)
      (fun J1 s E' w' he ha hF => by
      obtain ⟨e12', e13'⟩ := he
      exact F30_6_ok R J1 p0 n1 s2 n3 n4 s.1 s.2 ds w' E' ((ha 0 (by kernel_rfl)).trans e0) ((ha 1 (by kernel_rfl)).trans e1) ((ha 2 (by kernel_rfl)).trans e2) ((ha 3 (by kernel_rfl)).trans e3) ((ha 4 (by kernel_rfl)).trans e4) e12' e13' hF) h)
theorem F30_8_ok (R : Rt) (p0 : Option Addr) (n1 : Int) (s2 : ByteArray) (n3 n4 : Int) (b12 : Bool) (n13 : Int) (ds : Ds) (w : World) (E : Env) (e0 : E 0 = .pointer p0) (e1 : E 1 = .int .i64 n1) (e2 : E 2 = .string s2) (e3 : E 3 = .int .i64 n3) (e4 : E 4 = .int .i64 n4) (e12 : E 12 = .bool b12) (e13 : E 13 = .int .i64 n13) (h : F30_8 R p0 n1 s2 n3 n4 b12 n13 ds w) :
    TrL prog f30.ntmps [c30_8, c30_9, c30_10, c30_11, c30_12, c30_13, c30_14, c30_15, c30_16, c30_17] (F30_q1 R) E ds w :=
  TrL_head (K := (F30_k7 R)) (Tr_block' (c := innerC c30_8) (by kernel_rfl) c30_8_l (F30_7_ok R p0 n1 s2 n3 n4 b12 n13 ds w E e0 e1 e2 e3 e4 e12 e13 h))
    (fun E' ds' w' hD => by
      obtain ⟨p0, e0, hD⟩ := dPtr_elim hD; obtain ⟨n1, e1, hD⟩ := dInt_elim hD; obtain ⟨s2, e2, hD⟩ := dStr_elim hD; obtain ⟨n3, e3, hD⟩ := dInt_elim hD; obtain ⟨n4, e4, hD⟩ := dInt_elim hD; obtain ⟨b12, e12, hD⟩ := dBl_elim hD; exact F30_5_ok R p0 n1 s2 n3 n4 b12 ds' w' E' e0 e1 e2 e3 e4 e12 hD)
theorem F30_9_ok (R : Rt) (p0 : Option Addr) (n1 : Int) (s2 : ByteArray) (n3 n4 : Int) (ds : Ds) (w : World) (E : Env) (e0 : E 0 = .pointer p0) (e1 : E 1 = .int .i64 n1) (e2 : E 2 = .string s2) (e3 : E 3 = .int .i64 n3) (e4 : E 4 = .int .i64 n4) (h : F30_9 R p0 n1 s2 n3 n4 ds w) :
    TrL prog f30.ntmps [c30_0, c30_1, c30_2, c30_3, c30_4, c30_5, c30_6, c30_7, c30_8, c30_9, c30_10, c30_11, c30_12, c30_13, c30_14, c30_15, c30_16, c30_17] (F30_q1 R) E ds w :=
  TrL_piece (pre := [c30_0, c30_1, c30_2, c30_3, c30_4, c30_5, c30_6, c30_7]) (K := (F30_k11 R)) (X := F30_9 R p0 n1 s2 n3 n4 ds w) (setAll_cons e0 (setAll_cons e1 (setAll_cons e2 (setAll_cons e3 (setAll_cons e4 setAll_nil))))) (by kernel_rfl) (by kernel_rfl)
    (fun E' ds' w' hD => by
      obtain ⟨p0, e0, hD⟩ := dPtr_elim hD; obtain ⟨n1, e1, hD⟩ := dInt_elim hD; obtain ⟨s2, e2, hD⟩ := dStr_elim hD; obtain ⟨n3, e3, hD⟩ := dInt_elim hD; obtain ⟨n4, e4, hD⟩ := dInt_elim hD; obtain ⟨b12, e12, hD⟩ := dBl_elim hD; obtain ⟨n13, e13, hD⟩ := dInt_elim hD; exact F30_8_ok R p0 n1 s2 n3 n4 b12 n13 ds' w' E' e0 e1 e2 e3 e4 e12 e13 hD) h
theorem F30_calls (p0 : Option Addr) (n1 : Int) (s2 : ByteArray) (n3 n4 : Int) (w : World) (R : Rt) (h : F30_9 R p0 n1 s2 n3 n4 [] w) : Calls prog 30 #[.pointer p0, .int .i64 n1, .string s2, .int .i64 n3, .int .i64 n4] w R :=
  calls_of_L (l := [c30_0, c30_1, c30_2, c30_3, c30_4, c30_5, c30_6, c30_7, c30_8, c30_9, c30_10, c30_11, c30_12, c30_13, c30_14, c30_15, c30_16, c30_17]) func30 (by kernel_rfl) (by rw [ntmps30]; exact Nat.le_of_ble_eq_true (by kernel_rfl)) c30_l
    (F30_9_ok R p0 n1 s2 n3 n4 [] w _ rfl rfl rfl rfl rfl h)
noncomputable def c32_0 := cI1 f32 0
noncomputable def c32_1 := cI1 f32 1
noncomputable def c32_2 := cI1 f32 2
noncomputable def c32_3 := cI1 f32 3
noncomputable def c32_4 := cI1 f32 4
noncomputable def c32_5 := cI1 f32 5
noncomputable def c32_6 := cI1 f32 6
noncomputable def c32_7 := cI1 f32 7
noncomputable def c32_5_0 := cJ1 c32_5 0
noncomputable def c32_5_0_0 := cJ1 c32_5_0 0
noncomputable def c32_5_0_1 := cJ1 c32_5_0 1
noncomputable def c32_5_0_2 := cJ1 c32_5_0 2
noncomputable def c32_5_0_3 := cJ1 c32_5_0 3
noncomputable def c32_5_0_2_0 := cJ1 c32_5_0_2 0
noncomputable def c32_5_0_2_1 := cJ1 c32_5_0_2 1
noncomputable def c32_5_0_2_1t_0 := itemAt (flat (thnC c32_5_0_2_1)) 0
noncomputable def c32_5_0_2_1t_1 := itemAt (flat (thnC c32_5_0_2_1)) 1
noncomputable def c32_5_0_2_1t_2 := itemAt (flat (thnC c32_5_0_2_1)) 2
noncomputable def c32_5_0_2_1t_3 := itemAt (flat (thnC c32_5_0_2_1)) 3
noncomputable def c32_5_0_2_1t_4 := itemAt (flat (thnC c32_5_0_2_1)) 4
noncomputable def c32_5_0_2_1t_5 := itemAt (flat (thnC c32_5_0_2_1)) 5
noncomputable def c32_5_0_2_1e_0 := itemAt (flat (elsC c32_5_0_2_1)) 0
noncomputable def c32_5_0_2_1t_2_0 := cJ1 c32_5_0_2_1t_2 0
noncomputable def c32_5_0_2_1t_2_0_0 := cJ1 c32_5_0_2_1t_2_0 0
noncomputable def c32_5_0_2_1t_2_0_1 := cJ1 c32_5_0_2_1t_2_0 1
noncomputable def c32_5_0_2_1t_2_0_2 := cJ1 c32_5_0_2_1t_2_0 2
noncomputable def c32_5_0_2_1t_2_0_3 := cJ1 c32_5_0_2_1t_2_0 3
def F32_q1 (R : Rt) : EQ := endQ prog f32.results.toList R
def F32_1 (R : Rt) (ds : Ds) (w : World) : Prop :=
 runD prog ds w fun w1 =>
 R (.returned (.int .i64 4)) w1
def F32_k2 (R : Rt) : EP := (fun E ds w => F32_1 R ds w)
def F32_q3 (R : Rt) : EQ := (thenQ (F32_k2 R) (F32_q1 R))
def F32_q4 (R : Rt) : EQ := (blockQ 0 (F32_q3 R))
def F32_q5 (R : Rt) (J1 : (Int) -> World -> Prop) : EQ := (thenQ (fun E _ w => dInt .i64 (E 12) fun n12 => J1 n12 w) (F32_q4 R))
def F32_2 (R : Rt) (J1 : (Int) -> World -> Prop) (p0 : Option Addr) (n1 : Int) (s2 : ByteArray) (n3 n4 n12 : Int) (ds : Ds) (w : World) : Prop :=
 J1 (IntKind.i64.wrap (n12 + 1)) w
def F32_k6 (R : Rt) (J1 : (Int) -> World -> Prop) : EP := (fun E ds w => dPtr (E 0) fun p0 => dInt .i64 (E 1) fun n1 => dStr (E 2) fun s2 => dInt .i64 (E 3) fun n3 => dInt .i64 (E 4) fun n4 => dInt .i64 (E 12) fun n12 => F32_2 R J1 p0 n1 s2 n3 n4 n12 ds w)
def F32_q7 (R : Rt) (J1 : (Int) -> World -> Prop) : EQ := (thenQ (F32_k6 R J1) (F32_q5 R J1))
def F32_q8 (R : Rt) (J1 : (Int) -> World -> Prop) : EQ := (blockQ 1 (F32_q7 R J1))
def F32_3 (R : Rt) (J1 : (Int) -> World -> Prop) (p0 : Option Addr) (n12 : Int) (ds : Ds) (w : World) : Prop :=
 dwE w fun w2 =>
 ∃ S1 : World -> Prop, S1 w2 /\
 ptrE p0 fun a3 =>
 ∃ l72 : SV, (∀ w', S1 w' -> w'.cell? (a3.add 5) = some (.slice l72.a l72.len l72.cap)) /\
 0 <= n12 /\ n12.toNat <= l72.cap /\ 0 <= n12.toNat /\
 ptrE p0 fun a4 =>
 ∃ l79 : SV, (∀ w', S1 w' -> w'.cell? (a4.add 5) = some (.slice l79.a l79.len l79.cap)) /\
 l79.len <= l79.cap /\ 0 <= (IntKind.i64.wrap (n12 + 1)) /\ (IntKind.i64.wrap (n12 + 1)).toNat <= l79.len /\
 ∃ l75 : SV, ∃ w5 : World, (Builtin.append_ #[71, 71] 71 #[.slice none 0 0, .slice (if l72.cap = 0 then l72.a else l72.a.map (fun x => x.add (0 * 4))) (n12.toNat - 0) (l72.cap - 0)]).run prog w2 = .ok (.slice l75.a l75.len l75.cap) w5 /\
 S1 w5 /\
 ∃ l83 : SV, ∃ w6 : World, (Builtin.append_ #[71, 71] 71 #[.slice l75.a l75.len l75.cap, .slice (if l79.cap = (IntKind.i64.wrap (n12 + 1)).toNat then l79.a else l79.a.map (fun x => x.add ((IntKind.i64.wrap (n12 + 1)).toNat * 4))) (l79.len - (IntKind.i64.wrap (n12 + 1)).toNat) (l79.cap - (IntKind.i64.wrap (n12 + 1)).toNat)]).run prog w5 = .ok (.slice l83.a l83.len l83.cap) w6 /\
 ptrE p0 fun a7 =>
 st1 (a7.add 5) (.slice l83.a l83.len l83.cap) w6 fun w8 =>
 runD prog ds w8 fun w9 =>
 R (.returned (.int .i64 0)) w9
def F32_k9 (R : Rt) (J1 : (Int) -> World -> Prop) : EP := (fun E ds w => dPtr (E 0) fun p0 => dInt .i64 (E 12) fun n12 => F32_3 R J1 p0 n12 ds w)
def F32_q10 (R : Rt) (J1 : (Int) -> World -> Prop) : EQ := (thenQ (F32_k9 R J1) (F32_q8 R J1))
def F32_q11 (R : Rt) (J1 : (Int) -> World -> Prop) : EQ := (blockQ 2 (F32_q10 R J1))
def F32_q12 (R : Rt) (J1 : (Int) -> World -> Prop) (J2 : (Int) -> World -> Prop) : EQ := (thenQ (fun E _ w => dInt .i64 (E 14) fun n14 => J2 n14 w) (F32_q11 R J1))
def F32_4 (R : Rt) (J1 : (Int) -> World -> Prop) (J2 : (Int) -> World -> Prop) (p0 : Option Addr) (s2 : ByteArray) (n3 n4 n12 : Int) (l13 : SV) (n14 : Int) (ds : Ds) (w : World) : Prop :=
 Br (decide (n14 < (l13.len : Int))) (
 Calls prog 79 #[.slice l13.a l13.len l13.cap, .int .i64 n14, .int .i64 n3, .int .i64 n4] w fun e w10 =>
 ∃ b62 : Bool, e = .returned (.bool b62) /\
 Br b62 (
 Calls prog 82 #[.pointer p0, .string s2, .int .i64 n14, .slice l13.a l13.len l13.cap] w10 fun e w11 =>
 e = .returned (.tuple #[]) /\
 J2 (IntKind.i64.wrap (n14 + 1)) w11) (
 J2 (IntKind.i64.wrap (n14 + 1)) w10)) (
 F32_3 R J1 p0 n12 ds w)
def F32_5 (R : Rt) (J1 : (Int) -> World -> Prop) (p0 : Option Addr) (s2 : ByteArray) (n3 n4 n12 : Int) (l13 : SV) (n14 : Int) (ds : Ds) (w : World) : Prop :=
 loopT (fun (J2 : (Int) -> World -> Prop) (s : Int) (w : World) => F32_4 R J1 J2 p0 s2 n3 n4 n12 l13 s ds w) n14 w
abbrev F32_6 (R : Rt) (J1 : (Int) -> World -> Prop) (p0 : Option Addr) (s2 : ByteArray) (n3 n4 n12 : Int) (l13 : SV) (n14 : Int) (ds : Ds) (w : World) : Prop := F32_5 R J1 p0 s2 n3 n4 n12 l13 n14 ds w
def F32_k13 (R : Rt) (J1 : (Int) -> World -> Prop) : EP := (fun E ds w => dPtr (E 0) fun p0 => dStr (E 2) fun s2 => dInt .i64 (E 3) fun n3 => dInt .i64 (E 4) fun n4 => dInt .i64 (E 12) fun n12 => dSl (E 13) fun l13 => dInt .i64 (E 14) fun n14 => F32_6 R J1 p0 s2 n3 n4 n12 l13 n14 ds w)
def F32_7 (R : Rt) (J1 : (Int) -> World -> Prop) (p0 : Option Addr) (n1 : Int) (s2 : ByteArray) (n3 n4 n12 : Int) (ds : Ds) (w : World) : Prop :=
 ptrE p0 fun a12 =>
 0 <= n1 /\ n1 < (4 : Int) /\
 ∃ m49 : Option Nat, w.cell? ((a12.add 1).add (n1.toNat * 1)) = some (.map m49) /\
 ∃ l51 : SV, ∃ w13 : World, (Instr.lookup 69 (.map m49) (.string s2) false).run prog w = .ok (.slice l51.a l51.len l51.cap) w13 /\
 F32_6 R J1 p0 s2 n3 n4 n12 l51 0 ds w13
def F32_8 (R : Rt) (J1 : (Int) -> World -> Prop) (p0 : Option Addr) (n1 : Int) (s2 : ByteArray) (n3 n4 n12 : Int) (ds : Ds) (w : World) : Prop :=
 F32_2 R J1 p0 n1 s2 n3 n4 n12 ds w
def F32_9 (R : Rt) (J1 : (Int) -> World -> Prop) (p0 : Option Addr) (n1 : Int) (s2 : ByteArray) (n3 n4 n12 : Int) (b43 : Bool) (ds : Ds) (w : World) : Prop :=
 Br b43 (
 F32_7 R J1 p0 n1 s2 n3 n4 n12 ds w) (
 F32_8 R J1 p0 n1 s2 n3 n4 n12 ds w)
def F32_k14 (R : Rt) (J1 : (Int) -> World -> Prop) : EP := (fun E ds w => dPtr (E 0) fun p0 => dInt .i64 (E 1) fun n1 => dStr (E 2) fun s2 => dInt .i64 (E 3) fun n3 => dInt .i64 (E 4) fun n4 => dInt .i64 (E 12) fun n12 => dBl (E 43) fun b43 => F32_9 R J1 p0 n1 s2 n3 n4 n12 b43 ds w)
def F32_10 (R : Rt) (J1 : (Int) -> World -> Prop) (p0 : Option Addr) (n1 : Int) (s2 : ByteArray) (n3 n4 n12 : Int) (ds : Ds) (w : World) : Prop :=
 ptrE p0 fun a14 =>
 ∃ l34 : SV, w.cell? (a14.add 5) = some (.slice l34.a l34.len l34.cap) /\
 ∃ a15 : Addr, l34.a = some a15 /\ 0 <= n12 /\ n12 < (l34.len : Int) /\
 ∃ n37_0 : Int, w.cell? ((a15.add (n12.toNat * 4)).add 0) = some (.int .i64 n37_0) /\
 ∃ s37_1 : ByteArray, w.cell? ((a15.add (n12.toNat * 4)).add 1) = some (.string s37_1) /\
 ∃ n37_2 : Int, w.cell? ((a15.add (n12.toNat * 4)).add 2) = some (.int .i64 n37_2) /\
 ∃ n37_3 : Int, w.cell? ((a15.add (n12.toNat * 4)).add 3) = some (.int .i64 n37_3) /\
 ∃ b43 : Bool, ∃ w16 : World, (eqS .eql 127 (.tmp 37) (.tmp 42) (.agg #[.int .i64 n37_0, .string s37_1, .int .i64 n37_2, .int .i64 n37_3]) (.agg #[.int .i64 n1, .string s2, .int .i64 n3, .int .i64 n4])).run prog w = .ok (.bool b43) w16 /\
 F32_9 R J1 p0 n1 s2 n3 n4 n12 b43 ds w16
abbrev F32_11 (R : Rt) (J1 : (Int) -> World -> Prop) (p0 : Option Addr) (n1 : Int) (s2 : ByteArray) (n3 n4 n12 : Int) (ds : Ds) (w : World) : Prop := F32_10 R J1 p0 n1 s2 n3 n4 n12 ds w
def F32_k15 (R : Rt) (J1 : (Int) -> World -> Prop) : EP := (fun E ds w => dPtr (E 0) fun p0 => dInt .i64 (E 1) fun n1 => dStr (E 2) fun s2 => dInt .i64 (E 3) fun n3 => dInt .i64 (E 4) fun n4 => dInt .i64 (E 12) fun n12 => F32_11 R J1 p0 n1 s2 n3 n4 n12 ds w)
def F32_12 (R : Rt) (J1 : (Int) -> World -> Prop) (p0 : Option Addr) (n1 : Int) (s2 : ByteArray) (n3 n4 n12 : Int) (ds : Ds) (w : World) : Prop :=
 ptrE p0 fun a17 =>
 ∃ l26 : SV, w.cell? (a17.add 5) = some (.slice l26.a l26.len l26.cap) /\
 Br (decide (n12 < (l26.len : Int))) (
 F32_11 R J1 p0 n1 s2 n3 n4 n12 ds w) (
 F32_1 R ds w)
def F32_13 (R : Rt) (p0 : Option Addr) (n1 : Int) (s2 : ByteArray) (n3 n4 n12 : Int) (ds : Ds) (w : World) : Prop :=
 loopT (fun (J1 : (Int) -> World -> Prop) (s : Int) (w : World) => F32_12 R J1 p0 n1 s2 n3 n4 s ds w) n12 w
abbrev F32_14 (R : Rt) (p0 : Option Addr) (n1 : Int) (s2 : ByteArray) (n3 n4 n12 : Int) (ds : Ds) (w : World) : Prop := F32_13 R p0 n1 s2 n3 n4 n12 ds w
def F32_k16 (R : Rt) : EP := (fun E ds w => dPtr (E 0) fun p0 => dInt .i64 (E 1) fun n1 => dStr (E 2) fun s2 => dInt .i64 (E 3) fun n3 => dInt .i64 (E 4) fun n4 => dInt .i64 (E 12) fun n12 => F32_14 R p0 n1 s2 n3 n4 n12 ds w)
def F32_15 (R : Rt) (p0 : Option Addr) (n1 : Int) (s2 : ByteArray) (n3 n4 : Int) (ds : Ds) (w : World) : Prop :=
 Calls prog 75 #[.pointer p0, .int .i64 n1, .string s2] w fun e w18 =>
 ∃ n18 : Int, e = .returned (.int .i64 n18) /\
 Br (n18 != 0) (
 runD prog ds w18 fun w19 =>
 R (.returned (.int .i64 n18)) w19) (
 F32_14 R p0 n1 s2 n3 n4 0 ds w18)
theorem c32_l : flat (bodyOf f32) = [c32_0, c32_1, c32_2, c32_3, c32_4, c32_5, c32_6, c32_7] := by kernel_rfl
theorem c32_5_l : flat (innerC c32_5) = [c32_5_0] := by kernel_rfl
theorem c32_5_0_l : flat (innerC c32_5_0) = [c32_5_0_0, c32_5_0_1, c32_5_0_2, c32_5_0_3] := by kernel_rfl
theorem c32_5_0_2_l : flat (innerC c32_5_0_2) = [c32_5_0_2_0, c32_5_0_2_1] := by kernel_rfl
theorem c32_5_0_2_1t_l : flat (thnC c32_5_0_2_1) = [c32_5_0_2_1t_0, c32_5_0_2_1t_1, c32_5_0_2_1t_2, c32_5_0_2_1t_3, c32_5_0_2_1t_4, c32_5_0_2_1t_5] := by kernel_rfl
theorem c32_5_0_2_1e_l : flat (elsC c32_5_0_2_1) = [c32_5_0_2_1e_0] := by kernel_rfl
theorem c32_5_0_2_1t_2_l : flat (innerC c32_5_0_2_1t_2) = [c32_5_0_2_1t_2_0] := by kernel_rfl
theorem c32_5_0_2_1t_2_0_l : flat (innerC c32_5_0_2_1t_2_0) = [c32_5_0_2_1t_2_0_0, c32_5_0_2_1t_2_0_1, c32_5_0_2_1t_2_0_2, c32_5_0_2_1t_2_0_3] := by kernel_rfl
theorem F32_1_ok (R : Rt) (ds : Ds) (w : World) (E : Env) (h : F32_1 R ds w) :
    TrL prog f32.ntmps [c32_6, c32_7] (F32_q1 R) E ds w :=
  TrL_leaf (X := F32_1 R ds w) setAll_nil (by kernel_rfl) (by kernel_rfl) h
theorem F32_2_ok (R : Rt) (J1 : (Int) -> World -> Prop) (p0 : Option Addr) (n1 : Int) (s2 : ByteArray) (n3 n4 n12 : Int) (ds : Ds) (w : World) (E : Env) (e0 : E 0 = .pointer p0) (e1 : E 1 = .int .i64 n1) (e2 : E 2 = .string s2) (e3 : E 3 = .int .i64 n3) (e4 : E 4 = .int .i64 n4) (e12 : E 12 = .int .i64 n12) (h : F32_2 R J1 p0 n1 s2 n3 n4 n12 ds w) :
    TrL prog f32.ntmps [c32_5_0_3] (F32_q5 R J1) E ds w :=
  TrL_leaf (X := F32_2 R J1 p0 n1 s2 n3 n4 n12 ds w) (setAll_cons e0 (setAll_cons e1 (setAll_cons e2 (setAll_cons e3 (setAll_cons e4 (setAll_cons e12 setAll_nil)))))) (by kernel_rfl) (by kernel_rfl) h
theorem F32_3_ok (R : Rt) (J1 : (Int) -> World -> Prop) (p0 : Option Addr) (n12 : Int) (ds : Ds) (w : World) (E : Env) (e0 : E 0 = .pointer p0) (e12 : E 12 = .int .i64 n12) (h : F32_3 R J1 p0 n12 ds w) :
    TrL prog f32.ntmps [c32_5_0_2_1t_3, c32_5_0_2_1t_4, c32_5_0_2_1t_5] (F32_q8 R J1) E ds w :=
  TrL_leaf (X := F32_3 R J1 p0 n12 ds w) (setAll_cons e0 (setAll_cons e12 setAll_nil)) (by kernel_rfl) (by kernel_rfl) h
theorem F32_4_ok (R : Rt) (J1 : (Int) -> World -> Prop) (J2 : (Int) -> World -> Prop) (p0 : Option Addr) (s2 : ByteArray) (n3 n4 n12 : Int) (l13 : SV) (n14 : Int) (ds : Ds) (w : World) (E : Env) (e0 : E 0 = .pointer p0) (e2 : E 2 = .string s2) (e3 : E 3 = .int .i64 n3) (e4 : E 4 = .int .i64 n4) (e12 : E 12 = .int .i64 n12) (e13 : E 13 = .slice l13.a l13.len l13.cap) (e14 : E 14 = .int .i64 n14) (h : F32_4 R J1 J2 p0 s2 n3 n4 n12 l13 n14 ds w) :
    TrL prog f32.ntmps [c32_5_0_2_1t_2_0_0, c32_5_0_2_1t_2_0_1, c32_5_0_2_1t_2_0_2, c32_5_0_2_1t_2_0_3] (F32_q12 R J1 J2) E ds w :=
  TrL_leaf (X := F32_4 R J1 J2 p0 s2 n3 n4 n12 l13 n14 ds w) (setAll_cons e0 (setAll_cons e2 (setAll_cons e3 (setAll_cons e4 (setAll_cons e12 (setAll_cons e13 (setAll_cons e14 setAll_nil))))))) (by kernel_rfl) (by kernel_rfl) h
theorem F32_5_ok (R : Rt) (J1 : (Int) -> World -> Prop) (p0 : Option Addr) (s2 : ByteArray) (n3 n4 n12 : Int) (l13 : SV) (n14 : Int) (ds : Ds) (w : World) (E : Env) (e0 : E 0 = .pointer p0) (e2 : E 2 = .string s2) (e3 : E 3 = .int .i64 n3) (e4 : E 4 = .int .i64 n4) (e12 : E 12 = .int .i64 n12) (e13 : E 13 = .slice l13.a l13.len l13.cap) (e14 : E 14 = .int .i64 n14) (h : F32_5 R J1 p0 s2 n3 n4 n12 l13 n14 ds w) :
    TrL prog f32.ntmps [c32_5_0_2_1t_2_0] (F32_q11 R J1) E ds w :=
  TrL_one (Tr_loop' (c := innerC c32_5_0_2_1t_2_0) (σ := Int) (enc := (fun (s : Int) (E : Env) => E 14 = .int .i64 s)) (D := (fun E K => dInt .i64 (E 14) fun n14 => K n14)) (F := (fun (J2 : (Int) -> World -> Prop) (s : Int) (w : World) => F32_4 R J1 J2 p0 s2 n3 n4 n12 l13 s ds w)) (s0 := n14) (by kernel_rfl) c32_5_0_2_1t_2_0_l e14 (by kernel_rfl) (fun E K hD => by obtain ⟨n14, e14, hD⟩ := dInt_elim hD; exact ⟨n14, e14, hD⟩)
      (fun J2 s E' w' he ha hF => by
      have e14' := he
      exact F32_4_ok R J1 J2 p0 s2 n3 n4 n12 l13 s ds w' E' ((ha 0 (by kernel_rfl)).trans e0) ((ha 2 (by kernel_rfl)).trans e2) ((ha 3 (by kernel_rfl)).trans e3) ((ha 4 (by kernel_rfl)).trans e4) ((ha 12 (by kernel_rfl)).trans e12) ((ha 13 (by kernel_rfl)).trans e13) e14' hF) h)
theorem F32_6_ok (R : Rt) (J1 : (Int) -> World -> Prop) (p0 : Option Addr) (s2 : ByteArray) (n3 n4 n12 : Int) (l13 : SV) (n14 : Int) (ds : Ds) (w : World) (E : Env) (e0 : E 0 = .pointer p0) (e2 : E 2 = .string s2) (e3 : E 3 = .int .i64 n3) (e4 : E 4 = .int .i64 n4) (e12 : E 12 = .int .i64 n12) (e13 : E 13 = .slice l13.a l13.len l13.cap) (e14 : E 14 = .int .i64 n14) (h : F32_6 R J1 p0 s2 n3 n4 n12 l13 n14 ds w) :
    TrL prog f32.ntmps [c32_5_0_2_1t_2, c32_5_0_2_1t_3, c32_5_0_2_1t_4, c32_5_0_2_1t_5] (F32_q8 R J1) E ds w :=
  TrL_head (K := (F32_k9 R J1)) (Tr_block' (c := innerC c32_5_0_2_1t_2) (by kernel_rfl) c32_5_0_2_1t_2_l (F32_5_ok R J1 p0 s2 n3 n4 n12 l13 n14 ds w E e0 e2 e3 e4 e12 e13 e14 h))
    (fun E' ds' w' hD => by
      obtain ⟨p0, e0, hD⟩ := dPtr_elim hD; obtain ⟨n12, e12, hD⟩ := dInt_elim hD; exact F32_3_ok R J1 p0 n12 ds' w' E' e0 e12 hD)
theorem F32_7_ok (R : Rt) (J1 : (Int) -> World -> Prop) (p0 : Option Addr) (n1 : Int) (s2 : ByteArray) (n3 n4 n12 : Int) (ds : Ds) (w : World) (E : Env) (e0 : E 0 = .pointer p0) (e1 : E 1 = .int .i64 n1) (e2 : E 2 = .string s2) (e3 : E 3 = .int .i64 n3) (e4 : E 4 = .int .i64 n4) (e12 : E 12 = .int .i64 n12) (h : F32_7 R J1 p0 n1 s2 n3 n4 n12 ds w) :
    TrL prog f32.ntmps [c32_5_0_2_1t_0, c32_5_0_2_1t_1, c32_5_0_2_1t_2, c32_5_0_2_1t_3, c32_5_0_2_1t_4, c32_5_0_2_1t_5] (F32_q8 R J1) E ds w :=
  TrL_piece (pre := [c32_5_0_2_1t_0, c32_5_0_2_1t_1]) (K := (F32_k13 R J1)) (X := F32_7 R J1 p0 n1 s2 n3 n4 n12 ds w) (setAll_cons e0 (setAll_cons e1 (setAll_cons e2 (setAll_cons e3 (setAll_cons e4 (setAll_cons e12 setAll_nil)))))) (by kernel_rfl) (by kernel_rfl)
    (fun E' ds' w' hD => by
      obtain ⟨p0, e0, hD⟩ := dPtr_elim hD; obtain ⟨s2, e2, hD⟩ := dStr_elim hD; obtain ⟨n3, e3, hD⟩ := dInt_elim hD; obtain ⟨n4, e4, hD⟩ := dInt_elim hD; obtain ⟨n12, e12, hD⟩ := dInt_elim hD; obtain ⟨l13, e13, hD⟩ := dSl_elim hD; obtain ⟨n14, e14, hD⟩ := dInt_elim hD; exact F32_6_ok R J1 p0 s2 n3 n4 n12 l13 n14 ds' w' E' e0 e2 e3 e4 e12 e13 e14 hD) h
theorem F32_8_ok (R : Rt) (J1 : (Int) -> World -> Prop) (p0 : Option Addr) (n1 : Int) (s2 : ByteArray) (n3 n4 n12 : Int) (ds : Ds) (w : World) (E : Env) (e0 : E 0 = .pointer p0) (e1 : E 1 = .int .i64 n1) (e2 : E 2 = .string s2) (e3 : E 3 = .int .i64 n3) (e4 : E 4 = .int .i64 n4) (e12 : E 12 = .int .i64 n12) (h : F32_8 R J1 p0 n1 s2 n3 n4 n12 ds w) :
    TrL prog f32.ntmps [c32_5_0_2_1e_0] (F32_q8 R J1) E ds w :=
  TrL_leaf (X := F32_8 R J1 p0 n1 s2 n3 n4 n12 ds w) (setAll_cons e0 (setAll_cons e1 (setAll_cons e2 (setAll_cons e3 (setAll_cons e4 (setAll_cons e12 setAll_nil)))))) (by kernel_rfl) (by kernel_rfl) h
theorem F32_9_ok (R : Rt) (J1 : (Int) -> World -> Prop) (p0 : Option Addr) (n1 : Int) (s2 : ByteArray) (n3 n4 n12 : Int) (b43 : Bool) (ds : Ds) (w : World) (E : Env) (e0 : E 0 = .pointer p0) (e1 : E 1 = .int .i64 n1) (e2 : E 2 = .string s2) (e3 : E 3 = .int .i64 n3) (e4 : E 4 = .int .i64 n4) (e12 : E 12 = .int .i64 n12) (e43 : E 43 = .bool b43) (h : F32_9 R J1 p0 n1 s2 n3 n4 n12 b43 ds w) :
    TrL prog f32.ntmps [c32_5_0_2_1] (F32_q8 R J1) E ds w :=
  TrL_one (Tr_cond' (c := .tmp 43) (x := thnC c32_5_0_2_1) (y := elsC c32_5_0_2_1) (by kernel_rfl) c32_5_0_2_1t_l c32_5_0_2_1e_l e43 (fun h => F32_7_ok R J1 p0 n1 s2 n3 n4 n12 ds w E e0 e1 e2 e3 e4 e12 h) (fun h => F32_8_ok R J1 p0 n1 s2 n3 n4 n12 ds w E e0 e1 e2 e3 e4 e12 h) h)
theorem F32_10_ok (R : Rt) (J1 : (Int) -> World -> Prop) (p0 : Option Addr) (n1 : Int) (s2 : ByteArray) (n3 n4 n12 : Int) (ds : Ds) (w : World) (E : Env) (e0 : E 0 = .pointer p0) (e1 : E 1 = .int .i64 n1) (e2 : E 2 = .string s2) (e3 : E 3 = .int .i64 n3) (e4 : E 4 = .int .i64 n4) (e12 : E 12 = .int .i64 n12) (h : F32_10 R J1 p0 n1 s2 n3 n4 n12 ds w) :
    TrL prog f32.ntmps [c32_5_0_2_0, c32_5_0_2_1] (F32_q8 R J1) E ds w :=
  TrL_piece (pre := [c32_5_0_2_0]) (K := (F32_k14 R J1)) (X := F32_10 R J1 p0 n1 s2 n3 n4 n12 ds w) (setAll_cons e0 (setAll_cons e1 (setAll_cons e2 (setAll_cons e3 (setAll_cons e4 (setAll_cons e12 setAll_nil)))))) (by kernel_rfl) (by kernel_rfl)
    (fun E' ds' w' hD => by
      obtain ⟨p0, e0, hD⟩ := dPtr_elim hD; obtain ⟨n1, e1, hD⟩ := dInt_elim hD; obtain ⟨s2, e2, hD⟩ := dStr_elim hD; obtain ⟨n3, e3, hD⟩ := dInt_elim hD; obtain ⟨n4, e4, hD⟩ := dInt_elim hD; obtain ⟨n12, e12, hD⟩ := dInt_elim hD; obtain ⟨b43, e43, hD⟩ := dBl_elim hD; exact F32_9_ok R J1 p0 n1 s2 n3 n4 n12 b43 ds' w' E' e0 e1 e2 e3 e4 e12 e43 hD) h
theorem F32_11_ok (R : Rt) (J1 : (Int) -> World -> Prop) (p0 : Option Addr) (n1 : Int) (s2 : ByteArray) (n3 n4 n12 : Int) (ds : Ds) (w : World) (E : Env) (e0 : E 0 = .pointer p0) (e1 : E 1 = .int .i64 n1) (e2 : E 2 = .string s2) (e3 : E 3 = .int .i64 n3) (e4 : E 4 = .int .i64 n4) (e12 : E 12 = .int .i64 n12) (h : F32_11 R J1 p0 n1 s2 n3 n4 n12 ds w) :
    TrL prog f32.ntmps [c32_5_0_2, c32_5_0_3] (F32_q5 R J1) E ds w :=
  TrL_head (K := (F32_k6 R J1)) (Tr_block' (c := innerC c32_5_0_2) (by kernel_rfl) c32_5_0_2_l (F32_10_ok R J1 p0 n1 s2 n3 n4 n12 ds w E e0 e1 e2 e3 e4 e12 h))
    (fun E' ds' w' hD => by
      obtain ⟨p0, e0, hD⟩ := dPtr_elim hD; obtain ⟨n1, e1, hD⟩ := dInt_elim hD; obtain ⟨s2, e2, hD⟩ := dStr_elim hD; obtain ⟨n3, e3, hD⟩ := dInt_elim hD; obtain ⟨n4, e4, hD⟩ := dInt_elim hD; obtain ⟨n12, e12, hD⟩ := dInt_elim hD; exact F32_2_ok R J1 p0 n1 s2 n3 n4 n12 ds' w' E' e0 e1 e2 e3 e4 e12 hD)
theorem F32_12_ok (R : Rt) (J1 : (Int) -> World -> Prop) (p0 : Option Addr) (n1 : Int) (s2 : ByteArray) (n3 n4 n12 : Int) (ds : Ds) (w : World) (E : Env) (e0 : E 0 = .pointer p0) (e1 : E 1 = .int .i64 n1) (e2 : E 2 = .string s2) (e3 : E 3 = .int .i64 n3) (e4 : E 4 = .int .i64 n4) (e12 : E 12 = .int .i64 n12) (h : F32_12 R J1 p0 n1 s2 n3 n4 n12 ds w) :
    TrL prog f32.ntmps [c32_5_0_0, c32_5_0_1, c32_5_0_2, c32_5_0_3] (F32_q5 R J1) E ds w :=
  TrL_piece (pre := [c32_5_0_0, c32_5_0_1]) (K := (F32_k15 R J1)) (X := F32_12 R J1 p0 n1 s2 n3 n4 n12 ds w) (setAll_cons e0 (setAll_cons e1 (setAll_cons e2 (setAll_cons e3 (setAll_cons e4 (setAll_cons e12 setAll_nil)))))) (by kernel_rfl) (by kernel_rfl)
    (fun E' ds' w' hD => by
      obtain ⟨p0, e0, hD⟩ := dPtr_elim hD; obtain ⟨n1, e1, hD⟩ := dInt_elim hD; obtain ⟨s2, e2, hD⟩ := dStr_elim hD; obtain ⟨n3, e3, hD⟩ := dInt_elim hD; obtain ⟨n4, e4, hD⟩ := dInt_elim hD; obtain ⟨n12, e12, hD⟩ := dInt_elim hD; exact F32_11_ok R J1 p0 n1 s2 n3 n4 n12 ds' w' E' e0 e1 e2 e3 e4 e12 hD) h
theorem F32_13_ok (R : Rt) (p0 : Option Addr) (n1 : Int) (s2 : ByteArray) (n3 n4 n12 : Int) (ds : Ds) (w : World) (E : Env) (e0 : E 0 = .pointer p0) (e1 : E 1 = .int .i64 n1) (e2 : E 2 = .string s2) (e3 : E 3 = .int .i64 n3) (e4 : E 4 = .int .i64 n4) (e12 : E 12 = .int .i64 n12) (h : F32_13 R p0 n1 s2 n3 n4 n12 ds w) :
    TrL prog f32.ntmps [c32_5_0] (F32_q4 R) E ds w :=
  TrL_one (Tr_loop' (c := innerC c32_5_0) (σ := Int) (enc := (fun (s : Int) (E : Env) => E 12 = .int .i64 s)) (D := (fun E K => dInt .i64 (E 12) fun n12 => K n12)) (F := (fun (J1 : (Int) -> World -> Prop) (s : Int) (w : World) => F32_12 R J1 p0 n1 s2 n3 n4 s ds w)) (s0 := n12) (by kernel_rfl) c32_5_0_l e12 (by kernel_rfl) (fun E K hD => by obtain ⟨n12, e12, hD⟩ := dInt_elim hD; exact ⟨n12, e12, hD⟩)
      (fun J1 s E' w' he ha hF => by
      have e12' := he
      exact F32_12_ok R J1 p0 n1 s2 n3 n4 s ds w' E' ((ha 0 (by kernel_rfl)).trans e0) ((ha 1 (by kernel_rfl)).trans e1) ((ha 2 (by kernel_rfl)).trans e2) ((ha 3 (by kernel_rfl)).trans e3) ((ha 4 (by kernel_rfl)).trans e4) e12' hF) h)
theorem F32_14_ok (R : Rt) (p0 : Option Addr) (n1 : Int) (s2 : ByteArray) (n3 n4 n12 : Int) (ds : Ds) (w : World) (E : Env) (e0 : E 0 = .pointer p0) (e1 : E 1 = .int .i64 n1) (e2 : E 2 = .string s2) (e3 : E 3 = .int .i64 n3) (e4 : E 4 = .int .i64 n4) (e12 : E 12 = .int .i64 n12) (h : F32_14 R p0 n1 s2 n3 n4 n12 ds w) :
    TrL prog f32.ntmps [c32_5, c32_6, c32_7] (F32_q1 R) E ds w :=
  TrL_head (K := (F32_k2 R)) (Tr_block' (c := innerC c32_5) (by kernel_rfl) c32_5_l (F32_13_ok R p0 n1 s2 n3 n4 n12 ds w E e0 e1 e2 e3 e4 e12 h))
    (fun E' ds' w' hD => by
      exact F32_1_ok R ds' w' E'  hD)
theorem F32_15_ok (R : Rt) (p0 : Option Addr) (n1 : Int) (s2 : ByteArray) (n3 n4 : Int) (ds : Ds) (w : World) (E : Env) (e0 : E 0 = .pointer p0) (e1 : E 1 = .int .i64 n1) (e2 : E 2 = .string s2) (e3 : E 3 = .int .i64 n3) (e4 : E 4 = .int .i64 n4) (h : F32_15 R p0 n1 s2 n3 n4 ds w) :
    TrL prog f32.ntmps [c32_0, c32_1, c32_2, c32_3, c32_4, c32_5, c32_6, c32_7] (F32_q1 R) E ds w :=
  TrL_piece (pre := [c32_0, c32_1, c32_2, c32_3, c32_4]) (K := (F32_k16 R)) (X := F32_15 R p0 n1 s2 n3 n4 ds w) (setAll_cons e0 (setAll_cons e1 (setAll_cons e2 (setAll_cons e3 (setAll_cons e4 setAll_nil))))) (by kernel_rfl) (by kernel_rfl)
    (fun E' ds' w' hD => by
      obtain ⟨p0, e0, hD⟩ := dPtr_elim hD; obtain ⟨n1, e1, hD⟩ := dInt_elim hD; obtain ⟨s2, e2, hD⟩ := dStr_elim hD; obtain ⟨n3, e3, hD⟩ := dInt_elim hD; obtain ⟨n4, e4, hD⟩ := dInt_elim hD; obtain ⟨n12, e12, hD⟩ := dInt_elim hD; exact F32_14_ok R p0 n1 s2 n3 n4 n12 ds' w' E' e0 e1 e2 e3 e4 e12 hD) h
theorem F32_calls (p0 : Option Addr) (n1 : Int) (s2 : ByteArray) (n3 n4 : Int) (w : World) (R : Rt) (h : F32_15 R p0 n1 s2 n3 n4 [] w) : Calls prog 32 #[.pointer p0, .int .i64 n1, .string s2, .int .i64 n3, .int .i64 n4] w R :=
  calls_of_L (l := [c32_0, c32_1, c32_2, c32_3, c32_4, c32_5, c32_6, c32_7]) func32 (by kernel_rfl) (by rw [ntmps32]; exact Nat.le_of_ble_eq_true (by kernel_rfl)) c32_l
    (F32_15_ok R p0 n1 s2 n3 n4 [] w _ rfl rfl rfl rfl rfl h)
noncomputable def c33_0 := cI1 f33 0
noncomputable def c33_1 := cI1 f33 1
noncomputable def c33_2 := cI1 f33 2
noncomputable def c33_3 := cI1 f33 3
noncomputable def c33_4 := cI1 f33 4
noncomputable def c33_5 := cI1 f33 5
noncomputable def c33_6 := cI1 f33 6
noncomputable def c33_7 := cI1 f33 7
noncomputable def c33_5_0 := cJ1 c33_5 0
noncomputable def c33_5_0_0 := cJ1 c33_5_0 0
noncomputable def c33_5_0_1 := cJ1 c33_5_0 1
noncomputable def c33_5_0_2 := cJ1 c33_5_0 2
noncomputable def c33_5_0_3 := cJ1 c33_5_0 3
def F33_q1 (R : Rt) : EQ := endQ prog f33.results.toList R
def F33_1 (R : Rt) (l8 : SV) (ds : Ds) (w : World) : Prop :=
 runD prog ds w fun w1 =>
 R (.returned (.tuple #[.int .i64 (l8.len : Int), .int .i64 0])) w1
def F33_k2 (R : Rt) : EP := (fun E ds w => dSl (E 8) fun l8 => F33_1 R l8 ds w)
def F33_q3 (R : Rt) : EQ := (thenQ (F33_k2 R) (F33_q1 R))
def F33_q4 (R : Rt) : EQ := (blockQ 0 (F33_q3 R))
def F33_q5 (R : Rt) (J1 : (Int) -> World -> Prop) : EQ := (thenQ (fun E _ w => dInt .i64 (E 10) fun n10 => J1 n10 w) (F33_q4 R))
def F33_2 (R : Rt) (J1 : (Int) -> World -> Prop) (p0 : Option Addr) (n1 : Int) (s2 : ByteArray) (l8 : SV) (n10 : Int) (ds : Ds) (w : World) : Prop :=
 Br (decide (n10 < (l8.len : Int))) (
 dwE w fun w2 =>
 ∃ a3 : Addr, l8.a = some a3 /\ 0 <= n10 /\ n10 < (l8.len : Int) /\
 ∃ n32 : Int, w2.cell? (a3.add (n10.toNat * 1)) = some (.int .i64 n32) /\
 ptrE p0 fun a4 =>
 0 <= n1 /\ n1 < (4 : Int) /\
 ∃ m38 : Option Nat, w2.cell? ((a4.add 1).add (n1.toNat * 1)) = some (.map m38) /\
 ∃ l40 : SV, (Instr.lookup 69 (.map m38) (.string s2) false).run prog w2 = .ok (.slice l40.a l40.len l40.cap) w2 /\
 Calls prog 82 #[.pointer p0, .string s2, .int .i64 n32, .slice l40.a l40.len l40.cap] w2 fun e w5 =>
 e = .returned (.tuple #[]) /\
 J1 (IntKind.i64.wrap (n10 + 1)) w5) (
 F33_1 R l8 ds w)
def F33_3 (R : Rt) (p0 : Option Addr) (n1 : Int) (s2 : ByteArray) (l8 : SV) (n10 : Int) (ds : Ds) (w : World) : Prop :=
 loopT (fun (J1 : (Int) -> World -> Prop) (s : Int) (w : World) => F33_2 R J1 p0 n1 s2 l8 s ds w) n10 w
abbrev F33_4 (R : Rt) (p0 : Option Addr) (n1 : Int) (s2 : ByteArray) (l8 : SV) (n10 : Int) (ds : Ds) (w : World) : Prop := F33_3 R p0 n1 s2 l8 n10 ds w
def F33_k6 (R : Rt) : EP := (fun E ds w => dPtr (E 0) fun p0 => dInt .i64 (E 1) fun n1 => dStr (E 2) fun s2 => dSl (E 8) fun l8 => dInt .i64 (E 10) fun n10 => F33_4 R p0 n1 s2 l8 n10 ds w)
def F33_5 (R : Rt) (p0 : Option Addr) (n1 : Int) (s2 : ByteArray) (ds : Ds) (w : World) : Prop :=
 Calls prog 38 #[.pointer p0, .int .i64 n1, .string s2] w fun e w6 =>
 ∃ l15_0 : SV, ∃ n15_1 : Int, e = .returned (.tuple #[.slice l15_0.a l15_0.len l15_0.cap, .int .i64 n15_1]) /\
 Br (n15_1 != 0) (
 runD prog ds w6 fun w7 =>
 R (.returned (.tuple #[.int .i64 0, .int .i64 n15_1])) w7) (
 F33_4 R p0 n1 s2 l15_0 0 ds w6)
theorem c33_l : flat (bodyOf f33) = [c33_0, c33_1, c33_2, c33_3, c33_4, c33_5, c33_6, c33_7] := by kernel_rfl
theorem c33_5_l : flat (innerC c33_5) = [c33_5_0] := by kernel_rfl
theorem c33_5_0_l : flat (innerC c33_5_0) = [c33_5_0_0, c33_5_0_1, c33_5_0_2, c33_5_0_3] := by kernel_rfl
theorem F33_1_ok (R : Rt) (l8 : SV) (ds : Ds) (w : World) (E : Env) (e8 : E 8 = .slice l8.a l8.len l8.cap) (h : F33_1 R l8 ds w) :
    TrL prog f33.ntmps [c33_6, c33_7] (F33_q1 R) E ds w :=
  TrL_leaf (X := F33_1 R l8 ds w) (setAll_cons e8 setAll_nil) (by kernel_rfl) (by kernel_rfl) h
theorem F33_2_ok (R : Rt) (J1 : (Int) -> World -> Prop) (p0 : Option Addr) (n1 : Int) (s2 : ByteArray) (l8 : SV) (n10 : Int) (ds : Ds) (w : World) (E : Env) (e0 : E 0 = .pointer p0) (e1 : E 1 = .int .i64 n1) (e2 : E 2 = .string s2) (e8 : E 8 = .slice l8.a l8.len l8.cap) (e10 : E 10 = .int .i64 n10) (h : F33_2 R J1 p0 n1 s2 l8 n10 ds w) :
    TrL prog f33.ntmps [c33_5_0_0, c33_5_0_1, c33_5_0_2, c33_5_0_3] (F33_q5 R J1) E ds w :=
  TrL_leaf (X := F33_2 R J1 p0 n1 s2 l8 n10 ds w) (setAll_cons e0 (setAll_cons e1 (setAll_cons e2 (setAll_cons e8 (setAll_cons e10 setAll_nil))))) (by kernel_rfl) (by kernel_rfl) h
theorem F33_3_ok (R : Rt) (p0 : Option Addr) (n1 : Int) (s2 : ByteArray) (l8 : SV) (n10 : Int) (ds : Ds) (w : World) (E : Env) (e0 : E 0 = .pointer p0) (e1 : E 1 = .int .i64 n1) (e2 : E 2 = .string s2) (e8 : E 8 = .slice l8.a l8.len l8.cap) (e10 : E 10 = .int .i64 n10) (h : F33_3 R p0 n1 s2 l8 n10 ds w) :
    TrL prog f33.ntmps [c33_5_0] (F33_q4 R) E ds w :=
  TrL_one (Tr_loop' (c := innerC c33_5_0) (σ := Int) (enc := (fun (s : Int) (E : Env) => E 10 = .int .i64 s)) (D := (fun E K => dInt .i64 (E 10) fun n10 => K n10)) (F := (fun (J1 : (Int) -> World -> Prop) (s : Int) (w : World) => F33_2 R J1 p0 n1 s2 l8 s ds w)) (s0 := n10) (by kernel_rfl) c33_5_0_l e10 (by kernel_rfl) (fun E K hD => by obtain ⟨n10, e10, hD⟩ := dInt_elim hD; exact ⟨n10, e10, hD⟩)
      (fun J1 s E' w' he ha hF => by
      have e10' := he
      exact F33_2_ok R J1 p0 n1 s2 l8 s ds w' E' ((ha 0 (by kernel_rfl)).trans e0) ((ha 1 (by kernel_rfl)).trans e1) ((ha 2 (by kernel_rfl)).trans e2) ((ha 8 (by kernel_rfl)).trans e8) e10' hF) h)
theorem F33_4_ok (R : Rt) (p0 : Option Addr) (n1 : Int) (s2 : ByteArray) (l8 : SV) (n10 : Int) (ds : Ds) (w : World) (E : Env) (e0 : E 0 = .pointer p0) (e1 : E 1 = .int .i64 n1) (e2 : E 2 = .string s2) (e8 : E 8 = .slice l8.a l8.len l8.cap) (e10 : E 10 = .int .i64 n10) (h : F33_4 R p0 n1 s2 l8 n10 ds w) :
    TrL prog f33.ntmps [c33_5, c33_6, c33_7] (F33_q1 R) E ds w :=
  TrL_head (K := (F33_k2 R)) (Tr_block' (c := innerC c33_5) (by kernel_rfl) c33_5_l (F33_3_ok R p0 n1 s2 l8 n10 ds w E e0 e1 e2 e8 e10 h))
    (fun E' ds' w' hD => by
      obtain ⟨l8, e8, hD⟩ := dSl_elim hD; exact F33_1_ok R l8 ds' w' E' e8 hD)
theorem F33_5_ok (R : Rt) (p0 : Option Addr) (n1 : Int) (s2 : ByteArray) (ds : Ds) (w : World) (E : Env) (e0 : E 0 = .pointer p0) (e1 : E 1 = .int .i64 n1) (e2 : E 2 = .string s2) (h : F33_5 R p0 n1 s2 ds w) :
    TrL prog f33.ntmps [c33_0, c33_1, c33_2, c33_3, c33_4, c33_5, c33_6, c33_7] (F33_q1 R) E ds w :=
  TrL_piece (pre := [c33_0, c33_1, c33_2, c33_3, c33_4]) (K := (F33_k6 R)) (X := F33_5 R p0 n1 s2 ds w) (setAll_cons e0 (setAll_cons e1 (setAll_cons e2 setAll_nil))) (by kernel_rfl) (by kernel_rfl)
    (fun E' ds' w' hD => by
      obtain ⟨p0, e0, hD⟩ := dPtr_elim hD; obtain ⟨n1, e1, hD⟩ := dInt_elim hD; obtain ⟨s2, e2, hD⟩ := dStr_elim hD; obtain ⟨l8, e8, hD⟩ := dSl_elim hD; obtain ⟨n10, e10, hD⟩ := dInt_elim hD; exact F33_4_ok R p0 n1 s2 l8 n10 ds' w' E' e0 e1 e2 e8 e10 hD) h
theorem F33_calls (p0 : Option Addr) (n1 : Int) (s2 : ByteArray) (w : World) (R : Rt) (h : F33_5 R p0 n1 s2 [] w) : Calls prog 33 #[.pointer p0, .int .i64 n1, .string s2] w R :=
  calls_of_L (l := [c33_0, c33_1, c33_2, c33_3, c33_4, c33_5, c33_6, c33_7]) func33 (by kernel_rfl) (by rw [ntmps33]; exact Nat.le_of_ble_eq_true (by kernel_rfl)) c33_l
    (F33_5_ok R p0 n1 s2 [] w _ rfl rfl rfl h)
noncomputable def c35_0 := cI1 f35 0
noncomputable def c35_1 := cI1 f35 1
noncomputable def c35_2 := cI1 f35 2
noncomputable def c35_3 := cI1 f35 3
noncomputable def c35_4 := cI1 f35 4
noncomputable def c35_5 := cI1 f35 5
noncomputable def c35_6 := cI1 f35 6
noncomputable def c35_7 := cI1 f35 7
noncomputable def c35_8 := cI1 f35 8
noncomputable def c35_9 := cI1 f35 9
noncomputable def c35_7_0 := cJ1 c35_7 0
noncomputable def c35_7_0_0 := cJ1 c35_7_0 0
noncomputable def c35_7_0_1 := cJ1 c35_7_0 1
noncomputable def c35_7_0_2 := cJ1 c35_7_0 2
noncomputable def c35_7_0_3 := cJ1 c35_7_0 3
noncomputable def c35_7_0_2_0 := cJ1 c35_7_0_2 0
noncomputable def c35_7_0_2_1 := cJ1 c35_7_0_2 1
noncomputable def c35_7_0_2_2 := cJ1 c35_7_0_2 2
noncomputable def c35_7_0_2_3 := cJ1 c35_7_0_2 3
noncomputable def c35_7_0_2_4 := cJ1 c35_7_0_2 4
noncomputable def c35_7_0_2_5 := cJ1 c35_7_0_2 5
noncomputable def c35_7_0_2_6 := cJ1 c35_7_0_2 6
noncomputable def c35_7_0_2_7 := cJ1 c35_7_0_2 7
noncomputable def c35_7_0_2_7_0 := cJ1 c35_7_0_2_7 0
noncomputable def c35_7_0_2_7_0_0 := cJ1 c35_7_0_2_7_0 0
noncomputable def c35_7_0_2_7_0_1 := cJ1 c35_7_0_2_7_0 1
noncomputable def c35_7_0_2_7_0_2 := cJ1 c35_7_0_2_7_0 2
noncomputable def c35_7_0_2_7_0_3 := cJ1 c35_7_0_2_7_0 3
noncomputable def c35_7_0_2_2_0 := cJ1 c35_7_0_2_2 0
noncomputable def c35_7_0_2_2_0_0 := cJ1 c35_7_0_2_2_0 0
noncomputable def c35_7_0_2_2_0_1 := cJ1 c35_7_0_2_2_0 1
noncomputable def c35_7_0_2_2_0_2 := cJ1 c35_7_0_2_2_0 2
noncomputable def c35_7_0_2_2_0_3 := cJ1 c35_7_0_2_2_0 3
def F35_q1 (R : Rt) : EQ := endQ prog f35.results.toList R
def F35_1 (R : Rt) (n10 : Int) (ds : Ds) (w : World) : Prop :=
 runD prog ds w fun w1 =>
 R (.returned (.tuple #[.int .i64 n10, .int .i64 0])) w1
def F35_k2 (R : Rt) : EP := (fun E ds w => dInt .i64 (E 10) fun n10 => F35_1 R n10 ds w)
def F35_q3 (R : Rt) : EQ := (thenQ (F35_k2 R) (F35_q1 R))
def F35_q4 (R : Rt) : EQ := (blockQ 0 (F35_q3 R))
def F35_q5 (R : Rt) (J1 : (Int × Int) -> World -> Prop) : EQ := (thenQ (fun E _ w => dInt .i64 (E 10) fun n10 => dInt .i64 (E 11) fun n11 => J1 (n10, n11) w) (F35_q4 R))
def F35_2 (R : Rt) (J1 : (Int × Int) -> World -> Prop) (l9 : SV) (n10 n11 : Int) (ds : Ds) (w : World) : Prop :=
 J1 (n10, (IntKind.i64.wrap (n11 + 1))) w
def F35_k6 (R : Rt) (J1 : (Int × Int) -> World -> Prop) : EP := (fun E ds w => dSl (E 9) fun l9 => dInt .i64 (E 10) fun n10 => dInt .i64 (E 11) fun n11 => F35_2 R J1 l9 n10 n11 ds w)
def F35_q7 (R : Rt) (J1 : (Int × Int) -> World -> Prop) : EQ := (thenQ (F35_k6 R J1) (F35_q5 R J1))
def F35_q8 (R : Rt) (J1 : (Int × Int) -> World -> Prop) : EQ := (blockQ 1 (F35_q7 R J1))
def F35_q9 (R : Rt) (J1 : (Int × Int) -> World -> Prop) : EQ := (blockQ 4 (F35_q8 R J1))
def F35_q10 (R : Rt) (J1 : (Int × Int) -> World -> Prop) (J2 : (Int) -> World -> Prop) : EQ := (thenQ (fun E _ w => dInt .i64 (E 14) fun n14 => J2 n14 w) (F35_q9 R J1))
def F35_3 (R : Rt) (J1 : (Int × Int) -> World -> Prop) (J2 : (Int) -> World -> Prop) (l9 : SV) (n10 n11 n14 : Int) (ds : Ds) (w : World) : Prop :=
 Br (decide (n14 < (IntKind.i64.wrap ((IntKind.i64.wrap (n11 + 1)) * 32)))) (
 Br (decide (n14 < (l9.len : Int))) (
 ∃ a2 : Addr, l9.a = some a2 /\ 0 <= n14 /\ n14 < (l9.len : Int) /\
 stA prog 116 (a2.add (n14.toNat * 3)) #[.bool false, .bool false, .int .u8 0] w fun w3 =>
 J2 (IntKind.i64.wrap (n14 + 1)) w3) (
 F35_2 R J1 l9 n10 n11 ds w)) (
 F35_2 R J1 l9 n10 n11 ds w)
def F35_4 (R : Rt) (J1 : (Int × Int) -> World -> Prop) (l9 : SV) (n10 n11 n14 : Int) (ds : Ds) (w : World) : Prop :=
 loopT (fun (J2 : (Int) -> World -> Prop) (s : Int) (w : World) => F35_3 R J1 J2 l9 n10 n11 s ds w) n14 w
abbrev F35_5 (R : Rt) (J1 : (Int × Int) -> World -> Prop) (l9 : SV) (n10 n11 n14 : Int) (ds : Ds) (w : World) : Prop := F35_4 R J1 l9 n10 n11 n14 ds w
def F35_k11 (R : Rt) (J1 : (Int × Int) -> World -> Prop) : EP := (fun E ds w => dSl (E 9) fun l9 => dInt .i64 (E 10) fun n10 => dInt .i64 (E 11) fun n11 => dInt .i64 (E 14) fun n14 => F35_5 R J1 l9 n10 n11 n14 ds w)
def F35_6 (R : Rt) (J1 : (Int × Int) -> World -> Prop) (l9 : SV) (n10 n11 : Int) (b12 : Bool) (ds : Ds) (w : World) : Prop :=
 Br b12 (
 F35_2 R J1 l9 n10 n11 ds w) (
 Calls prog 84 #[.slice l9.a l9.len l9.cap, .int .i64 n11] w fun e w4 =>
 ∃ b64 : Bool, e = .returned (.bool b64) /\
 Br (!b64) (
 F35_2 R J1 l9 n10 n11 ds w4) (
 F35_5 R J1 l9 (IntKind.i64.wrap (n10 + 1)) n11 (IntKind.i64.wrap (n11 * 32)) ds w4))
def F35_k12 (R : Rt) (J1 : (Int × Int) -> World -> Prop) : EP := (fun E ds w => dSl (E 9) fun l9 => dInt .i64 (E 10) fun n10 => dInt .i64 (E 11) fun n11 => dBl (E 12) fun b12 => F35_6 R J1 l9 n10 n11 b12 ds w)
def F35_q13 (R : Rt) (J1 : (Int × Int) -> World -> Prop) : EQ := (thenQ (F35_k12 R J1) (F35_q8 R J1))
def F35_q14 (R : Rt) (J1 : (Int × Int) -> World -> Prop) : EQ := (blockQ 2 (F35_q13 R J1))
def F35_q15 (R : Rt) (J1 : (Int × Int) -> World -> Prop) (J2 : (Bool × Int) -> World -> Prop) : EQ := (thenQ (fun E _ w => dBl (E 12) fun b12 => dInt .i64 (E 13) fun n13 => J2 (b12, n13) w) (F35_q14 R J1))
def F35_7 (R : Rt) (J1 : (Int × Int) -> World -> Prop) (J2 : (Bool × Int) -> World -> Prop) (l9 : SV) (n10 n11 : Int) (b12 : Bool) (n13 : Int) (ds : Ds) (w : World) : Prop :=
 Br (decide (n13 < (IntKind.i64.wrap ((IntKind.i64.wrap (n11 + 1)) * 32)))) (
 Br (decide (n13 < (l9.len : Int))) (
 Br b12 (
 J2 (true, (IntKind.i64.wrap (n13 + 1))) w) (
 ∃ a5 : Addr, l9.a = some a5 /\ 0 <= n13 /\ n13 < (l9.len : Int) /\
 ∃ b58 : Bool, w.cell? ((a5.add (n13.toNat * 3)).add 1) = some (.bool b58) /\
 J2 (b58, (IntKind.i64.wrap (n13 + 1))) w)) (
 F35_6 R J1 l9 n10 n11 b12 ds w)) (
 F35_6 R J1 l9 n10 n11 b12 ds w)
def F35_8 (R : Rt) (J1 : (Int × Int) -> World -> Prop) (l9 : SV) (n10 n11 : Int) (b12 : Bool) (n13 : Int) (ds : Ds) (w : World) : Prop :=
 loopT (fun (J2 : (Bool × Int) -> World -> Prop) (s : Bool × Int) (w : World) => F35_7 R J1 J2 l9 n10 n11 s.1 s.2 ds w) (b12, n13) w
abbrev F35_9 (R : Rt) (J1 : (Int × Int) -> World -> Prop) (l9 : SV) (n10 n11 : Int) (b12 : Bool) (n13 : Int) (ds : Ds) (w : World) : Prop := F35_8 R J1 l9 n10 n11 b12 n13 ds w
def F35_k16 (R : Rt) (J1 : (Int × Int) -> World -> Prop) : EP := (fun E ds w => dSl (E 9) fun l9 => dInt .i64 (E 10) fun n10 => dInt .i64 (E 11) fun n11 => dBl (E 12) fun b12 => dInt .i64 (E 13) fun n13 => F35_9 R J1 l9 n10 n11 b12 n13 ds w)
def F35_10 (R : Rt) (J1 : (Int × Int) -> World -> Prop) (l9 : SV) (n10 n11 : Int) (ds : Ds) (w : World) : Prop :=
 F35_9 R J1 l9 n10 n11 false (IntKind.i64.wrap (n11 * 32)) ds w
abbrev F35_11 (R : Rt) (J1 : (Int × Int) -> World -> Prop) (l9 : SV) (n10 n11 : Int) (ds : Ds) (w : World) : Prop := F35_10 R J1 l9 n10 n11 ds w
def F35_k17 (R : Rt) (J1 : (Int × Int) -> World -> Prop) : EP := (fun E ds w => dSl (E 9) fun l9 => dInt .i64 (E 10) fun n10 => dInt .i64 (E 11) fun n11 => F35_11 R J1 l9 n10 n11 ds w)
def F35_12 (R : Rt) (J1 : (Int × Int) -> World -> Prop) (l9 : SV) (n10 n11 : Int) (ds : Ds) (w : World) : Prop :=
 Br (decide ((IntKind.i64.wrap (n11 * 32)) < (l9.len : Int))) (
 F35_11 R J1 l9 n10 n11 ds w) (
 F35_1 R n10 ds w)
def F35_13 (R : Rt) (l9 : SV) (n10 n11 : Int) (ds : Ds) (w : World) : Prop :=
 loopT (fun (J1 : (Int × Int) -> World -> Prop) (s : Int × Int) (w : World) => F35_12 R J1 l9 s.1 s.2 ds w) (n10, n11) w
abbrev F35_14 (R : Rt) (l9 : SV) (n10 n11 : Int) (ds : Ds) (w : World) : Prop := F35_13 R l9 n10 n11 ds w
def F35_k18 (R : Rt) : EP := (fun E ds w => dSl (E 9) fun l9 => dInt .i64 (E 10) fun n10 => dInt .i64 (E 11) fun n11 => F35_14 R l9 n10 n11 ds w)
def F35_15 (R : Rt) (p0 : Option Addr) (n1 : Int) (s2 : ByteArray) (ds : Ds) (w : World) : Prop :=
 Calls prog 75 #[.pointer p0, .int .i64 n1, .string s2] w fun e w6 =>
 ∃ n18 : Int, e = .returned (.int .i64 n18) /\
 Br (n18 != 0) (
 runD prog ds w6 fun w7 =>
 R (.returned (.tuple #[.int .i64 0, .int .i64 n18])) w7) (
 ptrE p0 fun a8 =>
 0 <= n1 /\ n1 < (4 : Int) /\
 ∃ m27 : Option Nat, w6.cell? ((a8.add 1).add (n1.toNat * 1)) = some (.map m27) /\
 ∃ l29 : SV, ∃ w9 : World, (Instr.lookup 69 (.map m27) (.string s2) false).run prog w6 = .ok (.slice l29.a l29.len l29.cap) w9 /\
 F35_14 R l29 0 0 ds w9)
theorem c35_l : flat (bodyOf f35) = [c35_0, c35_1, c35_2, c35_3, c35_4, c35_5, c35_6, c35_7, c35_8, c35_9] := by kernel_rfl
theorem c35_7_l : flat (innerC c35_7) = [c35_7_0] := by kernel_rfl
theorem c35_7_0_l : flat (innerC c35_7_0) = [c35_7_0_0, c35_7_0_1, c35_7_0_2, c35_7_0_3] := by kernel_rfl
theorem c35_7_0_2_l : flat (innerC c35_7_0_2) = [c35_7_0_2_0, c35_7_0_2_1, c35_7_0_2_2, c35_7_0_2_3, c35_7_0_2_4, c35_7_0_2_5, c35_7_0_2_6, c35_7_0_2_7] := by kernel_rfl
theorem c35_7_0_2_7_l : flat (innerC c35_7_0_2_7) = [c35_7_0_2_7_0] := by kernel_rfl
theorem c35_7_0_2_7_0_l : flat (innerC c35_7_0_2_7_0) = [c35_7_0_2_7_0_0, c35_7_0_2_7_0_1, c35_7_0_2_7_0_2, c35_7_0_2_7_0_3] := by kernel_rfl
theorem c35_7_0_2_2_l : flat (innerC c35_7_0_2_2) = [c35_7_0_2_2_0] := by kernel_rfl
theorem c35_7_0_2_2_0_l : flat (innerC c35_7_0_2_2_0) = [c35_7_0_2_2_0_0, c35_7_0_2_2_0_1, c35_7_0_2_2_0_2, c35_7_0_2_2_0_3] := by kernel_rfl
theorem F35_1_ok (R : Rt) (n10 : Int) (ds : Ds) (w : World) (E : Env) (e10 : E 10 = .int .i64 n10) (h : F35_1 R n10 ds w) :
    TrL prog f35.ntmps [c35_8, c35_9] (F35_q1 R) E ds w :=
  TrL_leaf (X := F35_1 R n10 ds w) (setAll_cons e10 setAll_nil) (by kernel_rfl) (by kernel_rfl) h
theorem F35_2_ok (R : Rt) (J1 : (Int × Int) -> World -> Prop) (l9 : SV) (n10 n11 : Int) (ds : Ds) (w : World) (E : Env) (e9 : E 9 = .slice l9.a l9.len l9.cap) (e10 : E 10 = .int .i64 n10) (e11 : E 11 = .int .i64 n11) (h : F35_2 R J1 l9 n10 n11 ds w) :
    TrL prog f35.ntmps [c35_7_0_3] (F35_q5 R J1) E ds w :=
  TrL_leaf (X := F35_2 R J1 l9 n10 n11 ds w) (setAll_cons e9 (setAll_cons e10 (setAll_cons e11 setAll_nil))) (by kernel_rfl) (by kernel_rfl) h
theorem F35_3_ok (R : Rt) (J1 : (Int × Int) -> World -> Prop) (J2 : (Int) -> World -> Prop) (l9 : SV) (n10 n11 n14 : Int) (ds : Ds) (w : World) (E : Env) (e9 : E 9 = .slice l9.a l9.len l9.cap) (e10 : E 10 = .int .i64 n10) (e11 : E 11 = .int .i64 n11) (e14 : E 14 = .int .i64 n14) (h : F35_3 R J1 J2 l9 n10 n11 n14 ds w) :
    TrL prog f35.ntmps [c35_7_0_2_7_0_0, c35_7_0_2_7_0_1, c35_7_0_2_7_0_2, c35_7_0_2_7_0_3] (F35_q10 R J1 J2) E ds w :=
  TrL_leaf (X := F35_3 R J1 J2 l9 n10 n11 n14 ds w) (setAll_cons e9 (setAll_cons e10 (setAll_cons e11 (setAll_cons e14 setAll_nil)))) (by kernel_rfl) (by kernel_rfl) h
theorem F35_4_ok (R : Rt) (J1 : (Int × Int) -> World -> Prop) (l9 : SV) (n10 n11 n14 : Int) (ds : Ds) (w : World) (E : Env) (e9 : E 9 = .slice l9.a l9.len l9.cap) (e10 : E 10 = .int .i64 n10) (e11 : E 11 = .int .i64 n11) (e14 : E 14 = .int .i64 n14) (h : F35_4 R J1 l9 n10 n11 n14 ds w) :
    TrL prog f35.ntmps [c35_7_0_2_7_0] (F35_q9 R J1) E ds w :=
  TrL_one (Tr_loop' (c := innerC c35_7_0_2_7_0) (σ := Int) (enc := (fun (s : Int) (E : Env) => E 14 = .int .i64 s)) (D := (fun E K => dInt .i64 (E 14) fun n14 => K n14)) (F := (fun (J2 : (Int) -> World -> Prop) (s : Int) (w : World) => F35_3 R J1 J2 l9 n10 n11 s ds w)) (s0 := n14) (by kernel_rfl) c35_7_0_2_7_0_l e14 (by kernel_rfl) (fun E K hD => by obtain ⟨n14, e14, hD⟩ := dInt_elim hD; exact ⟨n14, e14, hD⟩)
      (fun J2 s E' w' he ha hF => by
      have e14' := he
      exact F35_3_ok R J1 J2 l9 n10 n11 s ds w' E' ((ha 9 (by kernel_rfl)).trans e9) ((ha 10 (by kernel_rfl)).trans e10) ((ha 11 (by kernel_rfl)).trans e11) e14' hF) h)
theorem F35_5_ok (R : Rt) (J1 : (Int × Int) -> World -> Prop) (l9 : SV) (n10 n11 n14 : Int) (ds : Ds) (w : World) (E : Env) (e9 : E 9 = .slice l9.a l9.len l9.cap) (e10 : E 10 = .int .i64 n10) (e11 : E 11 = .int .i64 n11) (e14 : E 14 = .int .i64 n14) (h : F35_5 R J1 l9 n10 n11 n14 ds w) :
    TrL prog f35.ntmps [c35_7_0_2_7] (F35_q8 R J1) E ds w :=
  TrL_one (Tr_block' (c := innerC c35_7_0_2_7) (by kernel_rfl) c35_7_0_2_7_l (F35_4_ok R J1 l9 n10 n11 n14 ds w E e9 e10 e11 e14 h))
theorem F35_6_ok (R : Rt) (J1 : (Int × Int) -> World -> Prop) (l9 : SV) (n10 n11 : Int) (b12 : Bool) (ds : Ds) (w : World) (E : Env) (e9 : E 9 = .slice l9.a l9.len l9.cap) (e10 : E 10 = .int .i64 n10) (e11 : E 11 = .int .i64 n11) (e12 : E 12 = .bool b12) (h : F35_6 R J1 l9 n10 n11 b12 ds w) :
    TrL prog f35.ntmps [c35_7_0_2_3, c35_7_0_2_4, c35_7_0_2_5, c35_7_0_2_6, c35_7_0_2_7] (F35_q8 R J1) E ds w :=
  TrL_piece (pre := [c35_7_0_2_3, c35_7_0_2_4, c35_7_0_2_5, c35_7_0_2_6]) (K := (F35_k11 R J1)) (X := F35_6 R J1 l9 n10 n11 b12 ds w) (setAll_cons e9 (setAll_cons e10 (setAll_cons e11 (setAll_cons e12 setAll_nil)))) (by kernel_rfl) (by kernel_rfl)
    (fun E' ds' w' hD => by
      obtain ⟨l9, e9, hD⟩ := dSl_elim hD; obtain ⟨n10, e10, hD⟩ := dInt_elim hD; obtain ⟨n11, e11, hD⟩ := dInt_elim hD; obtain ⟨n14, e14, hD⟩ := dInt_elim hD; exact F35_5_ok R J1 l9 n10 n11 n14 ds' w' E' e9 e10 e11 e14 hD) h
theorem F35_7_ok (R : Rt) (J1 : (Int × Int) -> World -> Prop) (J2 : (Bool × Int) -> World -> Prop) (l9 : SV) (n10 n11 : Int) (b12 : Bool) (n13 : Int) (ds : Ds) (w : World) (E : Env) (e9 : E 9 = .slice l9.a l9.len l9.cap) (e10 : E 10 = .int .i64 n10) (e11 : E 11 = .int .i64 n11) (e12 : E 12 = .bool b12) (e13 : E 13 = .int .i64 n13) (h : F35_7 R J1 J2 l9 n10 n11 b12 n13 ds w) :
    TrL prog f35.ntmps [c35_7_0_2_2_0_0, c35_7_0_2_2_0_1, c35_7_0_2_2_0_2, c35_7_0_2_2_0_3] (F35_q15 R J1 J2) E ds w :=
  TrL_leaf (X := F35_7 R J1 J2 l9 n10 n11 b12 n13 ds w) (setAll_cons e9 (setAll_cons e10 (setAll_cons e11 (setAll_cons e12 (setAll_cons e13 setAll_nil))))) (by kernel_rfl) (by kernel_rfl) h
theorem F35_8_ok (R : Rt) (J1 : (Int × Int) -> World -> Prop) (l9 : SV) (n10 n11 : Int) (b12 : Bool) (n13 : Int) (ds : Ds) (w : World) (E : Env) (e9 : E 9 = .slice l9.a l9.len l9.cap) (e10 : E 10 = .int .i64 n10) (e11 : E 11 = .int .i64 n11) (e12 : E 12 = .bool b12) (e13 : E 13 = .int .i64 n13) (h : F35_8 R J1 l9 n10 n11 b12 n13 ds w) :
    TrL prog f35.ntmps [c35_7_0_2_2_0] (F35_q14 R J1) E ds w :=
  TrL_one (Tr_loop' (c := innerC c35_7_0_2_2_0) (σ := Bool × Int) (enc := (fun (s : Bool × Int) (E : Env) => E 12 = .bool s.1 /\ E 13 = .int .i64 s.2)) (D := (fun E K => dBl (E 12) fun b12 => dInt .i64 (E 13) fun n13 => K (b12, n13))) (F := (fun (J2 : (Bool × Int) -> World -> Prop) (s : Bool × Int) (w : World) => F35_7 R J1 J2 l9 n10 n11 s.1 s.2 ds w)) (s0 := (b12, n13)) (by kernel_rfl) c35_7_0_2_2_0_l ⟨e12, e13⟩ (by kernel_rfl) (fun E K hD => by obtain ⟨b12, e12, hD⟩ := dBl_elim hD; obtain ⟨n13, e13, hD⟩ := dInt_elim hD; exact ⟨(b12, n13), ⟨e12, e13⟩, hD⟩)
      (fun J2 s E' w' he ha hF => by
      obtain ⟨e12', e13'⟩ := he
      exact F35_7_ok R J1 J2 l9 n10 n11 s.1 s.2 ds w' E' ((ha 9 (by kernel_rfl)).trans e9) ((ha 10 (by kernel_rfl)).trans e10) ((ha 11 (by kernel_rfl)).trans e11) e12' e13' hF) h)
theorem F35_9_ok (R : Rt) (J1 : (Int × Int) -> World -> Prop) (l9 : SV) (n10 n11 : Int) (b12 : Bool) (n13 : Int) (ds : Ds) (w : World) (E : Env) (e9 : E 9 = .slice l9.a l9.len l9.cap) (e10 : E 10 = .int .i64 n10) (e11 : E 11 = .int .i64 n11) (e12 : E 12 = .bool b12) (e13 : E 13 = .int .i64 n13) (h : F35_9 R J1 l9 n10 n11 b12 n13 ds w) :
    TrL prog f35.ntmps [c35_7_0_2_2, c35_7_0_2_3, c35_7_0_2_4, c35_7_0_2_5, c35_7_0_2_6, c35_7_0_2_7] (F35_q8 R J1) E ds w :=
  TrL_head (K := (F35_k12 R J1)) (Tr_block' (c := innerC c35_7_0_2_2) (by kernel_rfl) c35_7_0_2_2_l (F35_8_ok R J1 l9 n10 n11 b12 n13 ds w E e9 e10 e11 e12 e13 h))
    (fun E' ds' w' hD => by
      obtain ⟨l9, e9, hD⟩ := dSl_elim hD; obtain ⟨n10, e10, hD⟩ := dInt_elim hD; obtain ⟨n11, e11, hD⟩ := dInt_elim hD; obtain ⟨b12, e12, hD⟩ := dBl_elim hD; exact F35_6_ok R J1 l9 n10 n11 b12 ds' w' E' e9 e10 e11 e12 hD)
theorem F35_10_ok (R : Rt) (J1 : (Int × Int) -> World -> Prop) (l9 : SV) (n10 n11 : Int) (ds : Ds) (w : World) (E : Env) (e9 : E 9 = .slice l9.a l9.len l9.cap) (e10 : E 10 = .int .i64 n10) (e11 : E 11 = .int .i64 n11) (h : F35_10 R J1 l9 n10 n11 ds w) :
    TrL prog f35.ntmps [c35_7_0_2_0, c35_7_0_2_1, c35_7_0_2_2, c35_7_0_2_3, c35_7_0_2_4, c35_7_0_2_5, c35_7_0_2_6, c35_7_0_2_7] (F35_q8 R J1) E ds w :=
  TrL_piece (pre := [c35_7_0_2_0, c35_7_0_2_1]) (K := (F35_k16 R J1)) (X := F35_10 R J1 l9 n10 n11 ds w) (setAll_cons e9 (setAll_cons e10 (setAll_cons e11 setAll_nil))) (by kernel_rfl) (by kernel_rfl)
    (fun E' ds' w' hD => by
      obtain ⟨l9, e9, hD⟩ := dSl_elim hD; obtain ⟨n10, e10, hD⟩ := dInt_elim hD; obtain ⟨n11, e11, hD⟩ := dInt_elim hD; obtain ⟨b12, e12, hD⟩ := dBl_elim hD; obtain ⟨n13, e13, hD⟩ := dInt_elim hD; exact F35_9_ok R J1 l9 n10 n11 b12 n13 ds' w' E' e9 e10 e11 e12 e13 hD) h
theorem F35_11_ok (R : Rt) (J1 : (Int × Int) -> World -> Prop) (l9 : SV) (n10 n11 : Int) (ds : Ds) (w : World) (E : Env) (e9 : E 9 = .slice l9.a l9.len l9.cap) (e10 : E 10 = .int .i64 n10) (e11 : E 11 = .int .i64 n11) (h : F35_11 R J1 l9 n10 n11 ds w) :
    TrL prog f35.ntmps [c35_7_0_2, c35_7_0_3] (F35_q5 R J1) E ds w :=
  TrL_head (K := (F35_k6 R J1)) (Tr_block' (c := innerC c35_7_0_2) (by kernel_rfl) c35_7_0_2_l (F35_10_ok R J1 l9 n10 n11 ds w E e9 e10 e11 h))
    (fun E' ds' w' hD => by
      obtain ⟨l9, e9, hD⟩ := dSl_elim hD; obtain ⟨n10, e10, hD⟩ := dInt_elim hD; obtain ⟨n11, e11, hD⟩ := dInt_elim hD; exact F35_2_ok R J1 l9 n10 n11 ds' w' E' e9 e10 e11 hD)
theorem F35_12_ok (R : Rt) (J1 : (Int × Int) -> World -> Prop) (l9 : SV) (n10 n11 : Int) (ds : Ds) (w : World) (E : Env) (e9 : E 9 = .slice l9.a l9.len l9.cap) (e10 : E 10 = .int .i64 n10) (e11 : E 11 = .int .i64 n11) (h : F35_12 R J1 l9 n10 n11 ds w) :
    TrL prog f35.ntmps [c35_7_0_0, c35_7_0_1, c35_7_0_2, c35_7_0_3] (F35_q5 R J1) E ds w :=
  TrL_piece (pre := [c35_7_0_0, c35_7_0_1]) (K := (F35_k17 R J1)) (X := F35_12 R J1 l9 n10 n11 ds w) (setAll_cons e9 (setAll_cons e10 (setAll_cons e11 setAll_nil))) (by kernel_rfl) (by kernel_rfl)
    (fun E' ds' w' hD => by
      obtain ⟨l9, e9, hD⟩ := dSl_elim hD; obtain ⟨n10, e10, hD⟩ := dInt_elim hD; obtain ⟨n11, e11, hD⟩ := dInt_elim hD; exact F35_11_ok R J1 l9 n10 n11 ds' w' E' e9 e10 e11 hD) h
theorem F35_13_ok (R : Rt) (l9 : SV) (n10 n11 : Int) (ds : Ds) (w : World) (E : Env) (e9 : E 9 = .slice l9.a l9.len l9.cap) (e10 : E 10 = .int .i64 n10) (e11 : E 11 = .int .i64 n11) (h : F35_13 R l9 n10 n11 ds w) :
    TrL prog f35.ntmps [c35_7_0] (F35_q4 R) E ds w :=
  TrL_one (Tr_loop' (c := innerC c35_7_0) (σ := Int × Int) (enc := (fun (s : Int × Int) (E : Env) => E 10 = .int .i64 s.1 /\ E 11 = .int .i64 s.2)) (D := (fun E K => dInt .i64 (E 10) fun n10 => dInt .i64 (E 11) fun n11 => K (n10, n11))) (F := (fun (J1 : (Int × Int) -> World -> Prop) (s : Int × Int) (w : World) => F35_12 R J1 l9 s.1 s.2 ds w)) (s0 := (n10, n11)) (by kernel_rfl) c35_7_0_l ⟨e10, e11⟩ (by kernel_rfl) (fun E K hD => by obtain ⟨n10, e10, hD⟩ := dInt_elim hD; obtain ⟨n11, e11, hD⟩ := dInt_elim hD; exact ⟨(n10, n11), ⟨e10, e11⟩, hD⟩)
      (fun J1 s E' w' he ha hF => by
      obtain ⟨e10', e11'⟩ := he
      exact F35_12_ok R J1 l9 s.1 s.2 ds w' E' ((ha 9 (by kernel_rfl)).trans e9) e10' e11' hF) h)
theorem F35_14_ok (R : Rt) (l9 : SV) (n10 n11 : Int) (ds : Ds) (w : World) (E : Env) (e9 : E 9 = .slice l9.a l9.len l9.cap) (e10 : E 10 = .int .i64 n10) (e11 : E 11 = .int .i64 n11) (h : F35_14 R l9 n10 n11 ds w) :
    TrL prog f35.ntmps [c35_7, c35_8, c35_9] (F35_q1 R) E ds w :=
  TrL_head (K := (F35_k2 R)) (Tr_block' (c := innerC c35_7) (by kernel_rfl) c35_7_l (F35_13_ok R l9 n10 n11 ds w E e9 e10 e11 h))
    (fun E' ds' w' hD => by
      obtain ⟨n10, e10, hD⟩ := dInt_elim hD; exact F35_1_ok R n10 ds' w' E' e10 hD)
theorem F35_15_ok (R : Rt) (p0 : Option Addr) (n1 : Int) (s2 : ByteArray) (ds : Ds) (w : World) (E : Env) (e0 : E 0 = .pointer p0) (e1 : E 1 = .int .i64 n1) (e2 : E 2 = .string s2) (h : F35_15 R p0 n1 s2 ds w) :
    TrL prog f35.ntmps [c35_0, c35_1, c35_2, c35_3, c35_4, c35_5, c35_6, c35_7, c35_8, c35_9] (F35_q1 R) E ds w :=
  TrL_piece (pre := [c35_0, c35_1, c35_2, c35_3, c35_4, c35_5, c35_6]) (K := (F35_k18 R)) (X := F35_15 R p0 n1 s2 ds w) (setAll_cons e0 (setAll_cons e1 (setAll_cons e2 setAll_nil))) (by kernel_rfl) (by kernel_rfl)
    (fun E' ds' w' hD => by
      obtain ⟨l9, e9, hD⟩ := dSl_elim hD; obtain ⟨n10, e10, hD⟩ := dInt_elim hD; obtain ⟨n11, e11, hD⟩ := dInt_elim hD; exact F35_14_ok R l9 n10 n11 ds' w' E' e9 e10 e11 hD) h
theorem F35_calls (p0 : Option Addr) (n1 : Int) (s2 : ByteArray) (w : World) (R : Rt) (h : F35_15 R p0 n1 s2 [] w) : Calls prog 35 #[.pointer p0, .int .i64 n1, .string s2] w R :=
  calls_of_L (l := [c35_0, c35_1, c35_2, c35_3, c35_4, c35_5, c35_6, c35_7, c35_8, c35_9]) func35 (by kernel_rfl) (by rw [ntmps35]; exact Nat.le_of_ble_eq_true (by kernel_rfl)) c35_l
    (F35_15_ok R p0 n1 s2 [] w _ rfl rfl rfl h)
noncomputable def c36_0 := cI1 f36 0
noncomputable def c36_1 := cI1 f36 1
noncomputable def c36_2 := cI1 f36 2
noncomputable def c36_3 := cI1 f36 3
noncomputable def c36_4 := cI1 f36 4
noncomputable def c36_5 := cI1 f36 5
noncomputable def c36_6 := cI1 f36 6
noncomputable def c36_7 := cI1 f36 7
noncomputable def c36_8 := cI1 f36 8
noncomputable def c36_9 := cI1 f36 9
noncomputable def c36_10 := cI1 f36 10
noncomputable def c36_11 := cI1 f36 11
noncomputable def c36_12 := cI1 f36 12
noncomputable def c36_9_0 := cJ1 c36_9 0
noncomputable def c36_9_0_0 := cJ1 c36_9_0 0
noncomputable def c36_9_0_1 := cJ1 c36_9_0 1
noncomputable def c36_9_0_2 := cJ1 c36_9_0 2
noncomputable def c36_9_0_3 := cJ1 c36_9_0 3
noncomputable def c36_5_0 := cJ1 c36_5 0
noncomputable def c36_5_0_0 := cJ1 c36_5_0 0
noncomputable def c36_5_0_1 := cJ1 c36_5_0 1
noncomputable def c36_5_0_2 := cJ1 c36_5_0 2
noncomputable def c36_5_0_3 := cJ1 c36_5_0 3
noncomputable def c36_5_0_2_0 := cJ1 c36_5_0_2 0
noncomputable def c36_5_0_2_1 := cJ1 c36_5_0_2 1
noncomputable def c36_5_0_2_2 := cJ1 c36_5_0_2 2
noncomputable def c36_5_0_2_2_0 := cJ1 c36_5_0_2_2 0
noncomputable def c36_5_0_2_2_0_0 := cJ1 c36_5_0_2_2_0 0
noncomputable def c36_5_0_2_2_0_1 := cJ1 c36_5_0_2_2_0 1
noncomputable def c36_5_0_2_2_0_2 := cJ1 c36_5_0_2_2_0 2
noncomputable def c36_5_0_2_2_0_3 := cJ1 c36_5_0_2_2_0 3
def F36_q1 (R : Rt) : EQ := endQ prog f36.results.toList R
def F36_1 (R : Rt) (p0 : Option Addr) (n6 : Int) (l10 : SV) (ds : Ds) (w : World) : Prop :=
 ptrE p0 fun a1 =>
 st1 (a1.add 5) (.slice l10.a l10.len l10.cap) w fun w2 =>
 runD prog ds w2 fun w3 =>
 R (.returned (.tuple #[.int .i64 n6, .int .i64 0])) w3
def F36_k2 (R : Rt) : EP := (fun E ds w => dPtr (E 0) fun p0 => dInt .i64 (E 6) fun n6 => dSl (E 10) fun l10 => F36_1 R p0 n6 l10 ds w)
def F36_q3 (R : Rt) : EQ := (thenQ (F36_k2 R) (F36_q1 R))
def F36_q4 (R : Rt) : EQ := (blockQ 4 (F36_q3 R))
def F36_q5 (R : Rt) (J1 : (SV × Int) -> World -> Prop) : EQ := (thenQ (fun E _ w => dSl (E 10) fun l10 => dInt .i64 (E 11) fun n11 => J1 (l10, n11) w) (F36_q4 R))
def F36_2 (R : Rt) (J1 : (SV × Int) -> World -> Prop) (p0 : Option Addr) (n1 n6 : Int) (l10 : SV) (n11 : Int) (ds : Ds) (w : World) : Prop :=
 ptrE p0 fun a4 =>
 ∃ l65 : SV, w.cell? (a4.add 5) = some (.slice l65.a l65.len l65.cap) /\
 Br (decide (n11 < (l65.len : Int))) (
 ptrE p0 fun a5 =>
 ∃ l73 : SV, w.cell? (a5.add 5) = some (.slice l73.a l73.len l73.cap) /\
 ∃ a6 : Addr, l73.a = some a6 /\ 0 <= n11 /\ n11 < (l73.len : Int) /\
 ∃ n77 : Int, w.cell? (a6.add (n11.toNat * 4)) = some (.int .i64 n77) /\
 Br (n77 != n1) (
 ptrE p0 fun a7 =>
 ∃ l84 : SV, w.cell? (a7.add 5) = some (.slice l84.a l84.len l84.cap) /\
 ∃ a8 : Addr, l84.a = some a8 /\ 0 <= n11 /\ n11 < (l84.len : Int) /\
 ∃ n87_0 : Int, w.cell? ((a8.add (n11.toNat * 4)).add 0) = some (.int .i64 n87_0) /\
 ∃ s87_1 : ByteArray, w.cell? ((a8.add (n11.toNat * 4)).add 1) = some (.string s87_1) /\
 ∃ n87_2 : Int, w.cell? ((a8.add (n11.toNat * 4)).add 2) = some (.int .i64 n87_2) /\
 ∃ n87_3 : Int, w.cell? ((a8.add (n11.toNat * 4)).add 3) = some (.int .i64 n87_3) /\
 alE (.cells #[.int .i64 n87_0, .string s87_1, .int .i64 n87_2, .int .i64 n87_3] 127) w fun r88 w9 =>
 ∃ l89 : SV, ∃ w10 : World, (Builtin.append_ #[71, 71] 71 #[.slice l10.a l10.len l10.cap, .slice (some ⟨r88, 0, none⟩) 1 1]).run prog w9 = .ok (.slice l89.a l89.len l89.cap) w10 /\
 J1 (l89, (IntKind.i64.wrap (n11 + 1))) w10) (
 J1 (l10, (IntKind.i64.wrap (n11 + 1))) w)) (
 F36_1 R p0 n6 l10 ds w)
def F36_3 (R : Rt) (p0 : Option Addr) (n1 n6 : Int) (l10 : SV) (n11 : Int) (ds : Ds) (w : World) : Prop :=
 loopT (fun (J1 : (SV × Int) -> World -> Prop) (s : SV × Int) (w : World) => F36_2 R J1 p0 n1 n6 s.1 s.2 ds w) (l10, n11) w
abbrev F36_4 (R : Rt) (p0 : Option Addr) (n1 n6 : Int) (l10 : SV) (n11 : Int) (ds : Ds) (w : World) : Prop := F36_3 R p0 n1 n6 l10 n11 ds w
def F36_k6 (R : Rt) : EP := (fun E ds w => dPtr (E 0) fun p0 => dInt .i64 (E 1) fun n1 => dInt .i64 (E 6) fun n6 => dSl (E 10) fun l10 => dInt .i64 (E 11) fun n11 => F36_4 R p0 n1 n6 l10 n11 ds w)
def F36_5 (R : Rt) (p0 : Option Addr) (n1 n6 : Int) (ds : Ds) (w : World) : Prop :=
 alE (.map #[] 0) w fun r57 w11 =>
 ptrE p0 fun a12 =>
 0 <= n1 /\ n1 < (4 : Int) /\
 st1 ((a12.add 1).add (n1.toNat * 1)) (.map (some r57)) w11 fun w13 =>
 F36_4 R p0 n1 n6 ⟨none, 0, 0⟩ 0 ds w13
def F36_k7 (R : Rt) : EP := (fun E ds w => dPtr (E 0) fun p0 => dInt .i64 (E 1) fun n1 => dInt .i64 (E 6) fun n6 => F36_5 R p0 n1 n6 ds w)
def F36_q8 (R : Rt) : EQ := (thenQ (F36_k7 R) (F36_q1 R))
def F36_q9 (R : Rt) : EQ := (blockQ 0 (F36_q8 R))
def F36_q10 (R : Rt) (J1 : (Int × Int) -> World -> Prop) : EQ := (thenQ (fun E _ w => dInt .i64 (E 6) fun n6 => dInt .i64 (E 7) fun n7 => J1 (n6, n7) w) (F36_q9 R))
def F36_6 (R : Rt) (J1 : (Int × Int) -> World -> Prop) (p0 : Option Addr) (n1 n6 n7 : Int) (ds : Ds) (w : World) : Prop :=
 J1 (n6, (IntKind.i64.wrap (n7 + 1))) w
def F36_k11 (R : Rt) (J1 : (Int × Int) -> World -> Prop) : EP := (fun E ds w => dPtr (E 0) fun p0 => dInt .i64 (E 1) fun n1 => dInt .i64 (E 6) fun n6 => dInt .i64 (E 7) fun n7 => F36_6 R J1 p0 n1 n6 n7 ds w)
def F36_q12 (R : Rt) (J1 : (Int × Int) -> World -> Prop) : EQ := (thenQ (F36_k11 R J1) (F36_q10 R J1))
def F36_q13 (R : Rt) (J1 : (Int × Int) -> World -> Prop) : EQ := (blockQ 1 (F36_q12 R J1))
def F36_q14 (R : Rt) (J1 : (Int × Int) -> World -> Prop) : EQ := (blockQ 2 (F36_q13 R J1))
def F36_q15 (R : Rt) (J1 : (Int × Int) -> World -> Prop) (J2 : (Int × Int) -> World -> Prop) : EQ := (thenQ (fun E _ w => dInt .i64 (E 6) fun n6 => dInt .i64 (E 9) fun n9 => J2 (n6, n9) w) (F36_q14 R J1))
def F36_7 (R : Rt) (J1 : (Int × Int) -> World -> Prop) (J2 : (Int × Int) -> World -> Prop) (p0 : Option Addr) (n1 n6 n7 : Int) (l8 : SV) (n9 : Int) (ds : Ds) (w : World) : Prop :=
 Br (decide (n9 < (l8.len : Int))) (
 ∃ a14 : Addr, l8.a = some a14 /\ 0 <= n9 /\ n9 < (l8.len : Int) /\
 ∃ b52 : Bool, w.cell? ((a14.add (n9.toNat * 3)).add 1) = some (.bool b52) /\
 Br b52 (
 J2 ((IntKind.i64.wrap (n6 + 1)), (IntKind.i64.wrap (n9 + 1))) w) (
 J2 (n6, (IntKind.i64.wrap (n9 + 1))) w)) (
 F36_6 R J1 p0 n1 n6 n7 ds w)
def F36_8 (R : Rt) (J1 : (Int × Int) -> World -> Prop) (p0 : Option Addr) (n1 n6 n7 : Int) (l8 : SV) (n9 : Int) (ds : Ds) (w : World) : Prop :=
 loopT (fun (J2 : (Int × Int) -> World -> Prop) (s : Int × Int) (w : World) => F36_7 R J1 J2 p0 n1 s.1 n7 l8 s.2 ds w) (n6, n9) w
abbrev F36_9 (R : Rt) (J1 : (Int × Int) -> World -> Prop) (p0 : Option Addr) (n1 n6 n7 : Int) (l8 : SV) (n9 : Int) (ds : Ds) (w : World) : Prop := F36_8 R J1 p0 n1 n6 n7 l8 n9 ds w
def F36_k16 (R : Rt) (J1 : (Int × Int) -> World -> Prop) : EP := (fun E ds w => dPtr (E 0) fun p0 => dInt .i64 (E 1) fun n1 => dInt .i64 (E 6) fun n6 => dInt .i64 (E 7) fun n7 => dSl (E 8) fun l8 => dInt .i64 (E 9) fun n9 => F36_9 R J1 p0 n1 n6 n7 l8 n9 ds w)
def F36_10 (R : Rt) (J1 : (Int × Int) -> World -> Prop) (p0 : Option Addr) (n1 n6 n7 : Int) (ds : Ds) (w : World) : Prop :=
 dwE w fun w15 =>
 ptrE p0 fun a16 =>
 0 <= n1 /\ n1 < (4 : Int) /\
 ∃ m32 : Option Nat, w15.cell? ((a16.add 1).add (n1.toNat * 1)) = some (.map m32) /\
 ptrE p0 fun a17 =>
 ∃ l36 : SV, w15.cell? a17 = some (.slice l36.a l36.len l36.cap) /\
 ∃ a18 : Addr, l36.a = some a18 /\ 0 <= n7 /\ n7 < (l36.len : Int) /\
 ∃ s40 : ByteArray, w15.cell? (a18.add (n7.toNat * 2)) = some (.string s40) /\
 ∃ l41 : SV, (Instr.lookup 69 (.map m32) (.string s40) false).run prog w15 = .ok (.slice l41.a l41.len l41.cap) w15 /\
 F36_9 R J1 p0 n1 n6 n7 l41 0 ds w15
abbrev F36_11 (R : Rt) (J1 : (Int × Int) -> World -> Prop) (p0 : Option Addr) (n1 n6 n7 : Int) (ds : Ds) (w : World) : Prop := F36_10 R J1 p0 n1 n6 n7 ds w
def F36_k17 (R : Rt) (J1 : (Int × Int) -> World -> Prop) : EP := (fun E ds w => dPtr (E 0) fun p0 => dInt .i64 (E 1) fun n1 => dInt .i64 (E 6) fun n6 => dInt .i64 (E 7) fun n7 => F36_11 R J1 p0 n1 n6 n7 ds w)
def F36_12 (R : Rt) (J1 : (Int × Int) -> World -> Prop) (p0 : Option Addr) (n1 n6 n7 : Int) (ds : Ds) (w : World) : Prop :=
 ptrE p0 fun a19 =>
 ∃ l22 : SV, w.cell? a19 = some (.slice l22.a l22.len l22.cap) /\
 Br (decide (n7 < (l22.len : Int))) (
 F36_11 R J1 p0 n1 n6 n7 ds w) (
 F36_5 R p0 n1 n6 ds w)
def F36_13 (R : Rt) (p0 : Option Addr) (n1 n6 n7 : Int) (ds : Ds) (w : World) : Prop :=
 loopT (fun (J1 : (Int × Int) -> World -> Prop) (s : Int × Int) (w : World) => F36_12 R J1 p0 n1 s.1 s.2 ds w) (n6, n7) w
abbrev F36_14 (R : Rt) (p0 : Option Addr) (n1 n6 n7 : Int) (ds : Ds) (w : World) : Prop := F36_13 R p0 n1 n6 n7 ds w
def F36_k18 (R : Rt) : EP := (fun E ds w => dPtr (E 0) fun p0 => dInt .i64 (E 1) fun n1 => dInt .i64 (E 6) fun n6 => dInt .i64 (E 7) fun n7 => F36_14 R p0 n1 n6 n7 ds w)
def F36_15 (R : Rt) (p0 : Option Addr) (n1 : Int) (ds : Ds) (w : World) : Prop :=
 Br (decide (n1 < 0)) (
 runD prog ds w fun w20 =>
 R (.returned (.tuple #[.int .i64 0, .int .i64 1])) w20) (
 Br (decide (n1 ≥ 4)) (
 runD prog ds w fun w21 =>
 R (.returned (.tuple #[.int .i64 0, .int .i64 1])) w21) (
 F36_14 R p0 n1 0 0 ds w))
theorem c36_l : flat (bodyOf f36) = [c36_0, c36_1, c36_2, c36_3, c36_4, c36_5, c36_6, c36_7, c36_8, c36_9, c36_10, c36_11, c36_12] := by kernel_rfl
theorem c36_9_l : flat (innerC c36_9) = [c36_9_0] := by kernel_rfl
theorem c36_9_0_l : flat (innerC c36_9_0) = [c36_9_0_0, c36_9_0_1, c36_9_0_2, c36_9_0_3] := by kernel_rfl
theorem c36_5_l : flat (innerC c36_5) = [c36_5_0] := by kernel_rfl
theorem c36_5_0_l : flat (innerC c36_5_0) = [c36_5_0_0, c36_5_0_1, c36_5_0_2, c36_5_0_3] := by kernel_rfl
theorem c36_5_0_2_l : flat (innerC c36_5_0_2) = [c36_5_0_2_0, c36_5_0_2_1, c36_5_0_2_2] := by kernel_rfl
theorem c36_5_0_2_2_l : flat (innerC c36_5_0_2_2) = [c36_5_0_2_2_0] := by kernel_rfl
theorem c36_5_0_2_2_0_l : flat (innerC c36_5_0_2_2_0) = [c36_5_0_2_2_0_0, c36_5_0_2_2_0_1, c36_5_0_2_2_0_2, c36_5_0_2_2_0_3] := by kernel_rfl
theorem F36_1_ok (R : Rt) (p0 : Option Addr) (n6 : Int) (l10 : SV) (ds : Ds) (w : World) (E : Env) (e0 : E 0 = .pointer p0) (e6 : E 6 = .int .i64 n6) (e10 : E 10 = .slice l10.a l10.len l10.cap) (h : F36_1 R p0 n6 l10 ds w) :
    TrL prog f36.ntmps [c36_10, c36_11, c36_12] (F36_q1 R) E ds w :=
  TrL_leaf (X := F36_1 R p0 n6 l10 ds w) (setAll_cons e0 (setAll_cons e6 (setAll_cons e10 setAll_nil))) (by kernel_rfl) (by kernel_rfl) h
theorem F36_2_ok (R : Rt) (J1 : (SV × Int) -> World -> Prop) (p0 : Option Addr) (n1 n6 : Int) (l10 : SV) (n11 : Int) (ds : Ds) (w : World) (E : Env) (e0 : E 0 = .pointer p0) (e1 : E 1 = .int .i64 n1) (e6 : E 6 = .int .i64 n6) (e10 : E 10 = .slice l10.a l10.len l10.cap) (e11 : E 11 = .int .i64 n11) (h : F36_2 R J1 p0 n1 n6 l10 n11 ds w) :
    TrL prog f36.ntmps [c36_9_0_0, c36_9_0_1, c36_9_0_2, c36_9_0_3] (F36_q5 R J1) E ds w :=
  TrL_leaf (X := F36_2 R J1 p0 n1 n6 l10 n11 ds w) (setAll_cons e0 (setAll_cons e1 (setAll_cons e6 (setAll_cons e10 (setAll_cons e11 setAll_nil))))) (by kernel_rfl) (by kernel_rfl) h
theorem F36_3_ok (R : Rt) (p0 : Option Addr) (n1 n6 : Int) (l10 : SV) (n11 : Int) (ds : Ds) (w : World) (E : Env) (e0 : E 0 = .pointer p0) (e1 : E 1 = .int .i64 n1) (e6 : E 6 = .int .i64 n6) (e10 : E 10 = .slice l10.a l10.len l10.cap) (e11 : E 11 = .int .i64 n11) (h : F36_3 R p0 n1 n6 l10 n11 ds w) :
    TrL prog f36.ntmps [c36_9_0] (F36_q4 R) E ds w :=
  TrL_one (Tr_loop' (c := innerC c36_9_0) (σ := SV × Int) (enc := (fun (s : SV × Int) (E : Env) => E 10 = .slice s.1.a s.1.len s.1.cap /\ E 11 = .int .i64 s.2)) (D := (fun E K => dSl (E 10) fun l10 => dInt .i64 (E 11) fun n11 => K (l10, n11))) (F := (fun (J1 : (SV × Int) -> World -> Prop) (s : SV × Int) (w : World) => F36_2 R J1 p0 n1 n6 s.1 s.2 ds w)) (s0 := (l10, n11)) (by kernel_rfl) c36_9_0_l ⟨e10, e11⟩ (by kernel_rfl) (fun E K hD => by obtain ⟨l10, e10, hD⟩ := dSl_elim hD; obtain ⟨n11, e11, hD⟩ := dInt_elim hD; exact ⟨(l10, n11), ⟨e10, e11⟩, hD⟩)
      (fun J1 s E' w' he ha hF => by
      obtain ⟨e10', e11'⟩ := he
      exact F36_2_ok R J1 p0 n1 n6 s.1 s.2 ds w' E' ((ha 0 (by kernel_rfl)).trans e0) ((ha 1 (by kernel_rfl)).trans e1) ((ha 6 (by kernel_rfl)).trans e6) e10' e11' hF) h)
theorem F36_4_ok (R : Rt) (p0 : Option Addr) (n1 n6 : Int) (l10 : SV) (n11 : Int) (ds : Ds) (w : World) (E : Env) (e0 : E 0 = .pointer p0) (e1 : E 1 = .int .i64 n1) (e6 : E 6 = .int .i64 n6) (e10 : E 10 = .slice l10.a l10.len l10.cap) (e11 : E 11 = .int .i64 n11) (h : F36_4 R p0 n1 n6 l10 n11 ds w) :
    TrL prog f36.ntmps [c36_9, c36_10, c36_11, c36_12] (F36_q1 R) E ds w :=
  TrL_head (K := (F36_k2 R)) (Tr_block' (c := innerC c36_9) (by kernel_rfl) c36_9_l (F36_3_ok R p0 n1 n6 l10 n11 ds w E e0 e1 e6 e10 e11 h))
    (fun E' ds' w' hD => by
      obtain ⟨p0, e0, hD⟩ := dPtr_elim hD; obtain ⟨n6, e6, hD⟩ := dInt_elim hD; obtain ⟨l10, e10, hD⟩ := dSl_elim hD; exact F36_1_ok R p0 n6 l10 ds' w' E' e0 e6 e10 hD)
theorem F36_5_ok (R : Rt) (p0 : Option Addr) (n1 n6 : Int) (ds : Ds) (w : World) (E : Env) (e0 : E 0 = .pointer p0) (e1 : E 1 = .int .i64 n1) (e6 : E 6 = .int .i64 n6) (h : F36_5 R p0 n1 n6 ds w) :
    TrL prog f36.ntmps [c36_6, c36_7, c36_8, c36_9, c36_10, c36_11, c36_12] (F36_q1 R) E ds w :=
  TrL_piece (pre := [c36_6, c36_7, c36_8]) (K := (F36_k6 R)) (X := F36_5 R p0 n1 n6 ds w) (setAll_cons e0 (setAll_cons e1 (setAll_cons e6 setAll_nil))) (by kernel_rfl) (by kernel_rfl)
    (fun E' ds' w' hD => by
      obtain ⟨p0, e0, hD⟩ := dPtr_elim hD; obtain ⟨n1, e1, hD⟩ := dInt_elim hD; obtain ⟨n6, e6, hD⟩ := dInt_elim hD; obtain ⟨l10, e10, hD⟩ := dSl_elim hD; obtain ⟨n11, e11, hD⟩ := dInt_elim hD; exact F36_4_ok R p0 n1 n6 l10 n11 ds' w' E' e0 e1 e6 e10 e11 hD) h
theorem F36_6_ok (R : Rt) (J1 : (Int × Int) -> World -> Prop) (p0 : Option Addr) (n1 n6 n7 : Int) (ds : Ds) (w : World) (E : Env) (e0 : E 0 = .pointer p0) (e1 : E 1 = .int .i64 n1) (e6 : E 6 = .int .i64 n6) (e7 : E 7 = .int .i64 n7) (h : F36_6 R J1 p0 n1 n6 n7 ds w) :
    TrL prog f36.ntmps [c36_5_0_3] (F36_q10 R J1) E ds w :=
  TrL_leaf (X := F36_6 R J1 p0 n1 n6 n7 ds w) (setAll_cons e0 (setAll_cons e1 (setAll_cons e6 (setAll_cons e7 setAll_nil)))) (by kernel_rfl) (by kernel_rfl) h
theorem F36_7_ok (R : Rt) (J1 : (Int × Int) -> World -> Prop) (J2 : (Int × Int) -> World -> Prop) (p0 : Option Addr) (n1 n6 n7 : Int) (l8 : SV) (n9 : Int) (ds : Ds) (w : World) (E : Env) (e0 : E 0 = .pointer p0) (e1 : E 1 = .int .i64 n1) (e6 : E 6 = .int .i64 n6) (e7 : E 7 = .int .i64 n7) (e8 : E 8 = .slice l8.a l8.len l8.cap) (e9 : E 9 = .int .i64 n9) (h : F36_7 R J1 J2 p0 n1 n6 n7 l8 n9 ds w) :
    TrL prog f36.ntmps [c36_5_0_2_2_0_0, c36_5_0_2_2_0_1, c36_5_0_2_2_0_2, c36_5_0_2_2_0_3] (F36_q15 R J1 J2) E ds w :=
  TrL_leaf (X := F36_7 R J1 J2 p0 n1 n6 n7 l8 n9 ds w) (setAll_cons e0 (setAll_cons e1 (setAll_cons e6 (setAll_cons e7 (setAll_cons e8 (setAll_cons e9 setAll_nil)))))) (by kernel_rfl) (by kernel_rfl) h
theorem F36_8_ok (R : Rt) (J1 : (Int × Int) -> World -> Prop) (p0 : Option Addr) (n1 n6 n7 : Int) (l8 : SV) (n9 : Int) (ds : Ds) (w : World) (E : Env) (e0 : E 0 = .pointer p0) (e1 : E 1 = .int .i64 n1) (e6 : E 6 = .int .i64 n6) (e7 : E 7 = .int .i64 n7) (e8 : E 8 = .slice l8.a l8.len l8.cap) (e9 : E 9 = .int .i64 n9) (h : F36_8 R J1 p0 n1 n6 n7 l8 n9 ds w) :
    TrL prog f36.ntmps [c36_5_0_2_2_0] (F36_q14 R J1) E ds w :=
  TrL_one (Tr_loop' (c := innerC c36_5_0_2_2_0) (σ := Int × Int) (enc := (fun (s : Int × Int) (E : Env) => E 6 = .int .i64 s.1 /\ E 9 = .int .i64 s.2)) (D := (fun E K => dInt .i64 (E 6) fun n6 => dInt .i64 (E 9) fun n9 => K (n6, n9))) (F := (fun (J2 : (Int × Int) -> World -> Prop) (s : Int × Int) (w : World) => F36_7 R J1 J2 p0 n1 s.1 n7 l8 s.2 ds w)) (s0 := (n6, n9)) (by kernel_rfl) c36_5_0_2_2_0_l ⟨e6, e9⟩ (by kernel_rfl) (fun E K hD => by obtain ⟨n6, e6, hD⟩ := dInt_elim hD; obtain ⟨n9, e9, hD⟩ := dInt_elim hD; exact ⟨(n6, n9), ⟨e6, e9⟩, hD⟩)
      (fun J2 s E' w' he ha hF => by
      obtain ⟨e6', e9'⟩ := he
      exact F36_7_ok R J1 J2 p0 n1 s.1 n7 l8 s.2 ds w' E' ((ha 0 (by kernel_rfl)).trans e0) ((ha 1 (by kernel_rfl)).trans e1) e6' ((ha 7 (by kernel_rfl)).trans e7) ((ha 8 (by kernel_rfl)).trans e8) e9' hF) h)
theorem F36_9_ok (R : Rt) (J1 : (Int × Int) -> World -> Prop) (p0 : Option Addr) (n1 n6 n7 : Int) (l8 : SV) (n9 : Int) (ds : Ds) (w : World) (E : Env) (e0 : E 0 = .pointer p0) (e1 : E 1 = .int .i64 n1) (e6 : E 6 = .int .i64 n6) (e7 : E 7 = .int .i64 n7) (e8 : E 8 = .slice l8.a l8.len l8.cap) (e9 : E 9 = .int .i64 n9) (h : F36_9 R J1 p0 n1 n6 n7 l8 n9 ds w) :
    TrL prog f36.ntmps [c36_5_0_2_2] (F36_q13 R J1) E ds w :=
  TrL_one (Tr_block' (c := innerC c36_5_0_2_2) (by kernel_rfl) c36_5_0_2_2_l (F36_8_ok R J1 p0 n1 n6 n7 l8 n9 ds w E e0 e1 e6 e7 e8 e9 h))
theorem F36_10_ok (R : Rt) (J1 : (Int × Int) -> World -> Prop) (p0 : Option Addr) (n1 n6 n7 : Int) (ds : Ds) (w : World) (E : Env) (e0 : E 0 = .pointer p0) (e1 : E 1 = .int .i64 n1) (e6 : E 6 = .int .i64 n6) (e7 : E 7 = .int .i64 n7) (h : F36_10 R J1 p0 n1 n6 n7 ds w) :
    TrL prog f36.ntmps [c36_5_0_2_0, c36_5_0_2_1, c36_5_0_2_2] (F36_q13 R J1) E ds w :=
  TrL_piece (pre := [c36_5_0_2_0, c36_5_0_2_1]) (K := (F36_k16 R J1)) (X := F36_10 R J1 p0 n1 n6 n7 ds w) (setAll_cons e0 (setAll_cons e1 (setAll_cons e6 (setAll_cons e7 setAll_nil)))) (by kernel_rfl) (by kernel_rfl)
    (fun E' ds' w' hD => by
      obtain ⟨p0, e0, hD⟩ := dPtr_elim hD; obtain ⟨n1, e1, hD⟩ := dInt_elim hD; obtain ⟨n6, e6, hD⟩ := dInt_elim hD; obtain ⟨n7, e7, hD⟩ := dInt_elim hD; obtain ⟨l8, e8, hD⟩ := dSl_elim hD; obtain ⟨n9, e9, hD⟩ := dInt_elim hD; exact F36_9_ok R J1 p0 n1 n6 n7 l8 n9 ds' w' E' e0 e1 e6 e7 e8 e9 hD) h
theorem F36_11_ok (R : Rt) (J1 : (Int × Int) -> World -> Prop) (p0 : Option Addr) (n1 n6 n7 : Int) (ds : Ds) (w : World) (E : Env) (e0 : E 0 = .pointer p0) (e1 : E 1 = .int .i64 n1) (e6 : E 6 = .int .i64 n6) (e7 : E 7 = .int .i64 n7) (h : F36_11 R J1 p0 n1 n6 n7 ds w) :
    TrL prog f36.ntmps [c36_5_0_2, c36_5_0_3] (F36_q10 R J1) E ds w :=
  TrL_head (K := (F36_k11 R J1)) (Tr_block' (c := innerC c36_5_0_2) (by kernel_rfl) c36_5_0_2_l (F36_10_ok R J1 p0 n1 n6 n7 ds w E e0 e1 e6 e7 h))
    (fun E' ds' w' hD => by
      obtain ⟨p0, e0, hD⟩ := dPtr_elim hD; obtain ⟨n1, e1, hD⟩ := dInt_elim hD; obtain ⟨n6, e6, hD⟩ := dInt_elim hD; obtain ⟨n7, e7, hD⟩ := dInt_elim hD; exact F36_6_ok R J1 p0 n1 n6 n7 ds' w' E' e0 e1 e6 e7 hD)
theorem F36_12_ok (R : Rt) (J1 : (Int × Int) -> World -> Prop) (p0 : Option Addr) (n1 n6 n7 : Int) (ds : Ds) (w : World) (E : Env) (e0 : E 0 = .pointer p0) (e1 : E 1 = .int .i64 n1) (e6 : E 6 = .int .i64 n6) (e7 : E 7 = .int .i64 n7) (h : F36_12 R J1 p0 n1 n6 n7 ds w) :
    TrL prog f36.ntmps [c36_5_0_0, c36_5_0_1, c36_5_0_2, c36_5_0_3] (F36_q10 R J1) E ds w :=
  TrL_piece (pre := [c36_5_0_0, c36_5_0_1]) (K := (F36_k17 R J1)) (X := F36_12 R J1 p0 n1 n6 n7 ds w) (setAll_cons e0 (setAll_cons e1 (setAll_cons e6 (setAll_cons e7 setAll_nil)))) (by kernel_rfl) (by kernel_rfl)
    (fun E' ds' w' hD => by
      obtain ⟨p0, e0, hD⟩ := dPtr_elim hD; obtain ⟨n1, e1, hD⟩ := dInt_elim hD; obtain ⟨n6, e6, hD⟩ := dInt_elim hD; obtain ⟨n7, e7, hD⟩ := dInt_elim hD; exact F36_11_ok R J1 p0 n1 n6 n7 ds' w' E' e0 e1 e6 e7 hD) h
theorem F36_13_ok (R : Rt) (p0 : Option Addr) (n1 n6 n7 : Int) (ds : Ds) (w : World) (E : Env) (e0 : E 0 = .pointer p0) (e1 : E 1 = .int .i64 n1) (e6 : E 6 = .int .i64 n6) (e7 : E 7 = .int .i64 n7) (h : F36_13 R p0 n1 n6 n7 ds w) :
    TrL prog f36.ntmps [c36_5_0] (F36_q9 R) E ds w :=
  TrL_one (Tr_loop' (c := innerC c36_5_0) (σ := Int × Int) (enc := (fun (s : Int × Int) (E : Env) => E 6 = .int .i64 s.1 /\ E 7 = .int .i64 s.2)) (D := (fun E K => dInt .i64 (E 6) fun n6 => dInt .i64 (E 7) fun n7 => K (n6, n7))) (F := (fun (J1 : (Int × Int) -> World -> Prop) (s : Int × Int) (w : World) => F36_12 R J1 p0 n1 s.1 s.2 ds w)) (s0 := (n6, n7)) (by kernel_rfl) c36_5_0_l ⟨e6, e7⟩ (by kernel_rfl) (fun E K hD => by obtain ⟨n6, e6, hD⟩ := dInt_elim hD; obtain ⟨n7, e7, hD⟩ := dInt_elim hD; exact ⟨(n6, n7), ⟨e6, e7⟩, hD⟩)
      (fun J1 s E' w' he ha hF => by
      obtain ⟨e6', e7'⟩ := he
      exact F36_12_ok R J1 p0 n1 s.1 s.2 ds w' E' ((ha 0 (by kernel_rfl)).trans e0) ((ha 1 (by kernel_rfl)).trans e1) e6' e7' hF) h)
theorem F36_14_ok (R : Rt) (p0 : Option Addr) (n1 n6 n7 : Int) (ds : Ds) (w : World) (E : Env) (e0 : E 0 = .pointer p0) (e1 : E 1 = .int .i64 n1) (e6 : E 6 = .int .i64 n6) (e7 : E 7 = .int .i64 n7) (h : F36_14 R p0 n1 n6 n7 ds w) :
    TrL prog f36.ntmps [c36_5, c36_6, c36_7, c36_8, c36_9, c36_10, c36_11, c36_12] (F36_q1 R) E ds w :=
  TrL_head (K := (F36_k7 R)) (Tr_block' (c := innerC c36_5) (by kernel_rfl) c36_5_l (F36_13_ok R p0 n1 n6 n7 ds w E e0 e1 e6 e7 h))
    (fun E' ds' w' hD => by
      obtain ⟨p0, e0, hD⟩ := dPtr_elim hD; obtain ⟨n1, e1, hD⟩ := dInt_elim hD; obtain ⟨n6, e6, hD⟩ := dInt_elim hD; exact F36_5_ok R p0 n1 n6 ds' w' E' e0 e1 e6 hD)
theorem F36_15_ok (R : Rt) (p0 : Option Addr) (n1 : Int) (ds : Ds) (w : World) (E : Env) (e0 : E 0 = .pointer p0) (e1 : E 1 = .int .i64 n1) (h : F36_15 R p0 n1 ds w) :
    TrL prog f36.ntmps [c36_0, c36_1, c36_2, c36_3, c36_4, c36_5, c36_6, c36_7, c36_8, c36_9, c36_10, c36_11, c36_12] (F36_q1 R) E ds w :=
  TrL_piece (pre := [c36_0, c36_1, c36_2, c36_3, c36_4]) (K := (F36_k18 R)) (X := F36_15 R p0 n1 ds w) (setAll_cons e0 (setAll_cons e1 setAll_nil)) (by kernel_rfl) (by kernel_rfl)
    (fun E' ds' w' hD => by
      obtain ⟨p0, e0, hD⟩ := dPtr_elim hD; obtain ⟨n1, e1, hD⟩ := dInt_elim hD; obtain ⟨n6, e6, hD⟩ := dInt_elim hD; obtain ⟨n7, e7, hD⟩ := dInt_elim hD; exact F36_14_ok R p0 n1 n6 n7 ds' w' E' e0 e1 e6 e7 hD) h
theorem F36_calls (p0 : Option Addr) (n1 : Int) (w : World) (R : Rt) (h : F36_15 R p0 n1 [] w) : Calls prog 36 #[.pointer p0, .int .i64 n1] w R :=
  calls_of_L (l := [c36_0, c36_1, c36_2, c36_3, c36_4, c36_5, c36_6, c36_7, c36_8, c36_9, c36_10, c36_11, c36_12]) func36 (by kernel_rfl) (by rw [ntmps36]; exact Nat.le_of_ble_eq_true (by kernel_rfl)) c36_l
    (F36_15_ok R p0 n1 [] w _ rfl rfl h)
noncomputable def c38_0 := cI1 f38 0
noncomputable def c38_1 := cI1 f38 1
noncomputable def c38_2 := cI1 f38 2
noncomputable def c38_3 := cI1 f38 3
noncomputable def c38_4 := cI1 f38 4
noncomputable def c38_5 := cI1 f38 5
noncomputable def c38_6 := cI1 f38 6
noncomputable def c38_7 := cI1 f38 7
noncomputable def c38_8 := cI1 f38 8
noncomputable def c38_9 := cI1 f38 9
noncomputable def c38_7_0 := cJ1 c38_7 0
noncomputable def c38_7_0_0 := cJ1 c38_7_0 0
noncomputable def c38_7_0_1 := cJ1 c38_7_0 1
noncomputable def c38_7_0_2 := cJ1 c38_7_0 2
noncomputable def c38_7_0_3 := cJ1 c38_7_0 3
def F38_q1 (R : Rt) : EQ := endQ prog f38.results.toList R
def F38_1 (R : Rt) (l9 : SV) (ds : Ds) (w : World) : Prop :=
 runD prog ds w fun w1 =>
 R (.returned (.tuple #[.slice l9.a l9.len l9.cap, .int .i64 0])) w1
def F38_k2 (R : Rt) : EP := (fun E ds w => dSl (E 9) fun l9 => F38_1 R l9 ds w)
def F38_q3 (R : Rt) : EQ := (thenQ (F38_k2 R) (F38_q1 R))
def F38_q4 (R : Rt) : EQ := (blockQ 0 (F38_q3 R))
def F38_q5 (R : Rt) (J1 : (SV × Int) -> World -> Prop) : EQ := (thenQ (fun E _ w => dSl (E 9) fun l9 => dInt .i64 (E 11) fun n11 => J1 (l9, n11) w) (F38_q4 R))
def F38_2 (R : Rt) (J1 : (SV × Int) -> World -> Prop) (l9 l10 : SV) (n11 : Int) (ds : Ds) (w : World) : Prop :=
 Br (decide (n11 < (l10.len : Int))) (
 ∃ a2 : Addr, l10.a = some a2 /\ 0 <= n11 /\ n11 < (l10.len : Int) /\
 ∃ b37 : Bool, w.cell? ((a2.add (n11.toNat * 3)).add 1) = some (.bool b37) /\
 Br b37 (
 alE (.cells #[.int .i64 n11] 3) w fun r40 w3 =>
 ∃ l41 : SV, ∃ w4 : World, (Builtin.append_ #[74, 74] 74 #[.slice l9.a l9.len l9.cap, .slice (some ⟨r40, 0, none⟩) 1 1]).run prog w3 = .ok (.slice l41.a l41.len l41.cap) w4 /\
 J1 (l41, (IntKind.i64.wrap (n11 + 1))) w4) (
 J1 (l9, (IntKind.i64.wrap (n11 + 1))) w)) (
 F38_1 R l9 ds w)
def F38_3 (R : Rt) (l9 l10 : SV) (n11 : Int) (ds : Ds) (w : World) : Prop :=
 loopT (fun (J1 : (SV × Int) -> World -> Prop) (s : SV × Int) (w : World) => F38_2 R J1 s.1 l10 s.2 ds w) (l9, n11) w
abbrev F38_4 (R : Rt) (l9 l10 : SV) (n11 : Int) (ds : Ds) (w : World) : Prop := F38_3 R l9 l10 n11 ds w
def F38_k6 (R : Rt) : EP := (fun E ds w => dSl (E 9) fun l9 => dSl (E 10) fun l10 => dInt .i64 (E 11) fun n11 => F38_4 R l9 l10 n11 ds w)
def F38_5 (R : Rt) (p0 : Option Addr) (n1 : Int) (s2 : ByteArray) (ds : Ds) (w : World) : Prop :=
 Calls prog 75 #[.pointer p0, .int .i64 n1, .string s2] w fun e w5 =>
 ∃ n15 : Int, e = .returned (.int .i64 n15) /\
 Br (n15 != 0) (
 runD prog ds w5 fun w6 =>
 R (.returned (.tuple #[.slice none 0 0, .int .i64 n15])) w6) (
 ptrE p0 fun a7 =>
 0 <= n1 /\ n1 < (4 : Int) /\
 ∃ m24 : Option Nat, w5.cell? ((a7.add 1).add (n1.toNat * 1)) = some (.map m24) /\
 ∃ l26 : SV, ∃ w8 : World, (Instr.lookup 69 (.map m24) (.string s2) false).run prog w5 = .ok (.slice l26.a l26.len l26.cap) w8 /\
 F38_4 R ⟨none, 0, 0⟩ l26 0 ds w8)
theorem c38_l : flat (bodyOf f38) = [c38_0, c38_1, c38_2, c38_3, c38_4, c38_5, c38_6, c38_7, c38_8, c38_9] := by kernel_rfl
theorem c38_7_l : flat (innerC c38_7) = [c38_7_0] := by kernel_rfl
theorem c38_7_0_l : flat (innerC c38_7_0) = [c38_7_0_0, c38_7_0_1, c38_7_0_2, c38_7_0_3] := by kernel_rfl
theorem F38_1_ok (R : Rt) (l9 : SV) (ds : Ds) (w : World) (E : Env) (e9 : E 9 = .slice l9.a l9.len l9.cap) (h : F38_1 R l9 ds w) :
    TrL prog f38.ntmps [c38_8, c38_9] (F38_q1 R) E ds w :=
  TrL_leaf (X := F38_1 R l9 ds w) (setAll_cons e9 setAll_nil) (by kernel_rfl) (by kernel_rfl) h
theorem F38_2_ok (R : Rt) (J1 : (SV × Int) -> World -> Prop) (l9 l10 : SV) (n11 : Int) (ds : Ds) (w : World) (E : Env) (e9 : E 9 = .slice l9.a l9.len l9.cap) (e10 : E 10 = .slice l10.a l10.len l10.cap) (e11 : E 11 = .int .i64 n11) (h : F38_2 R J1 l9 l10 n11 ds w) :
    TrL prog f38.ntmps [c38_7_0_0, c38_7_0_1, c38_7_0_2, c38_7_0_3] (F38_q5 R J1) E ds w :=
  TrL_leaf (X := F38_2 R J1 l9 l10 n11 ds w) (setAll_cons e9 (setAll_cons e10 (setAll_cons e11 setAll_nil))) (by kernel_rfl) (by kernel_rfl) h
theorem F38_3_ok (R : Rt) (l9 l10 : SV) (n11 : Int) (ds : Ds) (w : World) (E : Env) (e9 : E 9 = .slice l9.a l9.len l9.cap) (e10 : E 10 = .slice l10.a l10.len l10.cap) (e11 : E 11 = .int .i64 n11) (h : F38_3 R l9 l10 n11 ds w) :
    TrL prog f38.ntmps [c38_7_0] (F38_q4 R) E ds w :=
  TrL_one (Tr_loop' (c := innerC c38_7_0) (σ := SV × Int) (enc := (fun (s : SV × Int) (E : Env) => E 9 = .slice s.1.a s.1.len s.1.cap /\ E 11 = .int .i64 s.2)) (D := (fun E K => dSl (E 9) fun l9 => dInt .i64 (E 11) fun n11 => K (l9, n11))) (F := (fun (J1 : (SV × Int) -> World -> Prop) (s : SV × Int) (w : World) => F38_2 R J1 s.1 l10 s.2 ds w)) (s0 := (l9, n11)) (by kernel_rfl) c38_7_0_l ⟨e9, e11⟩ (by kernel_rfl) (fun E K hD => by obtain ⟨l9, e9, hD⟩ := dSl_elim hD; obtain ⟨n11, e11, hD⟩ := dInt_elim hD; exact ⟨(l9, n11), ⟨e9, e11⟩, hD⟩)
      (fun J1 s E' w' he ha hF => by
      obtain ⟨e9', e11'⟩ := he
      exact F38_2_ok R J1 s.1 l10 s.2 ds w' E' e9' ((ha 10 (by kernel_rfl)).trans e10) e11' hF) h)
theorem F38_4_ok (R : Rt) (l9 l10 : SV) (n11 : Int) (ds : Ds) (w : World) (E : Env) (e9 : E 9 = .slice l9.a l9.len l9.cap) (e10 : E 10 = .slice l10.a l10.len l10.cap) (e11 : E 11 = .int .i64 n11) (h : F38_4 R l9 l10 n11 ds w) :
    TrL prog f38.ntmps [c38_7, c38_8, c38_9] (F38_q1 R) E ds w :=
  TrL_head (K := (F38_k2 R)) (Tr_block' (c := innerC c38_7) (by kernel_rfl) c38_7_l (F38_3_ok R l9 l10 n11 ds w E e9 e10 e11 h))
    (fun E' ds' w' hD => by
      obtain ⟨l9, e9, hD⟩ := dSl_elim hD; exact F38_1_ok R l9 ds' w' E' e9 hD)
theorem F38_5_ok (R : Rt) (p0 : Option Addr) (n1 : Int) (s2 : ByteArray) (ds : Ds) (w : World) (E : Env) (e0 : E 0 = .pointer p0) (e1 : E 1 = .int .i64 n1) (e2 : E 2 = .string s2) (h : F38_5 R p0 n1 s2 ds w) :
    TrL prog f38.ntmps [c38_0, c38_1, c38_2, c38_3, c38_4, c38_5, c38_6, c38_7, c38_8, c38_9] (F38_q1 R) E ds w :=
  TrL_piece (pre := [c38_0, c38_1, c38_2, c38_3, c38_4, c38_5, c38_6]) (K := (F38_k6 R)) (X := F38_5 R p0 n1 s2 ds w) (setAll_cons e0 (setAll_cons e1 (setAll_cons e2 setAll_nil))) (by kernel_rfl) (by kernel_rfl)
    (fun E' ds' w' hD => by
      obtain ⟨l9, e9, hD⟩ := dSl_elim hD; obtain ⟨l10, e10, hD⟩ := dSl_elim hD; obtain ⟨n11, e11, hD⟩ := dInt_elim hD; exact F38_4_ok R l9 l10 n11 ds' w' E' e9 e10 e11 hD) h
theorem F38_calls (p0 : Option Addr) (n1 : Int) (s2 : ByteArray) (w : World) (R : Rt) (h : F38_5 R p0 n1 s2 [] w) : Calls prog 38 #[.pointer p0, .int .i64 n1, .string s2] w R :=
  calls_of_L (l := [c38_0, c38_1, c38_2, c38_3, c38_4, c38_5, c38_6, c38_7, c38_8, c38_9]) func38 (by kernel_rfl) (by rw [ntmps38]; exact Nat.le_of_ble_eq_true (by kernel_rfl)) c38_l
    (F38_5_ok R p0 n1 s2 [] w _ rfl rfl rfl h)
noncomputable def c41_0 := cI1 f41 0
noncomputable def c41_1 := cI1 f41 1
noncomputable def c41_2 := cI1 f41 2
noncomputable def c41_3 := cI1 f41 3
noncomputable def c41_4 := cI1 f41 4
noncomputable def c41_5 := cI1 f41 5
noncomputable def c41_6 := cI1 f41 6
def F41_q1 (R : Rt) : EQ := endQ prog f41.results.toList R
def F41_1 (R : Rt) (p0 : Option Addr) (s1 : ByteArray) (ds : Ds) (w : World) : Prop :=
 Calls prog 92 #[.string s1] w fun e w1 =>
 ∃ b6 : Bool, e = .returned (.bool b6) /\
 Br (!b6) (
 runD prog ds w1 fun w2 =>
 R (.returned (.int .i64 1)) w2) (
 Calls prog 42 #[.pointer p0, .string s1] w1 fun e w3 =>
 ∃ n10 : Int, e = .returned (.int .i64 n10) /\
 Br (decide (n10 < 0)) (
 runD prog ds w3 fun w4 =>
 R (.returned (.int .i64 4)) w4) (
 runD prog ds w3 fun w5 =>
 R (.returned (.int .i64 0)) w5))
theorem c41_l : flat (bodyOf f41) = [c41_0, c41_1, c41_2, c41_3, c41_4, c41_5, c41_6] := by kernel_rfl
theorem F41_1_ok (R : Rt) (p0 : Option Addr) (s1 : ByteArray) (ds : Ds) (w : World) (E : Env) (e0 : E 0 = .pointer p0) (e1 : E 1 = .string s1) (h : F41_1 R p0 s1 ds w) :
    TrL prog f41.ntmps [c41_0, c41_1, c41_2, c41_3, c41_4, c41_5, c41_6] (F41_q1 R) E ds w :=
  TrL_leaf (X := F41_1 R p0 s1 ds w) (setAll_cons e0 (setAll_cons e1 setAll_nil)) (by kernel_rfl) (by kernel_rfl) h
theorem F41_calls (p0 : Option Addr) (s1 : ByteArray) (w : World) (R : Rt) (h : F41_1 R p0 s1 [] w) : Calls prog 41 #[.pointer p0, .string s1] w R :=
  calls_of_L (l := [c41_0, c41_1, c41_2, c41_3, c41_4, c41_5, c41_6]) func41 (by kernel_rfl) (by rw [ntmps41]; exact Nat.le_of_ble_eq_true (by kernel_rfl)) c41_l
    (F41_1_ok R p0 s1 [] w _ rfl rfl h)
noncomputable def c42_0 := cI1 f42 0
noncomputable def c42_1 := cI1 f42 1
noncomputable def c42_2 := cI1 f42 2
noncomputable def c42_3 := cI1 f42 3
noncomputable def c42_4 := cI1 f42 4
noncomputable def c42_2_0 := cJ1 c42_2 0
noncomputable def c42_2_0_0 := cJ1 c42_2_0 0
noncomputable def c42_2_0_1 := cJ1 c42_2_0 1
noncomputable def c42_2_0_2 := cJ1 c42_2_0 2
noncomputable def c42_2_0_3 := cJ1 c42_2_0 3
def F42_q1 (R : Rt) : EQ := endQ prog f42.results.toList R
def F42_1 (R : Rt) (ds : Ds) (w : World) : Prop :=
 runD prog ds w fun w1 =>
 R (.returned (.int .i64 (-1))) w1
def F42_k2 (R : Rt) : EP := (fun E ds w => F42_1 R ds w)
def F42_q3 (R : Rt) : EQ := (thenQ (F42_k2 R) (F42_q1 R))
def F42_q4 (R : Rt) : EQ := (blockQ 0 (F42_q3 R))
def F42_q5 (R : Rt) (J1 : (Int) -> World -> Prop) : EQ := (thenQ (fun E _ w => dInt .i64 (E 5) fun n5 => J1 n5 w) (F42_q4 R))
def F42_2 (R : Rt) (J1 : (Int) -> World -> Prop) (p0 : Option Addr) (s1 : ByteArray) (n5 : Int) (ds : Ds) (w : World) : Prop :=
 ptrE p0 fun a2 =>
 ∃ l10 : SV, w.cell? a2 = some (.slice l10.a l10.len l10.cap) /\
 Br (decide (n5 < (l10.len : Int))) (
 ptrE p0 fun a3 =>
 ∃ l18 : SV, w.cell? a3 = some (.slice l18.a l18.len l18.cap) /\
 ∃ a4 : Addr, l18.a = some a4 /\ 0 <= n5 /\ n5 < (l18.len : Int) /\
 ∃ s22 : ByteArray, w.cell? (a4.add (n5.toNat * 2)) = some (.string s22) /\
 Br (s22.toList == s1.toList) (
 runD prog ds w fun w5 =>
 R (.returned (.int .i64 n5)) w5) (
 J1 (IntKind.i64.wrap (n5 + 1)) w)) (
 F42_1 R ds w)
def F42_3 (R : Rt) (p0 : Option Addr) (s1 : ByteArray) (n5 : Int) (ds : Ds) (w : World) : Prop :=
 loopT (fun (J1 : (Int) -> World -> Prop) (s : Int) (w : World) => F42_2 R J1 p0 s1 s ds w) n5 w
abbrev F42_4 (R : Rt) (p0 : Option Addr) (s1 : ByteArray) (n5 : Int) (ds : Ds) (w : World) : Prop := F42_3 R p0 s1 n5 ds w
def F42_k6 (R : Rt) : EP := (fun E ds w => dPtr (E 0) fun p0 => dStr (E 1) fun s1 => dInt .i64 (E 5) fun n5 => F42_4 R p0 s1 n5 ds w)
def F42_5 (R : Rt) (p0 : Option Addr) (s1 : ByteArray) (ds : Ds) (w : World) : Prop :=
 F42_4 R p0 s1 0 ds w
theorem c42_l : flat (bodyOf f42) = [c42_0, c42_1, c42_2, c42_3, c42_4] := by kernel_rfl
theorem c42_2_l : flat (innerC c42_2) = [c42_2_0] := by kernel_rfl
theorem c42_2_0_l : flat (innerC c42_2_0) = [c42_2_0_0, c42_2_0_1, c42_2_0_2, c42_2_0_3] := by kernel_rfl
theorem F42_1_ok (R : Rt) (ds : Ds) (w : World) (E : Env) (h : F42_1 R ds w) :
    TrL prog f42.ntmps [c42_3, c42_4] (F42_q1 R) E ds w :=
  TrL_leaf (X := F42_1 R ds w) setAll_nil (by kernel_rfl) (by kernel_rfl) h
theorem F42_2_ok (R : Rt) (J1 : (Int) -> World -> Prop) (p0 : Option Addr) (s1 : ByteArray) (n5 : Int) (ds : Ds) (w : World) (E : Env) (e0 : E 0 = .pointer p0) (e1 : E 1 = .string s1) (e5 : E 5 = .int .i64 n5) (h : F42_2 R J1 p0 s1 n5 ds w) :
    TrL prog f42.ntmps [c42_2_0_0, c42_2_0_1, c42_2_0_2, c42_2_0_3] (F42_q5 R J1) E ds w :=
  TrL_leaf (X := F42_2 R J1 p0 s1 n5 ds w) (setAll_cons e0 (setAll_cons e1 (setAll_cons e5 setAll_nil))) (by kernel_rfl) (by kernel_rfl) h
theorem F42_3_ok (R : Rt) (p0 : Option Addr) (s1 : ByteArray) (n5 : Int) (ds : Ds) (w : World) (E : Env) (e0 : E 0 = .pointer p0) (e1 : E 1 = .string s1) (e5 : E 5 = .int .i64 n5) (h : F42_3 R p0 s1 n5 ds w) :
    TrL prog f42.ntmps [c42_2_0] (F42_q4 R) E ds w :=
  TrL_one (Tr_loop' (c := innerC c42_2_0) (σ := Int) (enc := (fun (s : Int) (E : Env) => E 5 = .int .i64 s)) (D := (fun E K => dInt .i64 (E 5) fun n5 => K n5)) (F := (fun (J1 : (Int) -> World -> Prop) (s : Int) (w : World) => F42_2 R J1 p0 s1 s ds w)) (s0 := n5) (by kernel_rfl) c42_2_0_l e5 (by kernel_rfl) (fun E K hD => by obtain ⟨n5, e5, hD⟩ := dInt_elim hD; exact ⟨n5, e5, hD⟩)
      (fun J1 s E' w' he ha hF => by
      have e5' := he
      exact F42_2_ok R J1 p0 s1 s ds w' E' ((ha 0 (by kernel_rfl)).trans e0) ((ha 1 (by kernel_rfl)).trans e1) e5' hF) h)
theorem F42_4_ok (R : Rt) (p0 : Option Addr) (s1 : ByteArray) (n5 : Int) (ds : Ds) (w : World) (E : Env) (e0 : E 0 = .pointer p0) (e1 : E 1 = .string s1) (e5 : E 5 = .int .i64 n5) (h : F42_4 R p0 s1 n5 ds w) :
    TrL prog f42.ntmps [c42_2, c42_3, c42_4] (F42_q1 R) E ds w :=
  TrL_head (K := (F42_k2 R)) (Tr_block' (c := innerC c42_2) (by kernel_rfl) c42_2_l (F42_3_ok R p0 s1 n5 ds w E e0 e1 e5 h))
    (fun E' ds' w' hD => by
      exact F42_1_ok R ds' w' E'  hD)
theorem F42_5_ok (R : Rt) (p0 : Option Addr) (s1 : ByteArray) (ds : Ds) (w : World) (E : Env) (e0 : E 0 = .pointer p0) (e1 : E 1 = .string s1) (h : F42_5 R p0 s1 ds w) :
    TrL prog f42.ntmps [c42_0, c42_1, c42_2, c42_3, c42_4] (F42_q1 R) E ds w :=
  TrL_piece (pre := [c42_0, c42_1]) (K := (F42_k6 R)) (X := F42_5 R p0 s1 ds w) (setAll_cons e0 (setAll_cons e1 setAll_nil)) (by kernel_rfl) (by kernel_rfl)
    (fun E' ds' w' hD => by
      obtain ⟨p0, e0, hD⟩ := dPtr_elim hD; obtain ⟨s1, e1, hD⟩ := dStr_elim hD; obtain ⟨n5, e5, hD⟩ := dInt_elim hD; exact F42_4_ok R p0 s1 n5 ds' w' E' e0 e1 e5 hD) h
theorem F42_calls (p0 : Option Addr) (s1 : ByteArray) (w : World) (R : Rt) (h : F42_5 R p0 s1 [] w) : Calls prog 42 #[.pointer p0, .string s1] w R :=
  calls_of_L (l := [c42_0, c42_1, c42_2, c42_3, c42_4]) func42 (by kernel_rfl) (by rw [ntmps42]; exact Nat.le_of_ble_eq_true (by kernel_rfl)) c42_l
    (F42_5_ok R p0 s1 [] w _ rfl rfl h)
noncomputable def c75_0 := cI1 f75 0
noncomputable def c75_1 := cI1 f75 1
noncomputable def c75_2 := cI1 f75 2
noncomputable def c75_3 := cI1 f75 3
noncomputable def c75_4 := cI1 f75 4
def F75_q1 (R : Rt) : EQ := endQ prog f75.results.toList R
def F75_1 (R : Rt) (p0 : Option Addr) (n1 : Int) (s2 : ByteArray) (ds : Ds) (w : World) : Prop :=
 Br (decide (n1 < 0)) (
 runD prog ds w fun w1 =>
 R (.returned (.int .i64 1)) w1) (
 Br (decide (n1 ≥ 4)) (
 runD prog ds w fun w2 =>
 R (.returned (.int .i64 1)) w2) (
 Calls prog 41 #[.pointer p0, .string s2] w fun e w3 =>
 ∃ n15 : Int, e = .returned (.int .i64 n15) /\
 runD prog ds w3 fun w4 =>
 R (.returned (.int .i64 n15)) w4))
theorem c75_l : flat (bodyOf f75) = [c75_0, c75_1, c75_2, c75_3, c75_4] := by kernel_rfl
theorem F75_1_ok (R : Rt) (p0 : Option Addr) (n1 : Int) (s2 : ByteArray) (ds : Ds) (w : World) (E : Env) (e0 : E 0 = .pointer p0) (e1 : E 1 = .int .i64 n1) (e2 : E 2 = .string s2) (h : F75_1 R p0 n1 s2 ds w) :
    TrL prog f75.ntmps [c75_0, c75_1, c75_2, c75_3, c75_4] (F75_q1 R) E ds w :=
  TrL_leaf (X := F75_1 R p0 n1 s2 ds w) (setAll_cons e0 (setAll_cons e1 (setAll_cons e2 setAll_nil))) (by kernel_rfl) (by kernel_rfl) h
theorem F75_calls (p0 : Option Addr) (n1 : Int) (s2 : ByteArray) (w : World) (R : Rt) (h : F75_1 R p0 n1 s2 [] w) : Calls prog 75 #[.pointer p0, .int .i64 n1, .string s2] w R :=
  calls_of_L (l := [c75_0, c75_1, c75_2, c75_3, c75_4]) func75 (by kernel_rfl) (by rw [ntmps75]; exact Nat.le_of_ble_eq_true (by kernel_rfl)) c75_l
    (F75_1_ok R p0 n1 s2 [] w _ rfl rfl rfl h)
noncomputable def c76_0 := cI1 f76 0
noncomputable def c76_1 := cI1 f76 1
noncomputable def c76_2 := cI1 f76 2
noncomputable def c76_3 := cI1 f76 3
def F76_q1 (R : Rt) : EQ := endQ prog f76.results.toList R
def F76_1 (R : Rt) (p0 : Option Addr) (s1 : ByteArray) (n2 n3 : Int) (ds : Ds) (w : World) : Prop :=
 dwE w fun w1 =>
 ∃ S1 : World -> Prop, S1 w1 /\
 ptrE p0 fun a2 =>
 ∃ l13 : SV, (∀ w', S1 w' -> w'.cell? a2 = some (.slice l13.a l13.len l13.cap)) /\
 Calls prog 42 #[.pointer p0, .string s1] w1 fun e w3 =>
 ∃ n16 : Int, e = .returned (.int .i64 n16) /\
 S1 w3 /\
 ∃ a4 : Addr, l13.a = some a4 /\ 0 <= n16 /\ n16 < (l13.len : Int) /\
 ∃ l19 : SV, (∀ w', S1 w' -> w'.cell? ((a4.add (n16.toNat * 2)).add 1) = some (.slice l19.a l19.len l19.cap)) /\
 Br (decide (n2 ≥ 0)) (
 Br (decide (n3 ≥ 0)) (
 Br (decide (n2 <= (l19.len : Int))) (
 runD prog ds w3 fun w5 =>
 R (.returned (.bool (decide (n3 <= (IntKind.i64.wrap ((l19.len : Int) - n2)))))) w5) (
 runD prog ds w3 fun w6 =>
 R (.returned (.bool false)) w6)) (
 runD prog ds w3 fun w7 =>
 R (.returned (.bool false)) w7)) (
 runD prog ds w3 fun w8 =>
 R (.returned (.bool false)) w8)
theorem c76_l : flat (bodyOf f76) = [c76_0, c76_1, c76_2, c76_3] := by kernel_rfl
theorem F76_1_ok (R : Rt) (p0 : Option Addr) (s1 : ByteArray) (n2 n3 : Int) (ds : Ds) (w : World) (E : Env) (e0 : E 0 = .pointer p0) (e1 : E 1 = .string s1) (e2 : E 2 = .int .i64 n2) (e3 : E 3 = .int .i64 n3) (h : F76_1 R p0 s1 n2 n3 ds w) :
    TrL prog f76.ntmps [c76_0, c76_1, c76_2, c76_3] (F76_q1 R) E ds w :=
  TrL_leaf (X := F76_1 R p0 s1 n2 n3 ds w) (setAll_cons e0 (setAll_cons e1 (setAll_cons e2 (setAll_cons e3 setAll_nil)))) (by kernel_rfl) (by kernel_rfl) h
theorem F76_calls (p0 : Option Addr) (s1 : ByteArray) (n2 n3 : Int) (w : World) (R : Rt) (h : F76_1 R p0 s1 n2 n3 [] w) : Calls prog 76 #[.pointer p0, .string s1, .int .i64 n2, .int .i64 n3] w R :=
  calls_of_L (l := [c76_0, c76_1, c76_2, c76_3]) func76 (by kernel_rfl) (by rw [ntmps76]; exact Nat.le_of_ble_eq_true (by kernel_rfl)) c76_l
    (F76_1_ok R p0 s1 n2 n3 [] w _ rfl rfl rfl rfl h)
noncomputable def c77_0 := cI1 f77 0
noncomputable def c77_1 := cI1 f77 1
noncomputable def c77_2 := cI1 f77 2
noncomputable def c77_3 := cI1 f77 3
noncomputable def c77_4 := cI1 f77 4
noncomputable def c77_5 := cI1 f77 5
noncomputable def c77_6 := cI1 f77 6
noncomputable def c77_7 := cI1 f77 7
noncomputable def c77_6_0 := cJ1 c77_6 0
noncomputable def c77_6_0_0 := cJ1 c77_6_0 0
noncomputable def c77_6_0_1 := cJ1 c77_6_0 1
noncomputable def c77_6_0_2 := cJ1 c77_6_0 2
noncomputable def c77_6_0_3 := cJ1 c77_6_0 3
noncomputable def c77_6_0_2_0 := cJ1 c77_6_0_2 0
noncomputable def c77_6_0_2_1 := cJ1 c77_6_0_2 1
noncomputable def c77_6_0_2_2 := cJ1 c77_6_0_2 2
noncomputable def c77_6_0_2_2_0 := cJ1 c77_6_0_2_2 0
noncomputable def c77_6_0_2_2_0_0 := cJ1 c77_6_0_2_2_0 0
noncomputable def c77_6_0_2_2_0_1 := cJ1 c77_6_0_2_2_0 1
noncomputable def c77_6_0_2_2_0_2 := cJ1 c77_6_0_2_2_0 2
noncomputable def c77_6_0_2_2_0_3 := cJ1 c77_6_0_2_2_0 3
noncomputable def c77_4_0 := cJ1 c77_4 0
noncomputable def c77_4_0_0 := cJ1 c77_4_0 0
noncomputable def c77_4_0_1 := cJ1 c77_4_0 1
noncomputable def c77_4_0_2 := cJ1 c77_4_0 2
def F77_q1 (R : Rt) : EQ := endQ prog f77.results.toList R
def F77_1 (R : Rt) (p0 : Option Addr) (n1 : Int) (s2 : ByteArray) (l11 : SV) (ds : Ds) (w : World) : Prop :=
 ptrE p0 fun a1 =>
 0 <= n1 /\ n1 < (4 : Int) /\
 ∃ m108 : Option Nat, w.cell? ((a1.add 1).add (n1.toNat * 1)) = some (.map m108) /\
 doE prog (Instr.mapUpdate 69 (.map m108) (.string s2) (.slice l11.a l11.len l11.cap)) w fun w2 =>
 runD prog ds w2 fun w3 =>
 R (.returned (.tuple #[])) w3
def F77_k2 (R : Rt) : EP := (fun E ds w => dPtr (E 0) fun p0 => dInt .i64 (E 1) fun n1 => dStr (E 2) fun s2 => dSl (E 11) fun l11 => F77_1 R p0 n1 s2 l11 ds w)
def F77_q3 (R : Rt) : EQ := (thenQ (F77_k2 R) (F77_q1 R))
def F77_q4 (R : Rt) : EQ := (blockQ 2 (F77_q3 R))
def F77_q5 (R : Rt) (J1 : (Int) -> World -> Prop) : EQ := (thenQ (fun E _ w => dInt .i64 (E 12) fun n12 => J1 n12 w) (F77_q4 R))
def F77_2 (R : Rt) (J1 : (Int) -> World -> Prop) (p0 : Option Addr) (n1 : Int) (s2 : ByteArray) (n3 n4 : Int) (l10 l11 : SV) (n12 : Int) (ds : Ds) (w : World) : Prop :=
 J1 (IntKind.i64.wrap (n12 + 1)) w
def F77_k6 (R : Rt) (J1 : (Int) -> World -> Prop) : EP := (fun E ds w => dPtr (E 0) fun p0 => dInt .i64 (E 1) fun n1 => dStr (E 2) fun s2 => dInt .i64 (E 3) fun n3 => dInt .i64 (E 4) fun n4 => dSl (E 10) fun l10 => dSl (E 11) fun l11 => dInt .i64 (E 12) fun n12 => F77_2 R J1 p0 n1 s2 n3 n4 l10 l11 n12 ds w)
def F77_q7 (R : Rt) (J1 : (Int) -> World -> Prop) : EQ := (thenQ (F77_k6 R J1) (F77_q5 R J1))
def F77_q8 (R : Rt) (J1 : (Int) -> World -> Prop) : EQ := (blockQ 3 (F77_q7 R J1))
def F77_q9 (R : Rt) (J1 : (Int) -> World -> Prop) : EQ := (blockQ 4 (F77_q8 R J1))
def F77_q10 (R : Rt) (J1 : (Int) -> World -> Prop) (J2 : (Int) -> World -> Prop) : EQ := (thenQ (fun E _ w => dInt .i64 (E 14) fun n14 => J2 n14 w) (F77_q9 R J1))
def F77_3 (R : Rt) (J1 : (Int) -> World -> Prop) (J2 : (Int) -> World -> Prop) (p0 : Option Addr) (n1 : Int) (s2 : ByteArray) (n3 n4 : Int) (l10 l11 : SV) (n12 : Int) (b13 : Bool) (n14 : Int) (ds : Ds) (w : World) : Prop :=
 J2 (IntKind.i64.wrap (n14 + 1)) w
def F77_k11 (R : Rt) (J1 : (Int) -> World -> Prop) (J2 : (Int) -> World -> Prop) : EP := (fun E ds w => dPtr (E 0) fun p0 => dInt .i64 (E 1) fun n1 => dStr (E 2) fun s2 => dInt .i64 (E 3) fun n3 => dInt .i64 (E 4) fun n4 => dSl (E 10) fun l10 => dSl (E 11) fun l11 => dInt .i64 (E 12) fun n12 => dBl (E 13) fun b13 => dInt .i64 (E 14) fun n14 => F77_3 R J1 J2 p0 n1 s2 n3 n4 l10 l11 n12 b13 n14 ds w)
def F77_4 (R : Rt) (J1 : (Int) -> World -> Prop) (J2 : (Int) -> World -> Prop) (p0 : Option Addr) (n1 : Int) (s2 : ByteArray) (n3 n4 : Int) (l10 l11 : SV) (n12 : Int) (b13 : Bool) (n14 : Int) (ds : Ds) (w : World) : Prop :=
 ∃ a4 : Addr, l11.a = some a4 /\ 0 <= n14 /\ n14 < (l11.len : Int) /\
 ∃ b78 : Bool, w.cell? (a4.add (n14.toNat * 3)) = some (.bool b78) /\
 Br (!b78) (
 Br b13 (
 ∃ a5 : Addr, l10.a = some a5 /\ 0 <= n14 /\ n14 < (l10.len : Int) /\
 ∃ n100 : Int, w.cell? (a5.add (n14.toNat * 1)) = some (.int .u8 n100) /\
 ∃ a6 : Addr, l11.a = some a6 /\ 0 <= n14 /\ n14 < (l11.len : Int) /\
 stA prog 116 (a6.add (n14.toNat * 3)) #[.bool true, .bool false, .int .u8 n100] w fun w7 =>
 F77_3 R J1 J2 p0 n1 s2 n3 n4 l10 l11 n12 b13 n14 ds w7) (
 Br (decide (n14 ≥ n3)) (
 Br (decide (n14 < (IntKind.i64.wrap (n3 + n4)))) (
 ∃ a8 : Addr, l10.a = some a8 /\ 0 <= n14 /\ n14 < (l10.len : Int) /\
 ∃ n100 : Int, w.cell? (a8.add (n14.toNat * 1)) = some (.int .u8 n100) /\
 ∃ a9 : Addr, l11.a = some a9 /\ 0 <= n14 /\ n14 < (l11.len : Int) /\
 stA prog 116 (a9.add (n14.toNat * 3)) #[.bool true, .bool false, .int .u8 n100] w fun w10 =>
 F77_3 R J1 J2 p0 n1 s2 n3 n4 l10 l11 n12 b13 n14 ds w10) (
 F77_3 R J1 J2 p0 n1 s2 n3 n4 l10 l11 n12 b13 n14 ds w)) (
 F77_3 R J1 J2 p0 n1 s2 n3 n4 l10 l11 n12 b13 n14 ds w))) (
 F77_3 R J1 J2 p0 n1 s2 n3 n4 l10 l11 n12 b13 n14 ds w)
def F77_k12 (R : Rt) (J1 : (Int) -> World -> Prop) (J2 : (Int) -> World -> Prop) : EP := (fun E ds w => dPtr (E 0) fun p0 => dInt .i64 (E 1) fun n1 => dStr (E 2) fun s2 => dInt .i64 (E 3) fun n3 => dInt .i64 (E 4) fun n4 => dSl (E 10) fun l10 => dSl (E 11) fun l11 => dInt .i64 (E 12) fun n12 => dBl (E 13) fun b13 => dInt .i64 (E 14) fun n14 => F77_4 R J1 J2 p0 n1 s2 n3 n4 l10 l11 n12 b13 n14 ds w)
def F77_5 (R : Rt) (J1 : (Int) -> World -> Prop) (J2 : (Int) -> World -> Prop) (p0 : Option Addr) (n1 : Int) (s2 : ByteArray) (n3 n4 : Int) (l10 l11 : SV) (n12 : Int) (b13 : Bool) (n14 : Int) (ds : Ds) (w : World) : Prop :=
 Br (decide (n14 < (IntKind.i64.wrap ((IntKind.i64.wrap (n12 + 1)) * 32)))) (
 Br (decide (n14 < (l10.len : Int))) (
 F77_4 R J1 J2 p0 n1 s2 n3 n4 l10 l11 n12 b13 n14 ds w) (
 F77_2 R J1 p0 n1 s2 n3 n4 l10 l11 n12 ds w)) (
 F77_2 R J1 p0 n1 s2 n3 n4 l10 l11 n12 ds w)
def F77_6 (R : Rt) (J1 : (Int) -> World -> Prop) (p0 : Option Addr) (n1 : Int) (s2 : ByteArray) (n3 n4 : Int) (l10 l11 : SV) (n12 : Int) (b13 : Bool) (n14 : Int) (ds : Ds) (w : World) : Prop :=
 loopT (fun (J2 : (Int) -> World -> Prop) (s : Int) (w : World) => F77_5 R J1 J2 p0 n1 s2 n3 n4 l10 l11 n12 b13 s ds w) n14 w
abbrev F77_7 (R : Rt) (J1 : (Int) -> World -> Prop) (p0 : Option Addr) (n1 : Int) (s2 : ByteArray) (n3 n4 : Int) (l10 l11 : SV) (n12 : Int) (b13 : Bool) (n14 : Int) (ds : Ds) (w : World) : Prop := F77_6 R J1 p0 n1 s2 n3 n4 l10 l11 n12 b13 n14 ds w
def F77_k13 (R : Rt) (J1 : (Int) -> World -> Prop) : EP := (fun E ds w => dPtr (E 0) fun p0 => dInt .i64 (E 1) fun n1 => dStr (E 2) fun s2 => dInt .i64 (E 3) fun n3 => dInt .i64 (E 4) fun n4 => dSl (E 10) fun l10 => dSl (E 11) fun l11 => dInt .i64 (E 12) fun n12 => dBl (E 13) fun b13 => dInt .i64 (E 14) fun n14 => F77_7 R J1 p0 n1 s2 n3 n4 l10 l11 n12 b13 n14 ds w)
def F77_8 (R : Rt) (J1 : (Int) -> World -> Prop) (p0 : Option Addr) (n1 : Int) (s2 : ByteArray) (n3 n4 : Int) (l10 l11 : SV) (n12 : Int) (ds : Ds) (w : World) : Prop :=
 Calls prog 84 #[.slice l11.a l11.len l11.cap, .int .i64 n12] w fun e w11 =>
 ∃ b57 : Bool, e = .returned (.bool b57) /\
 F77_7 R J1 p0 n1 s2 n3 n4 l10 l11 n12 (!b57) (IntKind.i64.wrap (n12 * 32)) ds w11
abbrev F77_9 (R : Rt) (J1 : (Int) -> World -> Prop) (p0 : Option Addr) (n1 : Int) (s2 : ByteArray) (n3 n4 : Int) (l10 l11 : SV) (n12 : Int) (ds : Ds) (w : World) : Prop := F77_8 R J1 p0 n1 s2 n3 n4 l10 l11 n12 ds w
def F77_k14 (R : Rt) (J1 : (Int) -> World -> Prop) : EP := (fun E ds w => dPtr (E 0) fun p0 => dInt .i64 (E 1) fun n1 => dStr (E 2) fun s2 => dInt .i64 (E 3) fun n3 => dInt .i64 (E 4) fun n4 => dSl (E 10) fun l10 => dSl (E 11) fun l11 => dInt .i64 (E 12) fun n12 => F77_9 R J1 p0 n1 s2 n3 n4 l10 l11 n12 ds w)
def F77_10 (R : Rt) (J1 : (Int) -> World -> Prop) (p0 : Option Addr) (n1 : Int) (s2 : ByteArray) (n3 n4 : Int) (l10 l11 : SV) (n12 : Int) (ds : Ds) (w : World) : Prop :=
 IntKind.i64 = IntKind.i64 /\ (32 : Int) ≠ 0 /\
 Br (decide (n12 <= (IntKind.i64.wrap ((IntKind.i64.wrap ((IntKind.i64.wrap (n3 + n4)) - 1)).tdiv 32)))) (
 F77_9 R J1 p0 n1 s2 n3 n4 l10 l11 n12 ds w) (
 F77_1 R p0 n1 s2 l11 ds w)
def F77_11 (R : Rt) (p0 : Option Addr) (n1 : Int) (s2 : ByteArray) (n3 n4 : Int) (l10 l11 : SV) (n12 : Int) (ds : Ds) (w : World) : Prop :=
 loopT (fun (J1 : (Int) -> World -> Prop) (s : Int) (w : World) => F77_10 R J1 p0 n1 s2 n3 n4 l10 l11 s ds w) n12 w
abbrev F77_12 (R : Rt) (p0 : Option Addr) (n1 : Int) (s2 : ByteArray) (n3 n4 : Int) (l10 l11 : SV) (n12 : Int) (ds : Ds) (w : World) : Prop := F77_11 R p0 n1 s2 n3 n4 l10 l11 n12 ds w
def F77_k15 (R : Rt) : EP := (fun E ds w => dPtr (E 0) fun p0 => dInt .i64 (E 1) fun n1 => dStr (E 2) fun s2 => dInt .i64 (E 3) fun n3 => dInt .i64 (E 4) fun n4 => dSl (E 10) fun l10 => dSl (E 11) fun l11 => dInt .i64 (E 12) fun n12 => F77_12 R p0 n1 s2 n3 n4 l10 l11 n12 ds w)
def F77_13 (R : Rt) (p0 : Option Addr) (n1 : Int) (s2 : ByteArray) (n3 n4 : Int) (l10 l11 : SV) (ds : Ds) (w : World) : Prop :=
 IntKind.i64 = IntKind.i64 /\ (32 : Int) ≠ 0 /\
 F77_12 R p0 n1 s2 n3 n4 l10 l11 (IntKind.i64.wrap (n3.tdiv 32)) ds w
def F77_k16 (R : Rt) : EP := (fun E ds w => dPtr (E 0) fun p0 => dInt .i64 (E 1) fun n1 => dStr (E 2) fun s2 => dInt .i64 (E 3) fun n3 => dInt .i64 (E 4) fun n4 => dSl (E 10) fun l10 => dSl (E 11) fun l11 => F77_13 R p0 n1 s2 n3 n4 l10 l11 ds w)
def F77_q17 (R : Rt) : EQ := (thenQ (F77_k16 R) (F77_q1 R))
def F77_q18 (R : Rt) : EQ := (blockQ 0 (F77_q17 R))
def F77_q19 (R : Rt) (J1 : (SV) -> World -> Prop) : EQ := (thenQ (fun E _ w => dSl (E 11) fun l11 => J1 l11 w) (F77_q18 R))
def F77_14 (R : Rt) (J1 : (SV) -> World -> Prop) (p0 : Option Addr) (n1 : Int) (s2 : ByteArray) (n3 n4 : Int) (l10 l11 : SV) (ds : Ds) (w : World) : Prop :=
 Br (decide ((l11.len : Int) < (l10.len : Int))) (
 alE (.cells #[.bool false, .bool false, .int .u8 0] 116) w fun r42 w12 =>
 ∃ l43 : SV, ∃ w13 : World, (Builtin.append_ #[114, 114] 114 #[.slice l11.a l11.len l11.cap, .slice (some ⟨r42, 0, none⟩) 1 1]).run prog w12 = .ok (.slice l43.a l43.len l43.cap) w13 /\
 J1 l43 w13) (
 F77_13 R p0 n1 s2 n3 n4 l10 l11 ds w)
def F77_15 (R : Rt) (p0 : Option Addr) (n1 : Int) (s2 : ByteArray) (n3 n4 : Int) (l10 l11 : SV) (ds : Ds) (w : World) : Prop :=
 loopT (fun (J1 : (SV) -> World -> Prop) (s : SV) (w : World) => F77_14 R J1 p0 n1 s2 n3 n4 l10 s ds w) l11 w
abbrev F77_16 (R : Rt) (p0 : Option Addr) (n1 : Int) (s2 : ByteArray) (n3 n4 : Int) (l10 l11 : SV) (ds : Ds) (w : World) : Prop := F77_15 R p0 n1 s2 n3 n4 l10 l11 ds w
def F77_k20 (R : Rt) : EP := (fun E ds w => dPtr (E 0) fun p0 => dInt .i64 (E 1) fun n1 => dStr (E 2) fun s2 => dInt .i64 (E 3) fun n3 => dInt .i64 (E 4) fun n4 => dSl (E 10) fun l10 => dSl (E 11) fun l11 => F77_16 R p0 n1 s2 n3 n4 l10 l11 ds w)
def F77_17 (R : Rt) (p0 : Option Addr) (n1 : Int) (s2 : ByteArray) (n3 n4 : Int) (ds : Ds) (w : World) : Prop :=
 Br (n4 == 0) (
 runD prog ds w fun w14 =>
 R (.returned (.tuple #[])) w14) (
 dwE w fun w15 =>
 ∃ S1 : World -> Prop, S1 w15 /\
 ptrE p0 fun a16 =>
 ∃ l20 : SV, (∀ w', S1 w' -> w'.cell? a16 = some (.slice l20.a l20.len l20.cap)) /\
 Calls prog 42 #[.pointer p0, .string s2] w15 fun e w17 =>
 ∃ n23 : Int, e = .returned (.int .i64 n23) /\
 S1 w17 /\
 ∃ a18 : Addr, l20.a = some a18 /\ 0 <= n23 /\ n23 < (l20.len : Int) /\
 ∃ l26 : SV, (∀ w', S1 w' -> w'.cell? ((a18.add (n23.toNat * 2)).add 1) = some (.slice l26.a l26.len l26.cap)) /\
 ptrE p0 fun a19 =>
 0 <= n1 /\ n1 < (4 : Int) /\
 ∃ m32 : Option Nat, w17.cell? ((a19.add 1).add (n1.toNat * 1)) = some (.map m32) /\
 ∃ l34 : SV, ∃ w20 : World, (Instr.lookup 69 (.map m32) (.string s2) false).run prog w17 = .ok (.slice l34.a l34.len l34.cap) w20 /\
 F77_16 R p0 n1 s2 n3 n4 l26 l34 ds w20)
theorem c77_l : flat (bodyOf f77) = [c77_0, c77_1, c77_2, c77_3, c77_4, c77_5, c77_6, c77_7] := by kernel_rfl
theorem c77_6_l : flat (innerC c77_6) = [c77_6_0] := by kernel_rfl
theorem c77_6_0_l : flat (innerC c77_6_0) = [c77_6_0_0, c77_6_0_1, c77_6_0_2, c77_6_0_3] := by kernel_rfl
theorem c77_6_0_2_l : flat (innerC c77_6_0_2) = [c77_6_0_2_0, c77_6_0_2_1, c77_6_0_2_2] := by kernel_rfl
theorem c77_6_0_2_2_l : flat (innerC c77_6_0_2_2) = [c77_6_0_2_2_0] := by kernel_rfl
theorem c77_6_0_2_2_0_l : flat (innerC c77_6_0_2_2_0) = [c77_6_0_2_2_0_0, c77_6_0_2_2_0_1, c77_6_0_2_2_0_2, c77_6_0_2_2_0_3] := by kernel_rfl
theorem c77_4_l : flat (innerC c77_4) = [c77_4_0] := by kernel_rfl
theorem c77_4_0_l : flat (innerC c77_4_0) = [c77_4_0_0, c77_4_0_1, c77_4_0_2] := by kernel_rfl
theorem F77_1_ok (R : Rt) (p0 : Option Addr) (n1 : Int) (s2 : ByteArray) (l11 : SV) (ds : Ds) (w : World) (E : Env) (e0 : E 0 = .pointer p0) (e1 : E 1 = .int .i64 n1) (e2 : E 2 = .string s2) (e11 : E 11 = .slice l11.a l11.len l11.cap) (h : F77_1 R p0 n1 s2 l11 ds w) :
    TrL prog f77.ntmps [c77_7] (F77_q1 R) E ds w :=
  TrL_leaf (X := F77_1 R p0 n1 s2 l11 ds w) (setAll_cons e0 (setAll_cons e1 (setAll_cons e2 (setAll_cons e11 setAll_nil)))) (by kernel_rfl) (by kernel_rfl) h
theorem F77_2_ok (R : Rt) (J1 : (Int) -> World -> Prop) (p0 : Option Addr) (n1 : Int) (s2 : ByteArray) (n3 n4 : Int) (l10 l11 : SV) (n12 : Int) (ds : Ds) (w : World) (E : Env) (e0 : E 0 = .pointer p0) (e1 : E 1 = .int .i64 n1) (e2 : E 2 = .string s2) (e3 : E 3 = .int .i64 n3) (e4 : E 4 = .int .i64 n4) (e10 : E 10 = .slice l10.a l10.len l10.cap) (e11 : E 11 = .slice l11.a l11.len l11.cap) (e12 : E 12 = .int .i64 n12) (h : F77_2 R J1 p0 n1 s2 n3 n4 l10 l11 n12 ds w) :
    TrL prog f77.ntmps [c77_6_0_3] (F77_q5 R J1) E ds w :=
  TrL_leaf (X := F77_2 R J1 p0 n1 s2 n3 n4 l10 l11 n12 ds w) (setAll_cons e0 (setAll_cons e1 (setAll_cons e2 (setAll_cons e3 (setAll_cons e4 (setAll_cons e10 (setAll_cons e11 (setAll_cons e12 setAll_nil)))))))) (by kernel_rfl) (by kernel_rfl) h
theorem F77_3_ok (R : Rt) (J1 : (Int) -> World -> Prop) (J2 : (Int) -> World -> Prop) (p0 : Option Addr) (n1 : Int) (s2 : ByteArray) (n3 n4 : Int) (l10 l11 : SV) (n12 : Int) (b13 : Bool) (n14 : Int) (ds : Ds) (w : World) (E : Env) (e0 : E 0 = .pointer p0) (e1 : E 1 = .int .i64 n1) (e2 : E 2 = .string s2) (e3 : E 3 = .int .i64 n3) (e4 : E 4 = .int .i64 n4) (e10 : E 10 = .slice l10.a l10.len l10.cap) (e11 : E 11 = .slice l11.a l11.len l11.cap) (e12 : E 12 = .int .i64 n12) (e13 : E 13 = .bool b13) (e14 : E 14 = .int .i64 n14) (h : F77_3 R J1 J2 p0 n1 s2 n3 n4 l10 l11 n12 b13 n14 ds w) :
    TrL prog f77.ntmps [c77_6_0_2_2_0_3] (F77_q10 R J1 J2) E ds w :=
  TrL_leaf (X := F77_3 R J1 J2 p0 n1 s2 n3 n4 l10 l11 n12 b13 n14 ds w) (setAll_cons e0 (setAll_cons e1 (setAll_cons e2 (setAll_cons e3 (setAll_cons e4 (setAll_cons e10 (setAll_cons e11 (setAll_cons e12 (setAll_cons e13 (setAll_cons e14 setAll_nil)))))))))) (by kernel_rfl) (by kernel_rfl) h
theorem F77_4_ok (R : Rt) (J1 : (Int) -> World -> Prop) (J2 : (Int) -> World -> Prop) (p0 : Option Addr) (n1 : Int) (s2 : ByteArray) (n3 n4 : Int) (l10 l11 : SV) (n12 : Int) (b13 : Bool) (n14 : Int) (ds : Ds) (w : World) (E : Env) (e0 : E 0 = .pointer p0) (e1 : E 1 = .int .i64 n1) (e2 : E 2 = .string s2) (e3 : E 3 = .int .i64 n3) (e4 : E 4 = .int .i64 n4) (e10 : E 10 = .slice l10.a l10.len l10.cap) (e11 : E 11 = .slice l11.a l11.len l11.cap) (e12 : E 12 = .int .i64 n12) (e13 : E 13 = .bool b13) (e14 : E 14 = .int .i64 n14) (h : F77_4 R J1 J2 p0 n1 s2 n3 n4 l10 l11 n12 b13 n14 ds w) :
    TrL prog f77.ntmps [c77_6_0_2_2_0_2, c77_6_0_2_2_0_3] (F77_q10 R J1 J2) E ds w :=
  TrL_piece (pre := [c77_6_0_2_2_0_2]) (K := (F77_k11 R J1 J2)) (X := F77_4 R J1 J2 p0 n1 s2 n3 n4 l10 l11 n12 b13 n14 ds w) (setAll_cons e0 (setAll_cons e1 (setAll_cons e2 (setAll_cons e3 (setAll_cons e4 (setAll_cons e10 (setAll_cons e11 (setAll_cons e12 (setAll_cons e13 (setAll_cons e14 setAll_nil)))))))))) (by kernel_rfl) (by kernel_rfl)
    (fun E' ds' w' hD => by
      obtain ⟨p0, e0, hD⟩ := dPtr_elim hD; obtain ⟨n1, e1, hD⟩ := dInt_elim hD; obtain ⟨s2, e2, hD⟩ := dStr_elim hD; obtain ⟨n3, e3, hD⟩ := dInt_elim hD; obtain ⟨n4, e4, hD⟩ := dInt_elim hD; obtain ⟨l10, e10, hD⟩ := dSl_elim hD; obtain ⟨l11, e11, hD⟩ := dSl_elim hD; obtain ⟨n12, e12, hD⟩ := dInt_elim hD; obtain ⟨b13, e13, hD⟩ := dBl_elim hD; obtain ⟨n14, e14, hD⟩ := dInt_elim hD; exact F77_3_ok R J1 J2 p0 n1 s2 n3 n4 l10 l11 n12 b13 n14 ds' w' E' e0 e1 e2 e3 e4 e10 e11 e12 e13 e14 hD) h
theorem F77_5_ok (R : Rt) (J1 : (Int) -> World -> Prop) (J2 : (Int) -> World -> Prop) (p0 : Option Addr) (n1 : Int) (s2 : ByteArray) (n3 n4 : Int) (l10 l11 : SV) (n12 : Int) (b13 : Bool) (n14 : Int) (ds : Ds) (w : World) (E : Env) (e0 : E 0 = .pointer p0) (e1 : E 1 = .int .i64 n1) (e2 : E 2 = .string s2) (e3 : E 3 = .int .i64 n3) (e4 : E 4 = .int .i64 n4) (e10 : E 10 = .slice l10.a l10.len l10.cap) (e11 : E 11 = .slice l11.a l11.len l11.cap) (e12 : E 12 = .int .i64 n12) (e13 : E 13 = .bool b13) (e14 : E 14 = .int .i64 n14) (h : F77_5 R J1 J2 p0 n1 s2 n3 n4 l10 l11 n12 b13 n14 ds w) :
    TrL prog f77.ntmps [c77_6_0_2_2_0_0, c77_6_0_2_2_0_1, c77_6_0_2_2_0_2, c77_6_0_2_2_0_3] (F77_q10 R J1 J2) E ds w :=
  TrL_piece (pre := [c77_6_0_2_2_0_0, c77_6_0_2_2_0_1]) (K := (F77_k12 R J1 J2)) (X := F77_5 R J1 J2 p0 n1 s2 n3 n4 l10 l11 n12 b13 n14 ds w) (setAll_cons e0 (setAll_cons e1 (setAll_cons e2 (setAll_cons e3 (setAll_cons e4 (setAll_cons e10 (setAll_cons e11 (setAll_cons e12 (setAll_cons e13 (setAll_cons e14 setAll_nil)))))))))) (by kernel_rfl) (by kernel_rfl)
    (fun E' ds' w' hD => by
      obtain ⟨p0, e0, hD⟩ := dPtr_elim hD; obtain ⟨n1, e1, hD⟩ := dInt_elim hD; obtain ⟨s2, e2, hD⟩ := dStr_elim hD; obtain ⟨n3, e3, hD⟩ := dInt_elim hD; obtain ⟨n4, e4, hD⟩ := dInt_elim hD; obtain ⟨l10, e10, hD⟩ := dSl_elim hD; obtain ⟨l11, e11, hD⟩ := dSl_elim hD; obtain ⟨n12, e12, hD⟩ := dInt_elim hD; obtain ⟨b13, e13, hD⟩ := dBl_elim hD; obtain ⟨n14, e14, hD⟩ := dInt_elim hD; exact F77_4_ok R J1 J2 p0 n1 s2 n3 n4 l10 l11 n12 b13 n14 ds' w' E' e0 e1 e2 e3 e4 e10 e11 e12 e13 e14 hD) h
theorem F77_6_ok (R : Rt) (J1 : (Int) -> World -> Prop) (p0 : Option Addr) (n1 : Int) (s2 : ByteArray) (n3 n4 : Int) (l10 l11 : SV) (n12 : Int) (b13 : Bool) (n14 : Int) (ds : Ds) (w : World) (E : Env) (e0 : E 0 = .pointer p0) (e1 : E 1 = .int .i64 n1) (e2 : E 2 = .string s2) (e3 : E 3 = .int .i64 n3) (e4 : E 4 = .int .i64 n4) (e10 : E 10 = .slice l10.a l10.len l10.cap) (e11 : E 11 = .slice l11.a l11.len l11.cap) (e12 : E 12 = .int .i64 n12) (e13 : E 13 = .bool b13) (e14 : E 14 = .int .i64 n14) (h : F77_6 R J1 p0 n1 s2 n3 n4 l10 l11 n12 b13 n14 ds w) :
    TrL prog f77.ntmps [c77_6_0_2_2_0] (F77_q9 R J1) E ds w :=
  TrL_one (Tr_loop' (c := innerC c77_6_0_2_2_0) (σ := Int) (enc := (fun (s : Int) (E : Env) => E 14 = .int .i64 s)) (D := (fun E K => dInt .i64 (E 14) fun n14 => K n14)) (F := (fun (J2 : (Int) -> World -> Prop) (s : Int) (w : World) => F77_5 R J1 J2 p0 n1 s2 n3 n4 l10 l11 n12 b13 s ds w)) (s0 := n14) (by kernel_rfl) c77_6_0_2_2_0_l e14 (by kernel_rfl) (fun E K hD => by obtain ⟨n14, e14, hD⟩ := dInt_elim hD; exact ⟨n14, e14, hD⟩)
      (fun J2 s E' w' he ha hF => by
      have e14' := he
      exact F77_5_ok R J1 J2 p0 n1 s2 n3 n4 l10 l11 n12 b13 s ds w' E' ((ha 0 (by kernel_rfl)).trans e0) ((ha 1 (by kernel_rfl)).trans e1) ((ha 2 (by kernel_rfl)).trans e2) ((ha 3 (by kernel_rfl)).trans e3) ((ha 4 (by kernel_rfl)).trans e4) ((ha 10 (by kernel_rfl)).trans e10) ((ha 11 (by kernel_rfl)).trans e11) ((ha 12 (by kernel_rfl)).trans e12) ((ha 13 (by kernel_rfl)).trans e13) e14' hF) h)
theorem F77_7_ok (R : Rt) (J1 : (Int) -> World -> Prop) (p0 : Option Addr) (n1 : Int) (s2 : ByteArray) (n3 n4 : Int) (l10 l11 : SV) (n12 : Int) (b13 : Bool) (n14 : Int) (ds : Ds) (w : World) (E : Env) (e0 : E 0 = .pointer p0) (e1 : E 1 = .int .i64 n1) (e2 : E 2 = .string s2) (e3 : E 3 = .int .i64 n3) (e4 : E 4 = .int .i64 n4) (e10 : E 10 = .slice l10.a l10.len l10.cap) (e11 : E 11 = .slice l11.a l11.len l11.cap) (e12 : E 12 = .int .i64 n12) (e13 : E 13 = .bool b13) (e14 : E 14 = .int .i64 n14) (h : F77_7 R J1 p0 n1 s2 n3 n4 l10 l11 n12 b13 n14 ds w) :
    TrL prog f77.ntmps [c77_6_0_2_2] (F77_q8 R J1) E ds w :=
  TrL_one (Tr_block' (c := innerC c77_6_0_2_2) (by kernel_rfl) c77_6_0_2_2_l (F77_6_ok R J1 p0 n1 s2 n3 n4 l10 l11 n12 b13 n14 ds w E e0 e1 e2 e3 e4 e10 e11 e12 e13 e14 h))
theorem F77_8_ok (R : Rt) (J1 : (Int) -> World -> Prop) (p0 : Option Addr) (n1 : Int) (s2 : ByteArray) (n3 n4 : Int) (l10 l11 : SV) (n12 : Int) (ds : Ds) (w : World) (E : Env) (e0 : E 0 = .pointer p0) (e1 : E 1 = .int .i64 n1) (e2 : E 2 = .string s2) (e3 : E 3 = .int .i64 n3) (e4 : E 4 = .int .i64 n4) (e10 : E 10 = .slice l10.a l10.len l10.cap) (e11 : E 11 = .slice l11.a l11.len l11.cap) (e12 : E 12 = .int .i64 n12) (h : F77_8 R J1 p0 n1 s2 n3 n4 l10 l11 n12 ds w) :
    TrL prog f77.ntmps [c77_6_0_2_0, c77_6_0_2_1, c77_6_0_2_2] (F77_q8 R J1) E ds w :=
  TrL_piece (pre := [c77_6_0_2_0, c77_6_0_2_1]) (K := (F77_k13 R J1)) (X := F77_8 R J1 p0 n1 s2 n3 n4 l10 l11 n12 ds w) (setAll_cons e0 (setAll_cons e1 (setAll_cons e2 (setAll_cons e3 (setAll_cons e4 (setAll_cons e10 (setAll_cons e11 (setAll_cons e12 setAll_nil)))))))) (by kernel_rfl) (by kernel_rfl)
    (fun E' ds' w' hD => by
      obtain ⟨p0, e0, hD⟩ := dPtr_elim hD; obtain ⟨n1, e1, hD⟩ := dInt_elim hD; obtain ⟨s2, e2, hD⟩ := dStr_elim hD; obtain ⟨n3, e3, hD⟩ := dInt_elim hD; obtain ⟨n4, e4, hD⟩ := dInt_elim hD; obtain ⟨l10, e10, hD⟩ := dSl_elim hD; obtain ⟨l11, e11, hD⟩ := dSl_elim hD; obtain ⟨n12, e12, hD⟩ := dInt_elim hD; obtain ⟨b13, e13, hD⟩ := dBl_elim hD; obtain ⟨n14, e14, hD⟩ := dInt_elim hD; exact F77_7_ok R J1 p0 n1 s2 n3 n4 l10 l11 n12 b13 n14 ds' w' E' e0 e1 e2 e3 e4 e10 e11 e12 e13 e14 hD) h
theorem F77_9_ok (R : Rt) (J1 : (Int) -> World -> Prop) (p0 : Option Addr) (n1 : Int) (s2 : ByteArray) (n3 n4 : Int) (l10 l11 : SV) (n12 : Int) (ds : Ds) (w : World) (E : Env) (e0 : E 0 = .pointer p0) (e1 : E 1 = .int .i64 n1) (e2 : E 2 = .string s2) (e3 : E 3 = .int .i64 n3) (e4 : E 4 = .int .i64 n4) (e10 : E 10 = .slice l10.a l10.len l10.cap) (e11 : E 11 = .slice l11.a l11.len l11.cap) (e12 : E 12 = .int .i64 n12) (h : F77_9 R J1 p0 n1 s2 n3 n4 l10 l11 n12 ds w) :
    TrL prog f77.ntmps [c77_6_0_2, c77_6_0_3] (F77_q5 R J1) E ds w :=
  TrL_head (K := (F77_k6 R J1)) (Tr_block' (c := innerC c77_6_0_2) (by kernel_rfl) c77_6_0_2_l (F77_8_ok R J1 p0 n1 s2 n3 n4 l10 l11 n12 ds w E e0 e1 e2 e3 e4 e10 e11 e12 h))
    (fun E' ds' w' hD => by
      obtain ⟨p0, e0, hD⟩ := dPtr_elim hD; obtain ⟨n1, e1, hD⟩ := dInt_elim hD; obtain ⟨s2, e2, hD⟩ := dStr_elim hD; obtain ⟨n3, e3, hD⟩ := dInt_elim hD; obtain ⟨n4, e4, hD⟩ := dInt_elim hD; obtain ⟨l10, e10, hD⟩ := dSl_elim hD; obtain ⟨l11, e11, hD⟩ := dSl_elim hD; obtain ⟨n12, e12, hD⟩ := dInt_elim hD; exact F77_2_ok R J1 p0 n1 s2 n3 n4 l10 l11 n12 ds' w' E' e0 e1 e2 e3 e4 e10 e11 e12 hD)
theorem F77_10_ok (R : Rt) (J1 : (Int) -> World -> Prop) (p0 : Option Addr) (n1 : Int) (s2 : ByteArray) (n3 n4 : Int) (l10 l11 : SV) (n12 : Int) (ds : Ds) (w : World) (E : Env) (e0 : E 0 = .pointer p0) (e1 : E 1 = .int .i64 n1) (e2 : E 2 = .string s2) (e3 : E 3 = .int .i64 n3) (e4 : E 4 = .int .i64 n4) (e10 : E 10 = .slice l10.a l10.len l10.cap) (e11 : E 11 = .slice l11.a l11.len l11.cap) (e12 : E 12 = .int .i64 n12) (h : F77_10 R J1 p0 n1 s2 n3 n4 l10 l11 n12 ds w) :
    TrL prog f77.ntmps [c77_6_0_0, c77_6_0_1, c77_6_0_2, c77_6_0_3] (F77_q5 R J1) E ds w :=
  TrL_piece (pre := [c77_6_0_0, c77_6_0_1]) (K := (F77_k14 R J1)) (X := F77_10 R J1 p0 n1 s2 n3 n4 l10 l11 n12 ds w) (setAll_cons e0 (setAll_cons e1 (setAll_cons e2 (setAll_cons e3 (setAll_cons e4 (setAll_cons e10 (setAll_cons e11 (setAll_cons e12 setAll_nil)))))))) (by kernel_rfl) (by kernel_rfl)
    (fun E' ds' w' hD => by
      obtain ⟨p0, e0, hD⟩ := dPtr_elim hD; obtain ⟨n1, e1, hD⟩ := dInt_elim hD; obtain ⟨s2, e2, hD⟩ := dStr_elim hD; obtain ⟨n3, e3, hD⟩ := dInt_elim hD; obtain ⟨n4, e4, hD⟩ := dInt_elim hD; obtain ⟨l10, e10, hD⟩ := dSl_elim hD; obtain ⟨l11, e11, hD⟩ := dSl_elim hD; obtain ⟨n12, e12, hD⟩ := dInt_elim hD; exact F77_9_ok R J1 p0 n1 s2 n3 n4 l10 l11 n12 ds' w' E' e0 e1 e2 e3 e4 e10 e11 e12 hD) h
theorem F77_11_ok (R : Rt) (p0 : Option Addr) (n1 : Int) (s2 : ByteArray) (n3 n4 : Int) (l10 l11 : SV) (n12 : Int) (ds : Ds) (w : World) (E : Env) (e0 : E 0 = .pointer p0) (e1 : E 1 = .int .i64 n1) (e2 : E 2 = .string s2) (e3 : E 3 = .int .i64 n3) (e4 : E 4 = .int .i64 n4) (e10 : E 10 = .slice l10.a l10.len l10.cap) (e11 : E 11 = .slice l11.a l11.len l11.cap) (e12 : E 12 = .int .i64 n12) (h : F77_11 R p0 n1 s2 n3 n4 l10 l11 n12 ds w) :
    TrL prog f77.ntmps [c77_6_0] (F77_q4 R) E ds w :=
  TrL_one (Tr_loop' (c := innerC c77_6_0) (σ := Int) (enc := (fun (s : Int) (E : Env) => E 12 = .int .i64 s)) (D := (fun E K => dInt .i64 (E 12) fun n12 => K n12)) (F := (fun (J1 : (Int) -> World -> Prop) (s : Int) (w : World) => F77_10 R J1 p0 n1 s2 n3 n4 l10 l11 s ds w)) (s0 := n12) (by kernel_rfl) c77_6_0_l e12 (by kernel_rfl) (fun E K hD => by obtain ⟨n12, e12, hD⟩ := dInt_elim hD; exact ⟨n12, e12, hD⟩)
      (fun J1 s E' w' he ha hF => by
      have e12' := he
      exact F77_10_ok R J1 p0 n1 s2 n3 n4 l10 l11 s ds w' E' ((ha 0 (by kernel_rfl)).trans e0) ((ha 1 (by kernel_rfl)).trans e1) ((ha 2 (by kernel_rfl)).trans e2) ((ha 3 (by kernel_rfl)).trans e3) ((ha 4 (by kernel_rfl)).trans e4) ((ha 10 (by kernel_rfl)).trans e10) ((ha 11 (by kernel_rfl)).trans e11) e12' hF) h)
theorem F77_12_ok (R : Rt) (p0 : Option Addr) (n1 : Int) (s2 : ByteArray) (n3 n4 : Int) (l10 l11 : SV) (n12 : Int) (ds : Ds) (w : World) (E : Env) (e0 : E 0 = .pointer p0) (e1 : E 1 = .int .i64 n1) (e2 : E 2 = .string s2) (e3 : E 3 = .int .i64 n3) (e4 : E 4 = .int .i64 n4) (e10 : E 10 = .slice l10.a l10.len l10.cap) (e11 : E 11 = .slice l11.a l11.len l11.cap) (e12 : E 12 = .int .i64 n12) (h : F77_12 R p0 n1 s2 n3 n4 l10 l11 n12 ds w) :
    TrL prog f77.ntmps [c77_6, c77_7] (F77_q1 R) E ds w :=
  TrL_head (K := (F77_k2 R)) (Tr_block' (c := innerC c77_6) (by kernel_rfl) c77_6_l (F77_11_ok R p0 n1 s2 n3 n4 l10 l11 n12 ds w E e0 e1 e2 e3 e4 e10 e11 e12 h))
    (fun E' ds' w' hD => by
      obtain ⟨p0, e0, hD⟩ := dPtr_elim hD; obtain ⟨n1, e1, hD⟩ := dInt_elim hD; obtain ⟨s2, e2, hD⟩ := dStr_elim hD; obtain ⟨l11, e11, hD⟩ := dSl_elim hD; exact F77_1_ok R p0 n1 s2 l11 ds' w' E' e0 e1 e2 e11 hD)
theorem F77_13_ok (R : Rt) (p0 : Option Addr) (n1 : Int) (s2 : ByteArray) (n3 n4 : Int) (l10 l11 : SV) (ds : Ds) (w : World) (E : Env) (e0 : E 0 = .pointer p0) (e1 : E 1 = .int .i64 n1) (e2 : E 2 = .string s2) (e3 : E 3 = .int .i64 n3) (e4 : E 4 = .int .i64 n4) (e10 : E 10 = .slice l10.a l10.len l10.cap) (e11 : E 11 = .slice l11.a l11.len l11.cap) (h : F77_13 R p0 n1 s2 n3 n4 l10 l11 ds w) :
    TrL prog f77.ntmps [c77_5, c77_6, c77_7] (F77_q1 R) E ds w :=
  TrL_piece (pre := [c77_5]) (K := (F77_k15 R)) (X := F77_13 R p0 n1 s2 n3 n4 l10 l11 ds w) (setAll_cons e0 (setAll_cons e1 (setAll_cons e2 (setAll_cons e3 (setAll_cons e4 (setAll_cons e10 (setAll_cons e11 setAll_nil))))))) (by kernel_rfl) (by kernel_rfl)
    (fun E' ds' w' hD => by
      obtain ⟨p0, e0, hD⟩ := dPtr_elim hD; obtain ⟨n1, e1, hD⟩ := dInt_elim hD; obtain ⟨s2, e2, hD⟩ := dStr_elim hD; obtain ⟨n3, e3, hD⟩ := dInt_elim hD; obtain ⟨n4, e4, hD⟩ := dInt_elim hD; obtain ⟨l10, e10, hD⟩ := dSl_elim hD; obtain ⟨l11, e11, hD⟩ := dSl_elim hD; obtain ⟨n12, e12, hD⟩ := dInt_elim hD; exact F77_12_ok R p0 n1 s2 n3 n4 l10 l11 n12 ds' w' E' e0 e1 e2 e3 e4 e10 e11 e12 hD) h
theorem F77_14_ok (R : Rt) (J1 : (SV) -> World -> Prop) (p0 : Option Addr) (n1 : Int) (s2 : ByteArray) (n3 n4 : Int) (l10 l11 : SV) (ds : Ds) (w : World) (E : Env) (e0 : E 0 = .pointer p0) (e1 : E 1 = .int .i64 n1) (e2 : E 2 = .string s2) (e3 : E 3 = .int .i64 n3) (e4 : E 4 = .int .i64 n4) (e10 : E 10 = .slice l10.a l10.len l10.cap) (e11 : E 11 = .slice l11.a l11.len l11.cap) (h : F77_14 R J1 p0 n1 s2 n3 n4 l10 l11 ds w) :
    TrL prog f77.ntmps [c77_4_0_0, c77_4_0_1, c77_4_0_2] (F77_q19 R J1) E ds w :=
  TrL_leaf (X := F77_14 R J1 p0 n1 s2 n3 n4 l10 l11 ds w) (setAll_cons e0 (setAll_cons e1 (setAll_cons e2 (setAll_cons e3 (setAll_cons e4 (setAll_cons e10 (setAll_cons e11 setAll_nil))))))) (by kernel_rfl) (by kernel_rfl) h
theorem F77_15_ok (R : Rt) (p0 : Option Addr) (n1 : Int) (s2 : ByteArray) (n3 n4 : Int) (l10 l11 : SV) (ds : Ds) (w : World) (E : Env) (e0 : E 0 = .pointer p0) (e1 : E 1 = .int .i64 n1) (e2 : E 2 = .string s2) (e3 : E 3 = .int .i64 n3) (e4 : E 4 = .int .i64 n4) (e10 : E 10 = .slice l10.a l10.len l10.cap) (e11 : E 11 = .slice l11.a l11.len l11.cap) (h : F77_15 R p0 n1 s2 n3 n4 l10 l11 ds w) :
    TrL prog f77.ntmps [c77_4_0] (F77_q18 R) E ds w :=
  TrL_one (Tr_loop' (c := innerC c77_4_0) (σ := SV) (enc := (fun (s : SV) (E : Env) => E 11 = .slice s.a s.len s.cap)) (D := (fun E K => dSl (E 11) fun l11 => K l11)) (F := (fun (J1 : (SV) -> World -> Prop) (s : SV) (w : World) => F77_14 R J1 p0 n1 s2 n3 n4 l10 s ds w)) (s0 := l11) (by kernel_rfl) c77_4_0_l e11 (by kernel_rfl) (fun E K hD => by obtain ⟨l11, e11, hD⟩ := dSl_elim hD; exact ⟨l11, e11, hD⟩)
      (fun J1 s E' w' he ha hF => by
      have e11' := he
      exact F77_14_ok R J1 p0 n1 s2 n3 n4 l10 s ds w' E' ((ha 0 (by kernel_rfl)).trans e0) ((ha 1 (by kernel_rfl)).trans e1) ((ha 2 (by kernel_rfl)).trans e2) ((ha 3 (by kernel_rfl)).trans e3) ((ha 4 (by kernel_rfl)).trans e4) ((ha 10 (by kernel_rfl)).trans e10) e11' hF) h)
theorem F77_16_ok (R : Rt) (p0 : Option Addr) (n1 : Int) (s2 : ByteArray) (n3 n4 : Int) (l10 l11 : SV) (ds : Ds) (w : World) (E : Env) (e0 : E 0 = .pointer p0) (e1 : E 1 = .int .i64 n1) (e2 : E 2 = .string s2) (e3 : E 3 = .int .i64 n3) (e4 : E 4 = .int .i64 n4) (e10 : E 10 = .slice l10.a l10.len l10.cap) (e11 : E 11 = .slice l11.a l11.len l11.cap) (h : F77_16 R p0 n1 s2 n3 n4 l10 l11 ds w) :
    TrL prog f77.ntmps [c77_4, c77_5, c77_6, c77_7] (F77_q1 R) E ds w :=
  TrL_head (K := (F77_k16 R)) (Tr_block' (c := innerC c77_4) (by kernel_rfl) c77_4_l (F77_15_ok R p0 n1 s2 n3 n4 l10 l11 ds w E e0 e1 e2 e3 e4 e10 e11 h))
    (fun E' ds' w' hD => by
      obtain ⟨p0, e0, hD⟩ := dPtr_elim hD; obtain ⟨n1, e1, hD⟩ := dInt_elim hD; obtain ⟨s2, e2, hD⟩ := dStr_elim hD; obtain ⟨n3, e3, hD⟩ := dInt_elim hD; obtain ⟨n4, e4, hD⟩ := dInt_elim hD; obtain ⟨l10, e10, hD⟩ := dSl_elim hD; obtain ⟨l11, e11, hD⟩ := dSl_elim hD; exact F77_13_ok R p0 n1 s2 n3 n4 l10 l11 ds' w' E' e0 e1 e2 e3 e4 e10 e11 hD)
theorem F77_17_ok (R : Rt) (p0 : Option Addr) (n1 : Int) (s2 : ByteArray) (n3 n4 : Int) (ds : Ds) (w : World) (E : Env) (e0 : E 0 = .pointer p0) (e1 : E 1 = .int .i64 n1) (e2 : E 2 = .string s2) (e3 : E 3 = .int .i64 n3) (e4 : E 4 = .int .i64 n4) (h : F77_17 R p0 n1 s2 n3 n4 ds w) :
    TrL prog f77.ntmps [c77_0, c77_1, c77_2, c77_3, c77_4, c77_5, c77_6, c77_7] (F77_q1 R) E ds w :=
  TrL_piece (pre := [c77_0, c77_1, c77_2, c77_3]) (K := (F77_k20 R)) (X := F77_17 R p0 n1 s2 n3 n4 ds w) (setAll_cons e0 (setAll_cons e1 (setAll_cons e2 (setAll_cons e3 (setAll_cons e4 setAll_nil))))) (by kernel_rfl) (by kernel_rfl)
    (fun E' ds' w' hD => by
      obtain ⟨p0, e0, hD⟩ := dPtr_elim hD; obtain ⟨n1, e1, hD⟩ := dInt_elim hD; obtain ⟨s2, e2, hD⟩ := dStr_elim hD; obtain ⟨n3, e3, hD⟩ := dInt_elim hD; obtain ⟨n4, e4, hD⟩ := dInt_elim hD; obtain ⟨l10, e10, hD⟩ := dSl_elim hD; obtain ⟨l11, e11, hD⟩ := dSl_elim hD; exact F77_16_ok R p0 n1 s2 n3 n4 l10 l11 ds' w' E' e0 e1 e2 e3 e4 e10 e11 hD) h
theorem F77_calls (p0 : Option Addr) (n1 : Int) (s2 : ByteArray) (n3 n4 : Int) (w : World) (R : Rt) (h : F77_17 R p0 n1 s2 n3 n4 [] w) : Calls prog 77 #[.pointer p0, .int .i64 n1, .string s2, .int .i64 n3, .int .i64 n4] w R :=
  calls_of_L (l := [c77_0, c77_1, c77_2, c77_3, c77_4, c77_5, c77_6, c77_7]) func77 (by kernel_rfl) (by rw [ntmps77]; exact Nat.le_of_ble_eq_true (by kernel_rfl)) c77_l
    (F77_17_ok R p0 n1 s2 n3 n4 [] w _ rfl rfl rfl rfl rfl h)
noncomputable def c78_0 := cI1 f78 0
noncomputable def c78_1 := cI1 f78 1
noncomputable def c78_2 := cI1 f78 2
def F78_q1 (R : Rt) : EQ := endQ prog f78.results.toList R
def F78_1 (R : Rt) (n0_0 : Int) (s0_1 : ByteArray) (n0_2 n0_3 : Int) (s1 : ByteArray) (n2 n3 : Int) (ds : Ds) (w : World) : Prop :=
 alE (.cells #[.int .i64 n0_0, .string s0_1, .int .i64 n0_2, .int .i64 n0_3] 127) w fun r4 w1 =>
 ∃ s10 : ByteArray, w1.cell? ((⟨r4, 0, none⟩ : Addr).add 1) = some (.string s10) /\
 Br (s10.toList == s1.toList) (
 ∃ n15 : Int, w1.cell? ((⟨r4, 0, none⟩ : Addr).add 2) = some (.int .i64 n15) /\
 Br (decide (n15 < (IntKind.i64.wrap (n2 + n3)))) (
 ∃ n24 : Int, w1.cell? ((⟨r4, 0, none⟩ : Addr).add 2) = some (.int .i64 n24) /\
 ∃ n26 : Int, w1.cell? ((⟨r4, 0, none⟩ : Addr).add 3) = some (.int .i64 n26) /\
 runD prog ds w1 fun w2 =>
 R (.returned (.bool (decide (n2 < (IntKind.i64.wrap (n24 + n26)))))) w2) (
 runD prog ds w1 fun w3 =>
 R (.returned (.bool false)) w3)) (
 runD prog ds w1 fun w4 =>
 R (.returned (.bool false)) w4)
theorem c78_l : flat (bodyOf f78) = [c78_0, c78_1, c78_2] := by kernel_rfl
theorem F78_1_ok (R : Rt) (n0_0 : Int) (s0_1 : ByteArray) (n0_2 n0_3 : Int) (s1 : ByteArray) (n2 n3 : Int) (ds : Ds) (w : World) (E : Env) (e0 : E 0 = .agg #[.int .i64 n0_0, .string s0_1, .int .i64 n0_2, .int .i64 n0_3]) (e1 : E 1 = .string s1) (e2 : E 2 = .int .i64 n2) (e3 : E 3 = .int .i64 n3) (h : F78_1 R n0_0 s0_1 n0_2 n0_3 s1 n2 n3 ds w) :
    TrL prog f78.ntmps [c78_0, c78_1, c78_2] (F78_q1 R) E ds w :=
  TrL_leaf (X := F78_1 R n0_0 s0_1 n0_2 n0_3 s1 n2 n3 ds w) (setAll_cons e0 (setAll_cons e1 (setAll_cons e2 (setAll_cons e3 setAll_nil)))) (by kernel_rfl) (by kernel_rfl) h
theorem F78_calls (n0_0 : Int) (s0_1 : ByteArray) (n0_2 n0_3 : Int) (s1 : ByteArray) (n2 n3 : Int) (w : World) (R : Rt) (h : F78_1 R n0_0 s0_1 n0_2 n0_3 s1 n2 n3 [] w) : Calls prog 78 #[.agg #[.int .i64 n0_0, .string s0_1, .int .i64 n0_2, .int .i64 n0_3], .string s1, .int .i64 n2, .int .i64 n3] w R :=
  calls_of_L (l := [c78_0, c78_1, c78_2]) func78 (by kernel_rfl) (by rw [ntmps78]; exact Nat.le_of_ble_eq_true (by kernel_rfl)) c78_l
    (F78_1_ok R n0_0 s0_1 n0_2 n0_3 s1 n2 n3 [] w _ rfl rfl rfl rfl h)
noncomputable def c79_0 := cI1 f79 0
noncomputable def c79_1 := cI1 f79 1
noncomputable def c79_2 := cI1 f79 2
noncomputable def c79_3 := cI1 f79 3
def F79_q1 (R : Rt) : EQ := endQ prog f79.results.toList R
def F79_1 (R : Rt) (l0 : SV) (n1 n2 n3 : Int) (ds : Ds) (w : World) : Prop :=
 IntKind.i64 = IntKind.i64 /\ (32 : Int) ≠ 0 /\
 ∃ a1 : Addr, l0.a = some a1 /\ 0 <= n1 /\ n1 < (l0.len : Int) /\
 ∃ b16 : Bool, w.cell? (a1.add (n1.toNat * 3)) = some (.bool b16) /\
 Br b16 (
 IntKind.i64 = IntKind.i64 /\ (32 : Int) ≠ 0 /\
 Br (decide ((IntKind.i64.wrap (n1.tdiv 32)) ≥ (IntKind.i64.wrap (n2.tdiv 32)))) (
 IntKind.i64 = IntKind.i64 /\ (32 : Int) ≠ 0 /\
 runD prog ds w fun w2 =>
 R (.returned (.bool (decide ((IntKind.i64.wrap (n1.tdiv 32)) <= (IntKind.i64.wrap ((IntKind.i64.wrap ((IntKind.i64.wrap (n2 + n3)) - 1)).tdiv 32)))))) w2) (
 runD prog ds w fun w3 =>
 R (.returned (.bool false)) w3)) (
 runD prog ds w fun w4 =>
 R (.returned (.bool false)) w4)
theorem c79_l : flat (bodyOf f79) = [c79_0, c79_1, c79_2, c79_3] := by kernel_rfl
theorem F79_1_ok (R : Rt) (l0 : SV) (n1 n2 n3 : Int) (ds : Ds) (w : World) (E : Env) (e0 : E 0 = .slice l0.a l0.len l0.cap) (e1 : E 1 = .int .i64 n1) (e2 : E 2 = .int .i64 n2) (e3 : E 3 = .int .i64 n3) (h : F79_1 R l0 n1 n2 n3 ds w) :
    TrL prog f79.ntmps [c79_0, c79_1, c79_2, c79_3] (F79_q1 R) E ds w :=
  TrL_leaf (X := F79_1 R l0 n1 n2 n3 ds w) (setAll_cons e0 (setAll_cons e1 (setAll_cons e2 (setAll_cons e3 setAll_nil)))) (by kernel_rfl) (by kernel_rfl) h
theorem F79_calls (l0 : SV) (n1 n2 n3 : Int) (w : World) (R : Rt) (h : F79_1 R l0 n1 n2 n3 [] w) : Calls prog 79 #[.slice l0.a l0.len l0.cap, .int .i64 n1, .int .i64 n2, .int .i64 n3] w R :=
  calls_of_L (l := [c79_0, c79_1, c79_2, c79_3]) func79 (by kernel_rfl) (by rw [ntmps79]; exact Nat.le_of_ble_eq_true (by kernel_rfl)) c79_l
    (F79_1_ok R l0 n1 n2 n3 [] w _ rfl rfl rfl rfl h)
noncomputable def c82_0 := cI1 f82 0
noncomputable def c82_1 := cI1 f82 1
def F82_q1 (R : Rt) : EQ := endQ prog f82.results.toList R
def F82_1 (R : Rt) (p0 : Option Addr) (s1 : ByteArray) (n2 : Int) (l3 : SV) (ds : Ds) (w : World) : Prop :=
 ∃ a1 : Addr, l3.a = some a1 /\ 0 <= n2 /\ n2 < (l3.len : Int) /\
 ∃ b12 : Bool, w.cell? ((a1.add (n2.toNat * 3)).add 1) = some (.bool b12) /\
 Br b12 (
 dwE w fun w2 =>
 ∃ S1 : World -> Prop, S1 w2 /\
 ptrE p0 fun a3 =>
 ∃ l16 : SV, (∀ w', S1 w' -> w'.cell? a3 = some (.slice l16.a l16.len l16.cap)) /\
 ∃ a4 : Addr, l3.a = some a4 /\ 0 <= n2 /\ n2 < (l3.len : Int) /\
 ∃ n28 : Int, (∀ w', S1 w' -> w'.cell? ((a4.add (n2.toNat * 3)).add 2) = some (.int .u8 n28)) /\
 Calls prog 42 #[.pointer p0, .string s1] w2 fun e w5 =>
 ∃ n19 : Int, e = .returned (.int .i64 n19) /\
 S1 w5 /\
 ∃ a6 : Addr, l16.a = some a6 /\ 0 <= n19 /\ n19 < (l16.len : Int) /\
 ∃ l22 : SV, (∀ w', S1 w' -> w'.cell? ((a6.add (n19.toNat * 2)).add 1) = some (.slice l22.a l22.len l22.cap)) /\
 ∃ a7 : Addr, l22.a = some a7 /\ 0 <= n2 /\ n2 < (l22.len : Int) /\
 st1 (a7.add (n2.toNat * 1)) (.int .u8 n28) w5 fun w8 =>
 ∃ a9 : Addr, l3.a = some a9 /\ 0 <= n2 /\ n2 < (l3.len : Int) /\
 st1 ((a9.add (n2.toNat * 3)).add 1) (.bool false) w8 fun w10 =>
 runD prog ds w10 fun w11 =>
 R (.returned (.tuple #[])) w11) (
 runD prog ds w fun w12 =>
 R (.returned (.tuple #[])) w12)
theorem c82_l : flat (bodyOf f82) = [c82_0, c82_1] := by kernel_rfl
theorem F82_1_ok (R : Rt) (p0 : Option Addr) (s1 : ByteArray) (n2 : Int) (l3 : SV) (ds : Ds) (w : World) (E : Env) (e0 : E 0 = .pointer p0) (e1 : E 1 = .string s1) (e2 : E 2 = .int .i64 n2) (e3 : E 3 = .slice l3.a l3.len l3.cap) (h : F82_1 R p0 s1 n2 l3 ds w) :
    TrL prog f82.ntmps [c82_0, c82_1] (F82_q1 R) E ds w :=
  TrL_leaf (X := F82_1 R p0 s1 n2 l3 ds w) (setAll_cons e0 (setAll_cons e1 (setAll_cons e2 (setAll_cons e3 setAll_nil)))) (by kernel_rfl) (by kernel_rfl) h
theorem F82_calls (p0 : Option Addr) (s1 : ByteArray) (n2 : Int) (l3 : SV) (w : World) (R : Rt) (h : F82_1 R p0 s1 n2 l3 [] w) : Calls prog 82 #[.pointer p0, .string s1, .int .i64 n2, .slice l3.a l3.len l3.cap] w R :=
  calls_of_L (l := [c82_0, c82_1]) func82 (by kernel_rfl) (by rw [ntmps82]; exact Nat.le_of_ble_eq_true (by kernel_rfl)) c82_l
    (F82_1_ok R p0 s1 n2 l3 [] w _ rfl rfl rfl rfl h)
noncomputable def c84_0 := cI1 f84 0
noncomputable def c84_1 := cI1 f84 1
noncomputable def c84_2 := cI1 f84 2
noncomputable def c84_3 := cI1 f84 3
noncomputable def c84_4 := cI1 f84 4
noncomputable def c84_2_0 := cJ1 c84_2 0
noncomputable def c84_2_0_0 := cJ1 c84_2_0 0
noncomputable def c84_2_0_1 := cJ1 c84_2_0 1
noncomputable def c84_2_0_2 := cJ1 c84_2_0 2
noncomputable def c84_2_0_3 := cJ1 c84_2_0 3
def F84_q1 (R : Rt) : EQ := endQ prog f84.results.toList R
def F84_1 (R : Rt) (ds : Ds) (w : World) : Prop :=
 runD prog ds w fun w1 =>
 R (.returned (.bool false)) w1
def F84_k2 (R : Rt) : EP := (fun E ds w => F84_1 R ds w)
def F84_q3 (R : Rt) : EQ := (thenQ (F84_k2 R) (F84_q1 R))
def F84_q4 (R : Rt) : EQ := (blockQ 0 (F84_q3 R))
def F84_q5 (R : Rt) (J1 : (Int) -> World -> Prop) : EQ := (thenQ (fun E _ w => dInt .i64 (E 5) fun n5 => J1 n5 w) (F84_q4 R))
def F84_2 (R : Rt) (J1 : (Int) -> World -> Prop) (l0 : SV) (n1 n5 : Int) (ds : Ds) (w : World) : Prop :=
 Br (decide (n5 < (IntKind.i64.wrap ((IntKind.i64.wrap (n1 + 1)) * 32)))) (
 Br (decide (n5 < (l0.len : Int))) (
 ∃ a2 : Addr, l0.a = some a2 /\ 0 <= n5 /\ n5 < (l0.len : Int) /\
 ∃ b25 : Bool, w.cell? (a2.add (n5.toNat * 3)) = some (.bool b25) /\
 Br b25 (
 runD prog ds w fun w3 =>
 R (.returned (.bool true)) w3) (
 J1 (IntKind.i64.wrap (n5 + 1)) w)) (
 F84_1 R ds w)) (
 F84_1 R ds w)
def F84_3 (R : Rt) (l0 : SV) (n1 n5 : Int) (ds : Ds) (w : World) : Prop :=
 loopT (fun (J1 : (Int) -> World -> Prop) (s : Int) (w : World) => F84_2 R J1 l0 n1 s ds w) n5 w
abbrev F84_4 (R : Rt) (l0 : SV) (n1 n5 : Int) (ds : Ds) (w : World) : Prop := F84_3 R l0 n1 n5 ds w
def F84_k6 (R : Rt) : EP := (fun E ds w => dSl (E 0) fun l0 => dInt .i64 (E 1) fun n1 => dInt .i64 (E 5) fun n5 => F84_4 R l0 n1 n5 ds w)
def F84_5 (R : Rt) (l0 : SV) (n1 : Int) (ds : Ds) (w : World) : Prop :=
 F84_4 R l0 n1 (IntKind.i64.wrap (n1 * 32)) ds w
theorem c84_l : flat (bodyOf f84) = [c84_0, c84_1, c84_2, c84_3, c84_4] := by kernel_rfl
theorem c84_2_l : flat (innerC c84_2) = [c84_2_0] := by kernel_rfl
theorem c84_2_0_l : flat (innerC c84_2_0) = [c84_2_0_0, c84_2_0_1, c84_2_0_2, c84_2_0_3] := by kernel_rfl
theorem F84_1_ok (R : Rt) (ds : Ds) (w : World) (E : Env) (h : F84_1 R ds w) :
    TrL prog f84.ntmps [c84_3, c84_4] (F84_q1 R) E ds w :=
  TrL_leaf (X := F84_1 R ds w) setAll_nil (by kernel_rfl) (by kernel_rfl) h
theorem F84_2_ok (R : Rt) (J1 : (Int) -> World -> Prop) (l0 : SV) (n1 n5 : Int) (ds : Ds) (w : World) (E : Env) (e0 : E 0 = .slice l0.a l0.len l0.cap) (e1 : E 1 = .int .i64 n1) (e5 : E 5 = .int .i64 n5) (h : F84_2 R J1 l0 n1 n5 ds w) :
    TrL prog f84.ntmps [c84_2_0_0, c84_2_0_1, c84_2_0_2, c84_2_0_3] (F84_q5 R J1) E ds w :=
  TrL_leaf (X := F84_2 R J1 l0 n1 n5 ds w) (setAll_cons e0 (setAll_cons e1 (setAll_cons e5 setAll_nil))) (by kernel_rfl) (by kernel_rfl) h
theorem F84_3_ok (R : Rt) (l0 : SV) (n1 n5 : Int) (ds : Ds) (w : World) (E : Env) (e0 : E 0 = .slice l0.a l0.len l0.cap) (e1 : E 1 = .int .i64 n1) (e5 : E 5 = .int .i64 n5) (h : F84_3 R l0 n1 n5 ds w) :
    TrL prog f84.ntmps [c84_2_0] (F84_q4 R) E ds w :=
  TrL_one (Tr_loop' (c := innerC c84_2_0) (σ := Int) (enc := (fun (s : Int) (E : Env) => E 5 = .int .i64 s)) (D := (fun E K => dInt .i64 (E 5) fun n5 => K n5)) (F := (fun (J1 : (Int) -> World -> Prop) (s : Int) (w : World) => F84_2 R J1 l0 n1 s ds w)) (s0 := n5) (by kernel_rfl) c84_2_0_l e5 (by kernel_rfl) (fun E K hD => by obtain ⟨n5, e5, hD⟩ := dInt_elim hD; exact ⟨n5, e5, hD⟩)
      (fun J1 s E' w' he ha hF => by
      have e5' := he
      exact F84_2_ok R J1 l0 n1 s ds w' E' ((ha 0 (by kernel_rfl)).trans e0) ((ha 1 (by kernel_rfl)).trans e1) e5' hF) h)
theorem F84_4_ok (R : Rt) (l0 : SV) (n1 n5 : Int) (ds : Ds) (w : World) (E : Env) (e0 : E 0 = .slice l0.a l0.len l0.cap) (e1 : E 1 = .int .i64 n1) (e5 : E 5 = .int .i64 n5) (h : F84_4 R l0 n1 n5 ds w) :
    TrL prog f84.ntmps [c84_2, c84_3, c84_4] (F84_q1 R) E ds w :=
  TrL_head (K := (F84_k2 R)) (Tr_block' (c := innerC c84_2) (by kernel_rfl) c84_2_l (F84_3_ok R l0 n1 n5 ds w E e0 e1 e5 h))
    (fun E' ds' w' hD => by
      exact F84_1_ok R ds' w' E'  hD)
theorem F84_5_ok (R : Rt) (l0 : SV) (n1 : Int) (ds : Ds) (w : World) (E : Env) (e0 : E 0 = .slice l0.a l0.len l0.cap) (e1 : E 1 = .int .i64 n1) (h : F84_5 R l0 n1 ds w) :
    TrL prog f84.ntmps [c84_0, c84_1, c84_2, c84_3, c84_4] (F84_q1 R) E ds w :=
  TrL_piece (pre := [c84_0, c84_1]) (K := (F84_k6 R)) (X := F84_5 R l0 n1 ds w) (setAll_cons e0 (setAll_cons e1 setAll_nil)) (by kernel_rfl) (by kernel_rfl)
    (fun E' ds' w' hD => by
      obtain ⟨l0, e0, hD⟩ := dSl_elim hD; obtain ⟨n1, e1, hD⟩ := dInt_elim hD; obtain ⟨n5, e5, hD⟩ := dInt_elim hD; exact F84_4_ok R l0 n1 n5 ds' w' E' e0 e1 e5 hD) h
theorem F84_calls (l0 : SV) (n1 : Int) (w : World) (R : Rt) (h : F84_5 R l0 n1 [] w) : Calls prog 84 #[.slice l0.a l0.len l0.cap, .int .i64 n1] w R :=
  calls_of_L (l := [c84_0, c84_1, c84_2, c84_3, c84_4]) func84 (by kernel_rfl) (by rw [ntmps84]; exact Nat.le_of_ble_eq_true (by kernel_rfl)) c84_l
    (F84_5_ok R l0 n1 [] w _ rfl rfl h)
noncomputable def c86_0 := cI1 f86 0
noncomputable def c86_1 := cI1 f86 1
noncomputable def c86_2 := cI1 f86 2
noncomputable def c86_3 := cI1 f86 3
noncomputable def c86_4 := cI1 f86 4
noncomputable def c86_5 := cI1 f86 5
noncomputable def c86_6 := cI1 f86 6
noncomputable def c86_7 := cI1 f86 7
noncomputable def c86_8 := cI1 f86 8
noncomputable def c86_9 := cI1 f86 9
noncomputable def c86_10 := cI1 f86 10
noncomputable def c86_11 := cI1 f86 11
noncomputable def c86_12 := cI1 f86 12
noncomputable def c86_13 := cI1 f86 13
noncomputable def c86_14 := cI1 f86 14
noncomputable def c86_15 := cI1 f86 15
noncomputable def c86_10_0 := cJ1 c86_10 0
noncomputable def c86_10_0_0 := cJ1 c86_10_0 0
noncomputable def c86_10_0_1 := cJ1 c86_10_0 1
noncomputable def c86_10_0_2 := cJ1 c86_10_0 2
noncomputable def c86_10_0_3 := cJ1 c86_10_0 3
def F86_q1 (R : Rt) : EQ := endQ prog f86.results.toList R
def F86_1 (R : Rt) (p0 : Option Addr) (s1 : ByteArray) (l5 : SV) (b6 : Bool) (ds : Ds) (w : World) : Prop :=
 Br (!b6) (
 alE (.cells #[.string s1, .slice none 0 0] 80) w fun r64 w1 =>
 ∃ l65 : SV, ∃ w2 : World, (Builtin.append_ #[68, 68] 68 #[.slice l5.a l5.len l5.cap, .slice (some ⟨r64, 0, none⟩) 1 1]).run prog w1 = .ok (.slice l65.a l65.len l65.cap) w2 /\
 ptrE p0 fun a3 =>
 st1 a3 (.slice l65.a l65.len l65.cap) w2 fun w4 =>
 runD prog ds w4 fun w5 =>
 R (.returned (.int .i64 0)) w5) (
 ptrE p0 fun a6 =>
 st1 a6 (.slice l5.a l5.len l5.cap) w fun w7 =>
 runD prog ds w7 fun w8 =>
 R (.returned (.int .i64 0)) w8)
def F86_k2 (R : Rt) : EP := (fun E ds w => dPtr (E 0) fun p0 => dStr (E 1) fun s1 => dSl (E 5) fun l5 => dBl (E 6) fun b6 => F86_1 R p0 s1 l5 b6 ds w)
def F86_q3 (R : Rt) : EQ := (thenQ (F86_k2 R) (F86_q1 R))
def F86_q4 (R : Rt) : EQ := (blockQ 0 (F86_q3 R))
def F86_q5 (R : Rt) (J1 : (SV × Bool × Int) -> World -> Prop) : EQ := (thenQ (fun E _ w => dSl (E 5) fun l5 => dBl (E 6) fun b6 => dInt .i64 (E 7) fun n7 => J1 (l5, b6, n7) w) (F86_q4 R))
def F86_2 (R : Rt) (J1 : (SV × Bool × Int) -> World -> Prop) (p0 : Option Addr) (s1 : ByteArray) (l5 : SV) (b6 : Bool) (n7 : Int) (ds : Ds) (w : World) : Prop :=
 ptrE p0 fun a9 =>
 ∃ l25 : SV, w.cell? a9 = some (.slice l25.a l25.len l25.cap) /\
 Br (decide (n7 < (l25.len : Int))) (
 Br (!b6) (
 ptrE p0 fun a10 =>
 ∃ l37 : SV, w.cell? a10 = some (.slice l37.a l37.len l37.cap) /\
 ∃ a11 : Addr, l37.a = some a11 /\ 0 <= n7 /\ n7 < (l37.len : Int) /\
 ∃ s41 : ByteArray, w.cell? (a11.add (n7.toNat * 2)) = some (.string s41) /\
 Br (Op.bytesLess s1.toList s41.toList) (
 alE (.cells #[.string s1, .slice none 0 0] 80) w fun r47 w12 =>
 ∃ l48 : SV, ∃ w13 : World, (Builtin.append_ #[68, 68] 68 #[.slice l5.a l5.len l5.cap, .slice (some ⟨r47, 0, none⟩) 1 1]).run prog w12 = .ok (.slice l48.a l48.len l48.cap) w13 /\
 ptrE p0 fun a14 =>
 ∃ l53 : SV, w13.cell? a14 = some (.slice l53.a l53.len l53.cap) /\
 ∃ a15 : Addr, l53.a = some a15 /\ 0 <= n7 /\ n7 < (l53.len : Int) /\
 ∃ s56_0 : ByteArray, w13.cell? ((a15.add (n7.toNat * 2)).add 0) = some (.string s56_0) /\
 ∃ l56_1 : SV, w13.cell? ((a15.add (n7.toNat * 2)).add 1) = some (.slice l56_1.a l56_1.len l56_1.cap) /\
 alE (.cells #[.string s56_0, .slice l56_1.a l56_1.len l56_1.cap] 80) w13 fun r57 w16 =>
 ∃ l58 : SV, ∃ w17 : World, (Builtin.append_ #[68, 68] 68 #[.slice l48.a l48.len l48.cap, .slice (some ⟨r57, 0, none⟩) 1 1]).run prog w16 = .ok (.slice l58.a l58.len l58.cap) w17 /\
 J1 (l58, true, (IntKind.i64.wrap (n7 + 1))) w17) (
 ptrE p0 fun a18 =>
 ∃ l53 : SV, w.cell? a18 = some (.slice l53.a l53.len l53.cap) /\
 ∃ a19 : Addr, l53.a = some a19 /\ 0 <= n7 /\ n7 < (l53.len : Int) /\
 ∃ s56_0 : ByteArray, w.cell? ((a19.add (n7.toNat * 2)).add 0) = some (.string s56_0) /\
 ∃ l56_1 : SV, w.cell? ((a19.add (n7.toNat * 2)).add 1) = some (.slice l56_1.a l56_1.len l56_1.cap) /\
 alE (.cells #[.string s56_0, .slice l56_1.a l56_1.len l56_1.cap] 80) w fun r57 w20 =>
 ∃ l58 : SV, ∃ w21 : World, (Builtin.append_ #[68, 68] 68 #[.slice l5.a l5.len l5.cap, .slice (some ⟨r57, 0, none⟩) 1 1]).run prog w20 = .ok (.slice l58.a l58.len l58.cap) w21 /\
 J1 (l58, b6, (IntKind.i64.wrap (n7 + 1))) w21)) (
 ptrE p0 fun a22 =>
 ∃ l53 : SV, w.cell? a22 = some (.slice l53.a l53.len l53.cap) /\
 ∃ a23 : Addr, l53.a = some a23 /\ 0 <= n7 /\ n7 < (l53.len : Int) /\
 ∃ s56_0 : ByteArray, w.cell? ((a23.add (n7.toNat * 2)).add 0) = some (.string s56_0) /\
 ∃ l56_1 : SV, w.cell? ((a23.add (n7.toNat * 2)).add 1) = some (.slice l56_1.a l56_1.len l56_1.cap) /\
 alE (.cells #[.string s56_0, .slice l56_1.a l56_1.len l56_1.cap] 80) w fun r57 w24 =>
 ∃ l58 : SV, ∃ w25 : World, (Builtin.append_ #[68, 68] 68 #[.slice l5.a l5.len l5.cap, .slice (some ⟨r57, 0, none⟩) 1 1]).run prog w24 = .ok (.slice l58.a l58.len l58.cap) w25 /\
 J1 (l58, b6, (IntKind.i64.wrap (n7 + 1))) w25)) (
 F86_1 R p0 s1 l5 b6 ds w)
def F86_3 (R : Rt) (p0 : Option Addr) (s1 : ByteArray) (l5 : SV) (b6 : Bool) (n7 : Int) (ds : Ds) (w : World) : Prop :=
 loopT (fun (J1 : (SV × Bool × Int) -> World -> Prop) (s : SV × Bool × Int) (w : World) => F86_2 R J1 p0 s1 s.1 s.2.1 s.2.2 ds w) (l5, b6, n7) w
abbrev F86_4 (R : Rt) (p0 : Option Addr) (s1 : ByteArray) (l5 : SV) (b6 : Bool) (n7 : Int) (ds : Ds) (w : World) : Prop := F86_3 R p0 s1 l5 b6 n7 ds w
def F86_k6 (R : Rt) : EP := (fun E ds w => dPtr (E 0) fun p0 => dStr (E 1) fun s1 => dSl (E 5) fun l5 => dBl (E 6) fun b6 => dInt .i64 (E 7) fun n7 => F86_4 R p0 s1 l5 b6 n7 ds w)
def F86_5 (R : Rt) (p0 : Option Addr) (s1 : ByteArray) (ds : Ds) (w : World) : Prop :=
 Calls prog 92 #[.string s1] w fun e w26 =>
 ∃ b9 : Bool, e = .returned (.bool b9) /\
 Br (!b9) (
 runD prog ds w26 fun w27 =>
 R (.returned (.int .i64 1)) w27) (
 Calls prog 42 #[.pointer p0, .string s1] w26 fun e w28 =>
 ∃ n13 : Int, e = .returned (.int .i64 n13) /\
 Br (decide (n13 ≥ 0)) (
 runD prog ds w28 fun w29 =>
 R (.returned (.int .i64 5)) w29) (
 ptrE p0 fun a30 =>
 ∃ l18 : SV, w28.cell? a30 = some (.slice l18.a l18.len l18.cap) /\
 Br (decide ((l18.len : Int) ≥ 8)) (
 runD prog ds w28 fun w31 =>
 R (.returned (.int .i64 3)) w31) (
 F86_4 R p0 s1 ⟨none, 0, 0⟩ false 0 ds w28)))
theorem c86_l : flat (bodyOf f86) = [c86_0, c86_1, c86_2, c86_3, c86_4, c86_5, c86_6, c86_7, c86_8, c86_9, c86_10, c86_11, c86_12, c86_13, c86_14, c86_15] := by kernel_rfl
theorem c86_10_l : flat (innerC c86_10) = [c86_10_0] := by kernel_rfl
theorem c86_10_0_l : flat (innerC c86_10_0) = [c86_10_0_0, c86_10_0_1, c86_10_0_2, c86_10_0_3] := by kernel_rfl
theorem F86_1_ok (R : Rt) (p0 : Option Addr) (s1 : ByteArray) (l5 : SV) (b6 : Bool) (ds : Ds) (w : World) (E : Env) (e0 : E 0 = .pointer p0) (e1 : E 1 = .string s1) (e5 : E 5 = .slice l5.a l5.len l5.cap) (e6 : E 6 = .bool b6) (h : F86_1 R p0 s1 l5 b6 ds w) :
    TrL prog f86.ntmps [c86_11, c86_12, c86_13, c86_14, c86_15] (F86_q1 R) E ds w :=
  TrL_leaf (X := F86_1 R p0 s1 l5 b6 ds w) (setAll_cons e0 (setAll_cons e1 (setAll_cons e5 (setAll_cons e6 setAll_nil)))) (by kernel_rfl) (by kernel_rfl) h
theorem F86_2_ok (R : Rt) (J1 : (SV × Bool × Int) -> World -> Prop) (p0 : Option Addr) (s1 : ByteArray) (l5 : SV) (b6 : Bool) (n7 : Int) (ds : Ds) (w : World) (E : Env) (e0 : E 0 = .pointer p0) (e1 : E 1 = .string s1) (e5 : E 5 = .slice l5.a l5.len l5.cap) (e6 : E 6 = .bool b6) (e7 : E 7 = .int .i64 n7) (h : F86_2 R J1 p0 s1 l5 b6 n7 ds w) :
    TrL prog f86.ntmps [c86_10_0_0, c86_10_0_1, c86_10_0_2, c86_10_0_3] (F86_q5 R J1) E ds w :=
  TrL_leaf (X := F86_2 R J1 p0 s1 l5 b6 n7 ds w) (setAll_cons e0 (setAll_cons e1 (setAll_cons e5 (setAll_cons e6 (setAll_cons e7 setAll_nil))))) (by kernel_rfl) (by kernel_rfl) h
theorem F86_3_ok (R : Rt) (p0 : Option Addr) (s1 : ByteArray) (l5 : SV) (b6 : Bool) (n7 : Int) (ds : Ds) (w : World) (E : Env) (e0 : E 0 = .pointer p0) (e1 : E 1 = .string s1) (e5 : E 5 = .slice l5.a l5.len l5.cap) (e6 : E 6 = .bool b6) (e7 : E 7 = .int .i64 n7) (h : F86_3 R p0 s1 l5 b6 n7 ds w) :
    TrL prog f86.ntmps [c86_10_0] (F86_q4 R) E ds w :=
  TrL_one (Tr_loop' (c := innerC c86_10_0) (σ := SV × Bool × Int) (enc := (fun (s : SV × Bool × Int) (E : Env) => E 5 = .slice s.1.a s.1.len s.1.cap /\ E 6 = .bool s.2.1 /\ E 7 = .int .i64 s.2.2)) (D := (fun E K => dSl (E 5) fun l5 => dBl (E 6) fun b6 => dInt .i64 (E 7) fun n7 => K (l5, b6, n7))) (F := (fun (J1 : (SV × Bool × Int) -> World -> Prop) (s : SV × Bool × Int) (w : World) => F86_2 R J1 p0 s1 s.1 s.2.1 s.2.2 ds w)) (s0 := (l5, b6, n7)) (by kernel_rfl) c86_10_0_l ⟨e5, e6, e7⟩ (by kernel_rfl) (fun E K hD => by obtain ⟨l5, e5, hD⟩ := dSl_elim hD; obtain ⟨b6, e6, hD⟩ := dBl_elim hD; obtain ⟨n7, e7, hD⟩ := dInt_elim hD; exact ⟨(l5, b6, n7), ⟨e5, e6, e7⟩, hD⟩)
      (fun J1 s E' w' he ha hF => by
      obtain ⟨e5', e6', e7'⟩ := he
      exact F86_2_ok R J1 p0 s1 s.1 s.2.1 s.2.2 ds w' E' ((ha 0 (by kernel_rfl)).trans e0) ((ha 1 (by kernel_rfl)).trans e1) e5' e6' e7' hF) h)
theorem F86_4_ok (R : Rt) (p0 : Option Addr) (s1 : ByteArray) (l5 : SV) (b6 : Bool) (n7 : Int) (ds : Ds) (w : World) (E : Env) (e0 : E 0 = .pointer p0) (e1 : E 1 = .string s1) (e5 : E 5 = .slice l5.a l5.len l5.cap) (e6 : E 6 = .bool b6) (e7 : E 7 = .int .i64 n7) (h : F86_4 R p0 s1 l5 b6 n7 ds w) :
    TrL prog f86.ntmps [c86_10, c86_11, c86_12, c86_13, c86_14, c86_15] (F86_q1 R) E ds w :=
  TrL_head (K := (F86_k2 R)) (Tr_block' (c := innerC c86_10) (by kernel_rfl) c86_10_l (F86_3_ok R p0 s1 l5 b6 n7 ds w E e0 e1 e5 e6 e7 h))
    (fun E' ds' w' hD => by
      obtain ⟨p0, e0, hD⟩ := dPtr_elim hD; obtain ⟨s1, e1, hD⟩ := dStr_elim hD; obtain ⟨l5, e5, hD⟩ := dSl_elim hD; obtain ⟨b6, e6, hD⟩ := dBl_elim hD; exact F86_1_ok R p0 s1 l5 b6 ds' w' E' e0 e1 e5 e6 hD)
theorem F86_5_ok (R : Rt) (p0 : Option Addr) (s1 : ByteArray) (ds : Ds) (w : World) (E : Env) (e0 : E 0 = .pointer p0) (e1 : E 1 = .string s1) (h : F86_5 R p0 s1 ds w) :
    TrL prog f86.ntmps [c86_0, c86_1, c86_2, c86_3, c86_4, c86_5, c86_6, c86_7, c86_8, c86_9, c86_10, c86_11, c86_12, c86_13, c86_14, c86_15] (F86_q1 R) E ds w :=
  TrL_piece (pre := [c86_0, c86_1, c86_2, c86_3, c86_4, c86_5, c86_6, c86_7, c86_8, c86_9]) (K := (F86_k6 R)) (X := F86_5 R p0 s1 ds w) (setAll_cons e0 (setAll_cons e1 setAll_nil)) (by kernel_rfl) (by kernel_rfl)
    (fun E' ds' w' hD => by
      obtain ⟨p0, e0, hD⟩ := dPtr_elim hD; obtain ⟨s1, e1, hD⟩ := dStr_elim hD; obtain ⟨l5, e5, hD⟩ := dSl_elim hD; obtain ⟨b6, e6, hD⟩ := dBl_elim hD; obtain ⟨n7, e7, hD⟩ := dInt_elim hD; exact F86_4_ok R p0 s1 l5 b6 n7 ds' w' E' e0 e1 e5 e6 e7 hD) h
theorem F86_calls (p0 : Option Addr) (s1 : ByteArray) (w : World) (R : Rt) (h : F86_5 R p0 s1 [] w) : Calls prog 86 #[.pointer p0, .string s1] w R :=
  calls_of_L (l := [c86_0, c86_1, c86_2, c86_3, c86_4, c86_5, c86_6, c86_7, c86_8, c86_9, c86_10, c86_11, c86_12, c86_13, c86_14, c86_15]) func86 (by kernel_rfl) (by rw [ntmps86]; exact Nat.le_of_ble_eq_true (by kernel_rfl)) c86_l
    (F86_5_ok R p0 s1 [] w _ rfl rfl h)
noncomputable def c88_0 := cI1 f88 0
noncomputable def c88_1 := cI1 f88 1
noncomputable def c88_2 := cI1 f88 2
noncomputable def c88_3 := cI1 f88 3
noncomputable def c88_4 := cI1 f88 4
noncomputable def c88_5 := cI1 f88 5
noncomputable def c88_6 := cI1 f88 6
noncomputable def c88_7 := cI1 f88 7
noncomputable def c88_8 := cI1 f88 8
noncomputable def c88_9 := cI1 f88 9
noncomputable def c88_10 := cI1 f88 10
noncomputable def c88_11 := cI1 f88 11
noncomputable def c88_9_0 := cJ1 c88_9 0
noncomputable def c88_9_0_0 := cJ1 c88_9_0 0
noncomputable def c88_9_0_1 := cJ1 c88_9_0 1
noncomputable def c88_9_0_2 := cJ1 c88_9_0 2
noncomputable def c88_9_0_3 := cJ1 c88_9_0 3
noncomputable def c88_5_0 := cJ1 c88_5 0
noncomputable def c88_5_0_0 := cJ1 c88_5_0 0
noncomputable def c88_5_0_1 := cJ1 c88_5_0 1
noncomputable def c88_5_0_2 := cJ1 c88_5_0 2
noncomputable def c88_5_0_3 := cJ1 c88_5_0 3
def F88_q1 (R : Rt) : EQ := endQ prog f88.results.toList R
def F88_1 (R : Rt) (ds : Ds) (w : World) : Prop :=
 runD prog ds w fun w1 =>
 R (.returned (.int .i64 0)) w1
def F88_k2 (R : Rt) : EP := (fun E ds w => F88_1 R ds w)
def F88_q3 (R : Rt) : EQ := (thenQ (F88_k2 R) (F88_q1 R))
def F88_q4 (R : Rt) : EQ := (blockQ 2 (F88_q3 R))
def F88_q5 (R : Rt) (J1 : (Int) -> World -> Prop) : EQ := (thenQ (fun E _ w => dInt .i64 (E 8) fun n8 => J1 n8 w) (F88_q4 R))
def F88_2 (R : Rt) (J1 : (Int) -> World -> Prop) (p0 : Option Addr) (s1 : ByteArray) (n8 : Int) (ds : Ds) (w : World) : Prop :=
 Br (decide (n8 < 4)) (
 ptrE p0 fun a2 =>
 0 <= n8 /\ n8 < (4 : Int) /\
 ∃ m64 : Option Nat, w.cell? ((a2.add 1).add (n8.toNat * 1)) = some (.map m64) /\
 ∃ w3 : World, (Builtin.delete_ #[69, 9] 0 #[.map m64, .string s1]).run prog w = .ok (.tuple #[]) w3 /\
 J1 (IntKind.i64.wrap (n8 + 1)) w3) (
 F88_1 R ds w)
def F88_3 (R : Rt) (p0 : Option Addr) (s1 : ByteArray) (n8 : Int) (ds : Ds) (w : World) : Prop :=
 loopT (fun (J1 : (Int) -> World -> Prop) (s : Int) (w : World) => F88_2 R J1 p0 s1 s ds w) n8 w
abbrev F88_4 (R : Rt) (p0 : Option Addr) (s1 : ByteArray) (n8 : Int) (ds : Ds) (w : World) : Prop := F88_3 R p0 s1 n8 ds w
def F88_k6 (R : Rt) : EP := (fun E ds w => dPtr (E 0) fun p0 => dStr (E 1) fun s1 => dInt .i64 (E 8) fun n8 => F88_4 R p0 s1 n8 ds w)
def F88_5 (R : Rt) (p0 : Option Addr) (s1 : ByteArray) (ds : Ds) (w : World) : Prop :=
 Calls prog 42 #[.pointer p0, .string s1] w fun e w4 =>
 ∃ n36 : Int, e = .returned (.int .i64 n36) /\
 dwE w4 fun w5 =>
 ∃ S1 : World -> Prop, S1 w5 /\
 ptrE p0 fun a6 =>
 ∃ l41 : SV, (∀ w', S1 w' -> w'.cell? a6 = some (.slice l41.a l41.len l41.cap)) /\
 0 <= n36 /\ n36.toNat <= l41.cap /\ 0 <= n36.toNat /\
 ptrE p0 fun a7 =>
 ∃ l48 : SV, (∀ w', S1 w' -> w'.cell? a7 = some (.slice l48.a l48.len l48.cap)) /\
 l48.len <= l48.cap /\ 0 <= (IntKind.i64.wrap (n36 + 1)) /\ (IntKind.i64.wrap (n36 + 1)).toNat <= l48.len /\
 ∃ l44 : SV, ∃ w8 : World, (Builtin.append_ #[68, 68] 68 #[.slice none 0 0, .slice (if l41.cap = 0 then l41.a else l41.a.map (fun x => x.add (0 * 2))) (n36.toNat - 0) (l41.cap - 0)]).run prog w5 = .ok (.slice l44.a l44.len l44.cap) w8 /\
 S1 w8 /\
 ∃ l52 : SV, ∃ w9 : World, (Builtin.append_ #[68, 68] 68 #[.slice l44.a l44.len l44.cap, .slice (if l48.cap = (IntKind.i64.wrap (n36 + 1)).toNat then l48.a else l48.a.map (fun x => x.add ((IntKind.i64.wrap (n36 + 1)).toNat * 2))) (l48.len - (IntKind.i64.wrap (n36 + 1)).toNat) (l48.cap - (IntKind.i64.wrap (n36 + 1)).toNat)]).run prog w8 = .ok (.slice l52.a l52.len l52.cap) w9 /\
 ptrE p0 fun a10 =>
 st1 a10 (.slice l52.a l52.len l52.cap) w9 fun w11 =>
 F88_4 R p0 s1 0 ds w11
def F88_k7 (R : Rt) : EP := (fun E ds w => dPtr (E 0) fun p0 => dStr (E 1) fun s1 => F88_5 R p0 s1 ds w)
def F88_q8 (R : Rt) : EQ := (thenQ (F88_k7 R) (F88_q1 R))
def F88_q9 (R : Rt) : EQ := (blockQ 0 (F88_q8 R))
def F88_q10 (R : Rt) (J1 : (Int) -> World -> Prop) : EQ := (thenQ (fun E _ w => dInt .i64 (E 6) fun n6 => J1 n6 w) (F88_q9 R))
def F88_6 (R : Rt) (J1 : (Int) -> World -> Prop) (p0 : Option Addr) (s1 : ByteArray) (n6 : Int) (ds : Ds) (w : World) : Prop :=
 ptrE p0 fun a12 =>
 ∃ l19 : SV, w.cell? (a12.add 5) = some (.slice l19.a l19.len l19.cap) /\
 Br (decide (n6 < (l19.len : Int))) (
 ptrE p0 fun a13 =>
 ∃ l27 : SV, w.cell? (a13.add 5) = some (.slice l27.a l27.len l27.cap) /\
 ∃ a14 : Addr, l27.a = some a14 /\ 0 <= n6 /\ n6 < (l27.len : Int) /\
 ∃ s31 : ByteArray, w.cell? ((a14.add (n6.toNat * 4)).add 1) = some (.string s31) /\
 Br (s31.toList == s1.toList) (
 runD prog ds w fun w15 =>
 R (.returned (.int .i64 12)) w15) (
 J1 (IntKind.i64.wrap (n6 + 1)) w)) (
 F88_5 R p0 s1 ds w)
def F88_7 (R : Rt) (p0 : Option Addr) (s1 : ByteArray) (n6 : Int) (ds : Ds) (w : World) : Prop :=
 loopT (fun (J1 : (Int) -> World -> Prop) (s : Int) (w : World) => F88_6 R J1 p0 s1 s ds w) n6 w
abbrev F88_8 (R : Rt) (p0 : Option Addr) (s1 : ByteArray) (n6 : Int) (ds : Ds) (w : World) : Prop := F88_7 R p0 s1 n6 ds w
def F88_k11 (R : Rt) : EP := (fun E ds w => dPtr (E 0) fun p0 => dStr (E 1) fun s1 => dInt .i64 (E 6) fun n6 => F88_8 R p0 s1 n6 ds w)
def F88_9 (R : Rt) (p0 : Option Addr) (s1 : ByteArray) (ds : Ds) (w : World) : Prop :=
 Calls prog 41 #[.pointer p0, .string s1] w fun e w16 =>
 ∃ n11 : Int, e = .returned (.int .i64 n11) /\
 Br (n11 != 0) (
 runD prog ds w16 fun w17 =>
 R (.returned (.int .i64 n11)) w17) (
 F88_8 R p0 s1 0 ds w16)
theorem c88_l : flat (bodyOf f88) = [c88_0, c88_1, c88_2, c88_3, c88_4, c88_5, c88_6, c88_7, c88_8, c88_9, c88_10, c88_11] := by kernel_rfl
theorem c88_9_l : flat (innerC c88_9) = [c88_9_0] := by kernel_rfl
theorem c88_9_0_l : flat (innerC c88_9_0) = [c88_9_0_0, c88_9_0_1, c88_9_0_2, c88_9_0_3] := by kernel_rfl
theorem c88_5_l : flat (innerC c88_5) = [c88_5_0] := by kernel_rfl
theorem c88_5_0_l : flat (innerC c88_5_0) = [c88_5_0_0, c88_5_0_1, c88_5_0_2, c88_5_0_3] := by kernel_rfl
theorem F88_1_ok (R : Rt) (ds : Ds) (w : World) (E : Env) (h : F88_1 R ds w) :
    TrL prog f88.ntmps [c88_10, c88_11] (F88_q1 R) E ds w :=
  TrL_leaf (X := F88_1 R ds w) setAll_nil (by kernel_rfl) (by kernel_rfl) h
theorem F88_2_ok (R : Rt) (J1 : (Int) -> World -> Prop) (p0 : Option Addr) (s1 : ByteArray) (n8 : Int) (ds : Ds) (w : World) (E : Env) (e0 : E 0 = .pointer p0) (e1 : E 1 = .string s1) (e8 : E 8 = .int .i64 n8) (h : F88_2 R J1 p0 s1 n8 ds w) :
    TrL prog f88.ntmps [c88_9_0_0, c88_9_0_1, c88_9_0_2, c88_9_0_3] (F88_q5 R J1) E ds w :=
  TrL_leaf (X := F88_2 R J1 p0 s1 n8 ds w) (setAll_cons e0 (setAll_cons e1 (setAll_cons e8 setAll_nil))) (by kernel_rfl) (by kernel_rfl) h
theorem F88_3_ok (R : Rt) (p0 : Option Addr) (s1 : ByteArray) (n8 : Int) (ds : Ds) (w : World) (E : Env) (e0 : E 0 = .pointer p0) (e1 : E 1 = .string s1) (e8 : E 8 = .int .i64 n8) (h : F88_3 R p0 s1 n8 ds w) :
    TrL prog f88.ntmps [c88_9_0] (F88_q4 R) E ds w :=
  TrL_one (Tr_loop' (c := innerC c88_9_0) (σ := Int) (enc := (fun (s : Int) (E : Env) => E 8 = .int .i64 s)) (D := (fun E K => dInt .i64 (E 8) fun n8 => K n8)) (F := (fun (J1 : (Int) -> World -> Prop) (s : Int) (w : World) => F88_2 R J1 p0 s1 s ds w)) (s0 := n8) (by kernel_rfl) c88_9_0_l e8 (by kernel_rfl) (fun E K hD => by obtain ⟨n8, e8, hD⟩ := dInt_elim hD; exact ⟨n8, e8, hD⟩)
      (fun J1 s E' w' he ha hF => by
      have e8' := he
      exact F88_2_ok R J1 p0 s1 s ds w' E' ((ha 0 (by kernel_rfl)).trans e0) ((ha 1 (by kernel_rfl)).trans e1) e8' hF) h)
theorem F88_4_ok (R : Rt) (p0 : Option Addr) (s1 : ByteArray) (n8 : Int) (ds : Ds) (w : World) (E : Env) (e0 : E 0 = .pointer p0) (e1 : E 1 = .string s1) (e8 : E 8 = .int .i64 n8) (h : F88_4 R p0 s1 n8 ds w) :
    TrL prog f88.ntmps [c88_9, c88_10, c88_11] (F88_q1 R) E ds w :=
  TrL_head (K := (F88_k2 R)) (Tr_block' (c := innerC c88_9) (by kernel_rfl) c88_9_l (F88_3_ok R p0 s1 n8 ds w E e0 e1 e8 h))
    (fun E' ds' w' hD => by
      exact F88_1_ok R ds' w' E'  hD)
theorem F88_5_ok (R : Rt) (p0 : Option Addr) (s1 : ByteArray) (ds : Ds) (w : World) (E : Env) (e0 : E 0 = .pointer p0) (e1 : E 1 = .string s1) (h : F88_5 R p0 s1 ds w) :
    TrL prog f88.ntmps [c88_6, c88_7, c88_8, c88_9, c88_10, c88_11] (F88_q1 R) E ds w :=
  TrL_piece (pre := [c88_6, c88_7, c88_8]) (K := (F88_k6 R)) (X := F88_5 R p0 s1 ds w) (setAll_cons e0 (setAll_cons e1 setAll_nil)) (by kernel_rfl) (by kernel_rfl)
    (fun E' ds' w' hD => by
      obtain ⟨p0, e0, hD⟩ := dPtr_elim hD; obtain ⟨s1, e1, hD⟩ := dStr_elim hD; obtain ⟨n8, e8, hD⟩ := dInt_elim hD; exact F88_4_ok R p0 s1 n8 ds' w' E' e0 e1 e8 hD) h
theorem F88_6_ok (R : Rt) (J1 : (Int) -> World -> Prop) (p0 : Option Addr) (s1 : ByteArray) (n6 : Int) (ds : Ds) (w : World) (E : Env) (e0 : E 0 = .pointer p0) (e1 : E 1 = .string s1) (e6 : E 6 = .int .i64 n6) (h : F88_6 R J1 p0 s1 n6 ds w) :
    TrL prog f88.ntmps [c88_5_0_0, c88_5_0_1, c88_5_0_2, c88_5_0_3] (F88_q10 R J1) E ds w :=
  TrL_leaf (X := F88_6 R J1 p0 s1 n6 ds w) (setAll_cons e0 (setAll_cons e1 (setAll_cons e6 setAll_nil))) (by kernel_rfl) (by kernel_rfl) h
theorem F88_7_ok (R : Rt) (p0 : Option Addr) (s1 : ByteArray) (n6 : Int) (ds : Ds) (w : World) (E : Env) (e0 : E 0 = .pointer p0) (e1 : E 1 = .string s1) (e6 : E 6 = .int .i64 n6) (h : F88_7 R p0 s1 n6 ds w) :
    TrL prog f88.ntmps [c88_5_0] (F88_q9 R) E ds w :=
  TrL_one (Tr_loop' (c := innerC c88_5_0) (σ := Int) (enc := (fun (s : Int) (E : Env) => E 6 = .int .i64 s)) (D := (fun E K => dInt .i64 (E 6) fun n6 => K n6)) (F := (fun (J1 : (Int) -> World -> Prop) (s : Int) (w : World) => F88_6 R J1 p0 s1 s ds w)) (s0 := n6) (by kernel_rfl) c88_5_0_l e6 (by kernel_rfl) (fun E K hD => by obtain ⟨n6, e6, hD⟩ := dInt_elim hD; exact ⟨n6, e6, hD⟩)
      (fun J1 s E' w' he ha hF => by
      have e6' := he
      exact F88_6_ok R J1 p0 s1 s ds w' E' ((ha 0 (by kernel_rfl)).trans e0) ((ha 1 (by kernel_rfl)).trans e1) e6' hF) h)
theorem F88_8_ok (R : Rt) (p0 : Option Addr) (s1 : ByteArray) (n6 : Int) (ds : Ds) (w : World) (E : Env) (e0 : E 0 = .pointer p0) (e1 : E 1 = .string s1) (e6 : E 6 = .int .i64 n6) (h : F88_8 R p0 s1 n6 ds w) :
    TrL prog f88.ntmps [c88_5, c88_6, c88_7, c88_8, c88_9, c88_10, c88_11] (F88_q1 R) E ds w :=
  TrL_head (K := (F88_k7 R)) (Tr_block' (c := innerC c88_5) (by kernel_rfl) c88_5_l (F88_7_ok R p0 s1 n6 ds w E e0 e1 e6 h))
    (fun E' ds' w' hD => by
      obtain ⟨p0, e0, hD⟩ := dPtr_elim hD; obtain ⟨s1, e1, hD⟩ := dStr_elim hD; exact F88_5_ok R p0 s1 ds' w' E' e0 e1 hD)
theorem F88_9_ok (R : Rt) (p0 : Option Addr) (s1 : ByteArray) (ds : Ds) (w : World) (E : Env) (e0 : E 0 = .pointer p0) (e1 : E 1 = .string s1) (h : F88_9 R p0 s1 ds w) :
    TrL prog f88.ntmps [c88_0, c88_1, c88_2, c88_3, c88_4, c88_5, c88_6, c88_7, c88_8, c88_9, c88_10, c88_11] (F88_q1 R) E ds w :=
  TrL_piece (pre := [c88_0, c88_1, c88_2, c88_3, c88_4]) (K := (F88_k11 R)) (X := F88_9 R p0 s1 ds w) (setAll_cons e0 (setAll_cons e1 setAll_nil)) (by kernel_rfl) (by kernel_rfl)
    (fun E' ds' w' hD => by
      obtain ⟨p0, e0, hD⟩ := dPtr_elim hD; obtain ⟨s1, e1, hD⟩ := dStr_elim hD; obtain ⟨n6, e6, hD⟩ := dInt_elim hD; exact F88_8_ok R p0 s1 n6 ds' w' E' e0 e1 e6 hD) h
theorem F88_calls (p0 : Option Addr) (s1 : ByteArray) (w : World) (R : Rt) (h : F88_9 R p0 s1 [] w) : Calls prog 88 #[.pointer p0, .string s1] w R :=
  calls_of_L (l := [c88_0, c88_1, c88_2, c88_3, c88_4, c88_5, c88_6, c88_7, c88_8, c88_9, c88_10, c88_11]) func88 (by kernel_rfl) (by rw [ntmps88]; exact Nat.le_of_ble_eq_true (by kernel_rfl)) c88_l
    (F88_9_ok R p0 s1 [] w _ rfl rfl h)
noncomputable def c89_0 := cI1 f89 0
noncomputable def c89_1 := cI1 f89 1
noncomputable def c89_2 := cI1 f89 2
noncomputable def c89_3 := cI1 f89 3
noncomputable def c89_4 := cI1 f89 4
noncomputable def c89_5 := cI1 f89 5
noncomputable def c89_6 := cI1 f89 6
noncomputable def c89_7 := cI1 f89 7
noncomputable def c89_8 := cI1 f89 8
noncomputable def c89_9 := cI1 f89 9
noncomputable def c89_10 := cI1 f89 10
noncomputable def c89_11 := cI1 f89 11
noncomputable def c89_12 := cI1 f89 12
noncomputable def c89_13 := cI1 f89 13
noncomputable def c89_11_0 := cJ1 c89_11 0
noncomputable def c89_11_0_0 := cJ1 c89_11_0 0
noncomputable def c89_11_0_1 := cJ1 c89_11_0 1
noncomputable def c89_11_0_2 := cJ1 c89_11_0 2
noncomputable def c89_11_0_3 := cJ1 c89_11_0 3
def F89_q1 (R : Rt) : EQ := endQ prog f89.results.toList R
def F89_1 (R : Rt) (ds : Ds) (w : World) : Prop :=
 runD prog ds w fun w1 =>
 R (.returned (.int .i64 0)) w1
def F89_k2 (R : Rt) : EP := (fun E ds w => F89_1 R ds w)
def F89_q3 (R : Rt) : EQ := (thenQ (F89_k2 R) (F89_q1 R))
def F89_q4 (R : Rt) : EQ := (blockQ 0 (F89_q3 R))
def F89_q5 (R : Rt) (J1 : (Int) -> World -> Prop) : EQ := (thenQ (fun E _ w => dInt .i64 (E 10) fun n10 => J1 n10 w) (F89_q4 R))
def F89_2 (R : Rt) (J1 : (Int) -> World -> Prop) (p0 : Option Addr) (s1 : ByteArray) (n2 n10 : Int) (ds : Ds) (w : World) : Prop :=
 Br (decide (n10 < 4)) (
 ptrE p0 fun a2 =>
 0 <= n10 /\ n10 < (4 : Int) /\
 ∃ m53 : Option Nat, w.cell? ((a2.add 1).add (n10.toNat * 1)) = some (.map m53) /\
 ∃ l55 : SV, ∃ w3 : World, (Instr.lookup 69 (.map m53) (.string s1) false).run prog w = .ok (.slice l55.a l55.len l55.cap) w3 /\
 Br (decide ((l55.len : Int) > n2)) (
 dwE w3 fun w4 =>
 ∃ S1 : World -> Prop, S1 w4 /\
 ptrE p0 fun a5 =>
 0 <= n10 /\ n10 < (4 : Int) /\
 ∃ m65 : Option Nat, (∀ w', S1 w' -> w'.cell? ((a5.add 1).add (n10.toNat * 1)) = some (.map m65)) /\
 0 <= n2 /\ n2.toNat <= l55.cap /\ 0 <= n2.toNat /\
 ∃ l70 : SV, ∃ w6 : World, (Builtin.append_ #[114, 114] 114 #[.slice none 0 0, .slice (if l55.cap = 0 then l55.a else l55.a.map (fun x => x.add (0 * 3))) (n2.toNat - 0) (l55.cap - 0)]).run prog w4 = .ok (.slice l70.a l70.len l70.cap) w6 /\
 S1 w6 /\
 doE prog (Instr.mapUpdate 69 (.map m65) (.string s1) (.slice l70.a l70.len l70.cap)) w6 fun w7 =>
 J1 (IntKind.i64.wrap (n10 + 1)) w7) (
 J1 (IntKind.i64.wrap (n10 + 1)) w3)) (
 F89_1 R ds w)
def F89_3 (R : Rt) (p0 : Option Addr) (s1 : ByteArray) (n2 n10 : Int) (ds : Ds) (w : World) : Prop :=
 loopT (fun (J1 : (Int) -> World -> Prop) (s : Int) (w : World) => F89_2 R J1 p0 s1 n2 s ds w) n10 w
abbrev F89_4 (R : Rt) (p0 : Option Addr) (s1 : ByteArray) (n2 n10 : Int) (ds : Ds) (w : World) : Prop := F89_3 R p0 s1 n2 n10 ds w
def F89_k6 (R : Rt) : EP := (fun E ds w => dPtr (E 0) fun p0 => dStr (E 1) fun s1 => dInt .i64 (E 2) fun n2 => dInt .i64 (E 10) fun n10 => F89_4 R p0 s1 n2 n10 ds w)
def F89_5 (R : Rt) (p0 : Option Addr) (s1 : ByteArray) (n2 : Int) (ds : Ds) (w : World) : Prop :=
 Calls prog 41 #[.pointer p0, .string s1] w fun e w8 =>
 ∃ n14 : Int, e = .returned (.int .i64 n14) /\
 Br (n14 != 0) (
 runD prog ds w8 fun w9 =>
 R (.returned (.int .i64 n14)) w9) (
 Br (decide (n2 < 0)) (
 runD prog ds w8 fun w10 =>
 R (.returned (.int .i64 1)) w10) (
 Br (decide (n2 > 65536)) (
 runD prog ds w8 fun w11 =>
 R (.returned (.int .i64 1)) w11) (
 dwE w8 fun w12 =>
 ∃ S2 : World -> Prop, S2 w12 /\
 ptrE p0 fun a13 =>
 ∃ l27 : SV, (∀ w', S2 w' -> w'.cell? a13 = some (.slice l27.a l27.len l27.cap)) /\
 Calls prog 42 #[.pointer p0, .string s1] w12 fun e w14 =>
 ∃ n30 : Int, e = .returned (.int .i64 n30) /\
 S2 w14 /\
 ∃ a15 : Addr, l27.a = some a15 /\ 0 <= n30 /\ n30 < (l27.len : Int) /\
 ∃ l33 : SV, ∃ w16 : World, (Instr.makeSlice 36 (.int .i64 n2) (.int .i64 n2)).run prog w14 = .ok (.slice l33.a l33.len l33.cap) w16 /\
 ∃ l38 : SV, w16.cell? ((a15.add (n30.toNat * 2)).add 1) = some (.slice l38.a l38.len l38.cap) /\
 ∃ n39 : Int, ∃ w17 : World, (Builtin.copy_ #[36, 36] 3 #[.slice l33.a l33.len l33.cap, .slice l38.a l38.len l38.cap]).run prog w16 = .ok (.int .i64 n39) w17 /\
 st1 ((a15.add (n30.toNat * 2)).add 1) (.slice l33.a l33.len l33.cap) w17 fun w18 =>
 F89_4 R p0 s1 n2 0 ds w18)))
theorem c89_l : flat (bodyOf f89) = [c89_0, c89_1, c89_2, c89_3, c89_4, c89_5, c89_6, c89_7, c89_8, c89_9, c89_10, c89_11, c89_12, c89_13] := by kernel_rfl
theorem c89_11_l : flat (innerC c89_11) = [c89_11_0] := by kernel_rfl
theorem c89_11_0_l : flat (innerC c89_11_0) = [c89_11_0_0, c89_11_0_1, c89_11_0_2, c89_11_0_3] := by kernel_rfl
theorem F89_1_ok (R : Rt) (ds : Ds) (w : World) (E : Env) (h : F89_1 R ds w) :
    TrL prog f89.ntmps [c89_12, c89_13] (F89_q1 R) E ds w :=
  TrL_leaf (X := F89_1 R ds w) setAll_nil (by kernel_rfl) (by kernel_rfl) h
theorem F89_2_ok (R : Rt) (J1 : (Int) -> World -> Prop) (p0 : Option Addr) (s1 : ByteArray) (n2 n10 : Int) (ds : Ds) (w : World) (E : Env) (e0 : E 0 = .pointer p0) (e1 : E 1 = .string s1) (e2 : E 2 = .int .i64 n2) (e10 : E 10 = .int .i64 n10) (h : F89_2 R J1 p0 s1 n2 n10 ds w) :
    TrL prog f89.ntmps [c89_11_0_0, c89_11_0_1, c89_11_0_2, c89_11_0_3] (F89_q5 R J1) E ds w :=
  TrL_leaf (X := F89_2 R J1 p0 s1 n2 n10 ds w) (setAll_cons e0 (setAll_cons e1 (setAll_cons e2 (setAll_cons e10 setAll_nil)))) (by kernel_rfl) (by kernel_rfl) h
theorem F89_3_ok (R : Rt) (p0 : Option Addr) (s1 : ByteArray) (n2 n10 : Int) (ds : Ds) (w : World) (E : Env) (e0 : E 0 = .pointer p0) (e1 : E 1 = .string s1) (e2 : E 2 = .int .i64 n2) (e10 : E 10 = .int .i64 n10) (h : F89_3 R p0 s1 n2 n10 ds w) :
    TrL prog f89.ntmps [c89_11_0] (F89_q4 R) E ds w :=
  TrL_one (Tr_loop' (c := innerC c89_11_0) (σ := Int) (enc := (fun (s : Int) (E : Env) => E 10 = .int .i64 s)) (D := (fun E K => dInt .i64 (E 10) fun n10 => K n10)) (F := (fun (J1 : (Int) -> World -> Prop) (s : Int) (w : World) => F89_2 R J1 p0 s1 n2 s ds w)) (s0 := n10) (by kernel_rfl) c89_11_0_l e10 (by kernel_rfl) (fun E K hD => by obtain ⟨n10, e10, hD⟩ := dInt_elim hD; exact ⟨n10, e10, hD⟩)
      (fun J1 s E' w' he ha hF => by
      have e10' := he
      exact F89_2_ok R J1 p0 s1 n2 s ds w' E' ((ha 0 (by kernel_rfl)).trans e0) ((ha 1 (by kernel_rfl)).trans e1) ((ha 2 (by kernel_rfl)).trans e2) e10' hF) h)
theorem F89_4_ok (R : Rt) (p0 : Option Addr) (s1 : ByteArray) (n2 n10 : Int) (ds : Ds) (w : World) (E : Env) (e0 : E 0 = .pointer p0) (e1 : E 1 = .string s1) (e2 : E 2 = .int .i64 n2) (e10 : E 10 = .int .i64 n10) (h : F89_4 R p0 s1 n2 n10 ds w) :
    TrL prog f89.ntmps [c89_11, c89_12, c89_13] (F89_q1 R) E ds w :=
  TrL_head (K := (F89_k2 R)) (Tr_block' (c := innerC c89_11) (by kernel_rfl) c89_11_l (F89_3_ok R p0 s1 n2 n10 ds w E e0 e1 e2 e10 h))
    (fun E' ds' w' hD => by
      exact F89_1_ok R ds' w' E'  hD)
theorem F89_5_ok (R : Rt) (p0 : Option Addr) (s1 : ByteArray) (n2 : Int) (ds : Ds) (w : World) (E : Env) (e0 : E 0 = .pointer p0) (e1 : E 1 = .string s1) (e2 : E 2 = .int .i64 n2) (h : F89_5 R p0 s1 n2 ds w) :
    TrL prog f89.ntmps [c89_0, c89_1, c89_2, c89_3, c89_4, c89_5, c89_6, c89_7, c89_8, c89_9, c89_10, c89_11, c89_12, c89_13] (F89_q1 R) E ds w :=
  TrL_piece (pre := [c89_0, c89_1, c89_2, c89_3, c89_4, c89_5, c89_6, c89_7, c89_8, c89_9, c89_10]) (K := (F89_k6 R)) (X := F89_5 R p0 s1 n2 ds w) (setAll_cons e0 (setAll_cons e1 (setAll_cons e2 setAll_nil))) (by kernel_rfl) (by kernel_rfl)
    (fun E' ds' w' hD => by
      obtain ⟨p0, e0, hD⟩ := dPtr_elim hD; obtain ⟨s1, e1, hD⟩ := dStr_elim hD; obtain ⟨n2, e2, hD⟩ := dInt_elim hD; obtain ⟨n10, e10, hD⟩ := dInt_elim hD; exact F89_4_ok R p0 s1 n2 n10 ds' w' E' e0 e1 e2 e10 hD) h
theorem F89_calls (p0 : Option Addr) (s1 : ByteArray) (n2 : Int) (w : World) (R : Rt) (h : F89_5 R p0 s1 n2 [] w) : Calls prog 89 #[.pointer p0, .string s1, .int .i64 n2] w R :=
  calls_of_L (l := [c89_0, c89_1, c89_2, c89_3, c89_4, c89_5, c89_6, c89_7, c89_8, c89_9, c89_10, c89_11, c89_12, c89_13]) func89 (by kernel_rfl) (by rw [ntmps89]; exact Nat.le_of_ble_eq_true (by kernel_rfl)) c89_l
    (F89_5_ok R p0 s1 n2 [] w _ rfl rfl rfl h)
noncomputable def c91_0 := cI1 f91 0
noncomputable def c91_1 := cI1 f91 1
noncomputable def c91_2 := cI1 f91 2
noncomputable def c91_3 := cI1 f91 3
noncomputable def c91_4 := cI1 f91 4
noncomputable def c91_5 := cI1 f91 5
def F91_q1 (R : Rt) : EQ := endQ prog f91.results.toList R
def F91_1 (R : Rt) (p0 : Option Addr) (s1 : ByteArray) (ds : Ds) (w : World) : Prop :=
 Calls prog 41 #[.pointer p0, .string s1] w fun e w1 =>
 ∃ n9 : Int, e = .returned (.int .i64 n9) /\
 Br (n9 != 0) (
 runD prog ds w1 fun w2 =>
 R (.returned (.tuple #[.slice none 0 0, .int .i64 n9])) w2) (
 dwE w1 fun w3 =>
 ∃ S1 : World -> Prop, S1 w3 /\
 ptrE p0 fun a4 =>
 ∃ l16 : SV, (∀ w', S1 w' -> w'.cell? a4 = some (.slice l16.a l16.len l16.cap)) /\
 Calls prog 42 #[.pointer p0, .string s1] w3 fun e w5 =>
 ∃ n19 : Int, e = .returned (.int .i64 n19) /\
 S1 w5 /\
 ∃ a6 : Addr, l16.a = some a6 /\ 0 <= n19 /\ n19 < (l16.len : Int) /\
 ∃ l22 : SV, (∀ w', S1 w' -> w'.cell? ((a6.add (n19.toNat * 2)).add 1) = some (.slice l22.a l22.len l22.cap)) /\
 ∃ l23 : SV, ∃ w7 : World, (Builtin.append_ #[36, 36] 36 #[.slice none 0 0, .slice l22.a l22.len l22.cap]).run prog w5 = .ok (.slice l23.a l23.len l23.cap) w7 /\
 runD prog ds w7 fun w8 =>
 R (.returned (.tuple #[.slice l23.a l23.len l23.cap, .int .i64 0])) w8)
theorem c91_l : flat (bodyOf f91) = [c91_0, c91_1, c91_2, c91_3, c91_4, c91_5] := by kernel_rfl
theorem F91_1_ok (R : Rt) (p0 : Option Addr) (s1 : ByteArray) (ds : Ds) (w : World) (E : Env) (e0 : E 0 = .pointer p0) (e1 : E 1 = .string s1) (h : F91_1 R p0 s1 ds w) :
    TrL prog f91.ntmps [c91_0, c91_1, c91_2, c91_3, c91_4, c91_5] (F91_q1 R) E ds w :=
  TrL_leaf (X := F91_1 R p0 s1 ds w) (setAll_cons e0 (setAll_cons e1 setAll_nil)) (by kernel_rfl) (by kernel_rfl) h
theorem F91_calls (p0 : Option Addr) (s1 : ByteArray) (w : World) (R : Rt) (h : F91_1 R p0 s1 [] w) : Calls prog 91 #[.pointer p0, .string s1] w R :=
  calls_of_L (l := [c91_0, c91_1, c91_2, c91_3, c91_4, c91_5]) func91 (by kernel_rfl) (by rw [ntmps91]; exact Nat.le_of_ble_eq_true (by kernel_rfl)) c91_l
    (F91_1_ok R p0 s1 [] w _ rfl rfl h)
noncomputable def c92_0 := cI1 f92 0
noncomputable def c92_1 := cI1 f92 1
noncomputable def c92_2 := cI1 f92 2
noncomputable def c92_3 := cI1 f92 3
noncomputable def c92_4 := cI1 f92 4
noncomputable def c92_5 := cI1 f92 5
noncomputable def c92_6 := cI1 f92 6
noncomputable def c92_4_0 := cJ1 c92_4 0
noncomputable def c92_4_0_0 := cJ1 c92_4_0 0
noncomputable def c92_4_0_1 := cJ1 c92_4_0 1
noncomputable def c92_4_0_2 := cJ1 c92_4_0 2
noncomputable def c92_4_0_3 := cJ1 c92_4_0 3
def F92_q1 (R : Rt) : EQ := endQ prog f92.results.toList R
def F92_1 (R : Rt) (ds : Ds) (w : World) : Prop :=
 runD prog ds w fun w1 =>
 R (.returned (.bool true)) w1
def F92_k2 (R : Rt) : EP := (fun E ds w => F92_1 R ds w)
def F92_q3 (R : Rt) : EQ := (thenQ (F92_k2 R) (F92_q1 R))
def F92_q4 (R : Rt) : EQ := (blockQ 0 (F92_q3 R))
def F92_q5 (R : Rt) (J1 : (Int) -> World -> Prop) : EQ := (thenQ (fun E _ w => dInt .i64 (E 3) fun n3 => J1 n3 w) (F92_q4 R))
def F92_2 (R : Rt) (J1 : (Int) -> World -> Prop) (s0 : ByteArray) (n3 : Int) (ds : Ds) (w : World) : Prop :=
 J1 (IntKind.i64.wrap (n3 + 1)) w
def F92_k6 (R : Rt) (J1 : (Int) -> World -> Prop) : EP := (fun E ds w => dStr (E 0) fun s0 => dInt .i64 (E 3) fun n3 => F92_2 R J1 s0 n3 ds w)
def F92_3 (R : Rt) (J1 : (Int) -> World -> Prop) (s0 : ByteArray) (n3 : Int) (ds : Ds) (w : World) : Prop :=
 ∃ b21 : UInt8, 0 <= n3 /\ s0[n3.toNat]? = some b21 /\
 Br (decide ((b21.toNat : Int) ≥ 97)) (
 Br (decide ((b21.toNat : Int) <= 122)) (
 F92_2 R J1 s0 n3 ds w) (
 Br (decide ((b21.toNat : Int) ≥ 65)) (
 Br (decide ((b21.toNat : Int) <= 90)) (
 F92_2 R J1 s0 n3 ds w) (
 Calls prog 112 #[.int .u8 (b21.toNat : Int)] w fun e w2 =>
 ∃ b38 : Bool, e = .returned (.bool b38) /\
 Br b38 (
 F92_2 R J1 s0 n3 ds w2) (
 Br (!((b21.toNat : Int) == 46)) (
 runD prog ds w2 fun w3 =>
 R (.returned (.bool false)) w3) (
 F92_2 R J1 s0 n3 ds w2)))) (
 Calls prog 112 #[.int .u8 (b21.toNat : Int)] w fun e w4 =>
 ∃ b38 : Bool, e = .returned (.bool b38) /\
 Br b38 (
 F92_2 R J1 s0 n3 ds w4) (
 Br (!((b21.toNat : Int) == 46)) (
 runD prog ds w4 fun w5 =>
 R (.returned (.bool false)) w5) (
 F92_2 R J1 s0 n3 ds w4))))) (
 Br (decide ((b21.toNat : Int) ≥ 65)) (
 Br (decide ((b21.toNat : Int) <= 90)) (
 F92_2 R J1 s0 n3 ds w) (
 Calls prog 112 #[.int .u8 (b21.toNat : Int)] w fun e w6 =>
 ∃ b38 : Bool, e = .returned (.bool b38) /\
 Br b38 (
 F92_2 R J1 s0 n3 ds w6) (
 Br (!((b21.toNat : Int) == 46)) (
 runD prog ds w6 fun w7 =>
 R (.returned (.bool false)) w7) (
 F92_2 R J1 s0 n3 ds w6)))) (
 Calls prog 112 #[.int .u8 (b21.toNat : Int)] w fun e w8 =>
 ∃ b38 : Bool, e = .returned (.bool b38) /\
 Br b38 (
 F92_2 R J1 s0 n3 ds w8) (
 Br (!((b21.toNat : Int) == 46)) (
 runD prog ds w8 fun w9 =>
 R (.returned (.bool false)) w9) (
 F92_2 R J1 s0 n3 ds w8))))
def F92_k7 (R : Rt) (J1 : (Int) -> World -> Prop) : EP := (fun E ds w => dStr (E 0) fun s0 => dInt .i64 (E 3) fun n3 => F92_3 R J1 s0 n3 ds w)
def F92_4 (R : Rt) (J1 : (Int) -> World -> Prop) (s0 : ByteArray) (n3 : Int) (ds : Ds) (w : World) : Prop :=
 Br (decide (n3 < (s0.size : Int))) (
 F92_3 R J1 s0 n3 ds w) (
 F92_1 R ds w)
def F92_5 (R : Rt) (s0 : ByteArray) (n3 : Int) (ds : Ds) (w : World) : Prop :=
 loopT (fun (J1 : (Int) -> World -> Prop) (s : Int) (w : World) => F92_4 R J1 s0 s ds w) n3 w
abbrev F92_6 (R : Rt) (s0 : ByteArray) (n3 : Int) (ds : Ds) (w : World) : Prop := F92_5 R s0 n3 ds w
def F92_k8 (R : Rt) : EP := (fun E ds w => dStr (E 0) fun s0 => dInt .i64 (E 3) fun n3 => F92_6 R s0 n3 ds w)
def F92_7 (R : Rt) (s0 : ByteArray) (ds : Ds) (w : World) : Prop :=
 Br (decide ((s0.size : Int) < 1)) (
 runD prog ds w fun w10 =>
 R (.returned (.bool false)) w10) (
 Br (decide ((s0.size : Int) > 10)) (
 runD prog ds w fun w11 =>
 R (.returned (.bool false)) w11) (
 F92_6 R s0 0 ds w))
theorem c92_l : flat (bodyOf f92) = [c92_0, c92_1, c92_2, c92_3, c92_4, c92_5, c92_6] := by kernel_rfl
theorem c92_4_l : flat (innerC c92_4) = [c92_4_0] := by kernel_rfl
theorem c92_4_0_l : flat (innerC c92_4_0) = [c92_4_0_0, c92_4_0_1, c92_4_0_2, c92_4_0_3] := by kernel_rfl
theorem F92_1_ok (R : Rt) (ds : Ds) (w : World) (E : Env) (h : F92_1 R ds w) :
    TrL prog f92.ntmps [c92_5, c92_6] (F92_q1 R) E ds w :=
  TrL_leaf (X := F92_1 R ds w) setAll_nil (by kernel_rfl) (by kernel_rfl) h
theorem F92_2_ok (R : Rt) (J1 : (Int) -> World -> Prop) (s0 : ByteArray) (n3 : Int) (ds : Ds) (w : World) (E : Env) (e0 : E 0 = .string s0) (e3 : E 3 = .int .i64 n3) (h : F92_2 R J1 s0 n3 ds w) :
    TrL prog f92.ntmps [c92_4_0_3] (F92_q5 R J1) E ds w :=
  TrL_leaf (X := F92_2 R J1 s0 n3 ds w) (setAll_cons e0 (setAll_cons e3 setAll_nil)) (by kernel_rfl) (by kernel_rfl) h
theorem F92_3_ok (R : Rt) (J1 : (Int) -> World -> Prop) (s0 : ByteArray) (n3 : Int) (ds : Ds) (w : World) (E : Env) (e0 : E 0 = .string s0) (e3 : E 3 = .int .i64 n3) (h : F92_3 R J1 s0 n3 ds w) :
    TrL prog f92.ntmps [c92_4_0_2, c92_4_0_3] (F92_q5 R J1) E ds w :=
  TrL_piece (pre := [c92_4_0_2]) (K := (F92_k6 R J1)) (X := F92_3 R J1 s0 n3 ds w) (setAll_cons e0 (setAll_cons e3 setAll_nil)) (by kernel_rfl) (by kernel_rfl)
    (fun E' ds' w' hD => by
      obtain ⟨s0, e0, hD⟩ := dStr_elim hD; obtain ⟨n3, e3, hD⟩ := dInt_elim hD; exact F92_2_ok R J1 s0 n3 ds' w' E' e0 e3 hD) h
theorem F92_4_ok (R : Rt) (J1 : (Int) -> World -> Prop) (s0 : ByteArray) (n3 : Int) (ds : Ds) (w : World) (E : Env) (e0 : E 0 = .string s0) (e3 : E 3 = .int .i64 n3) (h : F92_4 R J1 s0 n3 ds w) :
    TrL prog f92.ntmps [c92_4_0_0, c92_4_0_1, c92_4_0_2, c92_4_0_3] (F92_q5 R J1) E ds w :=
  TrL_piece (pre := [c92_4_0_0, c92_4_0_1]) (K := (F92_k7 R J1)) (X := F92_4 R J1 s0 n3 ds w) (setAll_cons e0 (setAll_cons e3 setAll_nil)) (by kernel_rfl) (by kernel_rfl)
    (fun E' ds' w' hD => by
      obtain ⟨s0, e0, hD⟩ := dStr_elim hD; obtain ⟨n3, e3, hD⟩ := dInt_elim hD; exact F92_3_ok R J1 s0 n3 ds' w' E' e0 e3 hD) h
theorem F92_5_ok (R : Rt) (s0 : ByteArray) (n3 : Int) (ds : Ds) (w : World) (E : Env) (e0 : E 0 = .string s0) (e3 : E 3 = .int .i64 n3) (h : F92_5 R s0 n3 ds w) :
    TrL prog f92.ntmps [c92_4_0] (F92_q4 R) E ds w :=
  TrL_one (Tr_loop' (c := innerC c92_4_0) (σ := Int) (enc := (fun (s : Int) (E : Env) => E 3 = .int .i64 s)) (D := (fun E K => dInt .i64 (E 3) fun n3 => K n3)) (F := (fun (J1 : (Int) -> World -> Prop) (s : Int) (w : World) => F92_4 R J1 s0 s ds w)) (s0 := n3) (by kernel_rfl) c92_4_0_l e3 (by kernel_rfl) (fun E K hD => by obtain ⟨n3, e3, hD⟩ := dInt_elim hD; exact ⟨n3, e3, hD⟩)
      (fun J1 s E' w' he ha hF => by
      have e3' := he
      exact F92_4_ok R J1 s0 s ds w' E' ((ha 0 (by kernel_rfl)).trans e0) e3' hF) h)
theorem F92_6_ok (R : Rt) (s0 : ByteArray) (n3 : Int) (ds : Ds) (w : World) (E : Env) (e0 : E 0 = .string s0) (e3 : E 3 = .int .i64 n3) (h : F92_6 R s0 n3 ds w) :
    TrL prog f92.ntmps [c92_4, c92_5, c92_6] (F92_q1 R) E ds w :=
  TrL_head (K := (F92_k2 R)) (Tr_block' (c := innerC c92_4) (by kernel_rfl) c92_4_l (F92_5_ok R s0 n3 ds w E e0 e3 h))
    (fun E' ds' w' hD => by
      exact F92_1_ok R ds' w' E'  hD)
theorem F92_7_ok (R : Rt) (s0 : ByteArray) (ds : Ds) (w : World) (E : Env) (e0 : E 0 = .string s0) (h : F92_7 R s0 ds w) :
    TrL prog f92.ntmps [c92_0, c92_1, c92_2, c92_3, c92_4, c92_5, c92_6] (F92_q1 R) E ds w :=
  TrL_piece (pre := [c92_0, c92_1, c92_2, c92_3]) (K := (F92_k8 R)) (X := F92_7 R s0 ds w) (setAll_cons e0 setAll_nil) (by kernel_rfl) (by kernel_rfl)
    (fun E' ds' w' hD => by
      obtain ⟨s0, e0, hD⟩ := dStr_elim hD; obtain ⟨n3, e3, hD⟩ := dInt_elim hD; exact F92_6_ok R s0 n3 ds' w' E' e0 e3 hD) h
theorem F92_calls (s0 : ByteArray) (w : World) (R : Rt) (h : F92_7 R s0 [] w) : Calls prog 92 #[.string s0] w R :=
  calls_of_L (l := [c92_0, c92_1, c92_2, c92_3, c92_4, c92_5, c92_6]) func92 (by kernel_rfl) (by rw [ntmps92]; exact Nat.le_of_ble_eq_true (by kernel_rfl)) c92_l
    (F92_7_ok R s0 [] w _ rfl h)
noncomputable def c112_0 := cI1 f112 0
noncomputable def c112_1 := cI1 f112 1
noncomputable def c112_2 := cI1 f112 2
def F112_q1 (R : Rt) : EQ := endQ prog f112.results.toList R
def F112_1 (R : Rt) (n0 : Int) (ds : Ds) (w : World) : Prop :=
 Br (decide (n0 ≥ 48)) (
 runD prog ds w fun w1 =>
 R (.returned (.bool (decide (n0 <= 57)))) w1) (
 runD prog ds w fun w2 =>
 R (.returned (.bool false)) w2)
theorem c112_l : flat (bodyOf f112) = [c112_0, c112_1, c112_2] := by kernel_rfl
theorem F112_1_ok (R : Rt) (n0 : Int) (ds : Ds) (w : World) (E : Env) (e0 : E 0 = .int .u8 n0) (h : F112_1 R n0 ds w) :
    TrL prog f112.ntmps [c112_0, c112_1, c112_2] (F112_q1 R) E ds w :=
  TrL_leaf (X := F112_1 R n0 ds w) (setAll_cons e0 setAll_nil) (by kernel_rfl) (by kernel_rfl) h
theorem F112_calls (n0 : Int) (w : World) (R : Rt) (h : F112_1 R n0 [] w) : Calls prog 112 #[.int .u8 n0] w R :=
  calls_of_L (l := [c112_0, c112_1, c112_2]) func112 (by kernel_rfl) (by rw [ntmps112]; exact Nat.le_of_ble_eq_true (by kernel_rfl)) c112_l
    (F112_1_ok R n0 [] w _ rfl h)
noncomputable def c39_0 := cI1 f39 0
noncomputable def c39_1 := cI1 f39 1
noncomputable def c39_2 := cI1 f39 2
noncomputable def c39_3 := cI1 f39 3
noncomputable def c39_4 := cI1 f39 4
noncomputable def c39_5 := cI1 f39 5
noncomputable def c39_6 := cI1 f39 6
noncomputable def c39_4_0 := cJ1 c39_4 0
noncomputable def c39_4_0_0 := cJ1 c39_4_0 0
noncomputable def c39_4_0_1 := cJ1 c39_4_0 1
noncomputable def c39_4_0_2 := cJ1 c39_4_0 2
noncomputable def c39_4_0_3 := cJ1 c39_4_0 3
def F39_q1 (R : Rt) : EQ := endQ prog f39.results.toList R
def F39_1 (R : Rt) (ds : Ds) (w : World) : Prop :=
 runD prog ds w fun w1 =>
 R (.returned (.bool true)) w1
def F39_k2 (R : Rt) : EP := (fun E ds w => F39_1 R ds w)
def F39_q3 (R : Rt) : EQ := (thenQ (F39_k2 R) (F39_q1 R))
def F39_q4 (R : Rt) : EQ := (blockQ 0 (F39_q3 R))
def F39_q5 (R : Rt) (J1 : (Int) -> World -> Prop) : EQ := (thenQ (fun E _ w => dInt .i64 (E 5) fun n5 => J1 n5 w) (F39_q4 R))
def F39_2 (R : Rt) (J1 : (Int) -> World -> Prop) (l0 l1 : SV) (n5 : Int) (ds : Ds) (w : World) : Prop :=
 Br (decide (n5 < (l0.len : Int))) (
 dwE w fun w2 =>
 ∃ a3 : Addr, l0.a = some a3 /\ 0 <= n5 /\ n5 < (l0.len : Int) /\
 ∃ n20 : Int, w2.cell? (a3.add (n5.toNat * 1)) = some (.int .i64 n20) /\
 ∃ a4 : Addr, l1.a = some a4 /\ 0 <= n5 /\ n5 < (l1.len : Int) /\
 ∃ n24 : Int, w2.cell? (a4.add (n5.toNat * 1)) = some (.int .i64 n24) /\
 Br (n20 != n24) (
 runD prog ds w2 fun w5 =>
 R (.returned (.bool false)) w5) (
 J1 (IntKind.i64.wrap (n5 + 1)) w2)) (
 F39_1 R ds w)
def F39_3 (R : Rt) (l0 l1 : SV) (n5 : Int) (ds : Ds) (w : World) : Prop :=
 loopT (fun (J1 : (Int) -> World -> Prop) (s : Int) (w : World) => F39_2 R J1 l0 l1 s ds w) n5 w
abbrev F39_4 (R : Rt) (l0 l1 : SV) (n5 : Int) (ds : Ds) (w : World) : Prop := F39_3 R l0 l1 n5 ds w
def F39_k6 (R : Rt) : EP := (fun E ds w => dSl (E 0) fun l0 => dSl (E 1) fun l1 => dInt .i64 (E 5) fun n5 => F39_4 R l0 l1 n5 ds w)
def F39_5 (R : Rt) (l0 l1 : SV) (ds : Ds) (w : World) : Prop :=
 Br ((l0.len : Int) != (l1.len : Int)) (
 runD prog ds w fun w6 =>
 R (.returned (.bool false)) w6) (
 F39_4 R l0 l1 0 ds w)
theorem c39_l : flat (bodyOf f39) = [c39_0, c39_1, c39_2, c39_3, c39_4, c39_5, c39_6] := by kernel_rfl
theorem c39_4_l : flat (innerC c39_4) = [c39_4_0] := by kernel_rfl
theorem c39_4_0_l : flat (innerC c39_4_0) = [c39_4_0_0, c39_4_0_1, c39_4_0_2, c39_4_0_3] := by kernel_rfl
theorem F39_1_ok (R : Rt) (ds : Ds) (w : World) (E : Env) (h : F39_1 R ds w) :
    TrL prog f39.ntmps [c39_5, c39_6] (F39_q1 R) E ds w :=
  TrL_leaf (X := F39_1 R ds w) setAll_nil (by kernel_rfl) (by kernel_rfl) h
theorem F39_2_ok (R : Rt) (J1 : (Int) -> World -> Prop) (l0 l1 : SV) (n5 : Int) (ds : Ds) (w : World) (E : Env) (e0 : E 0 = .slice l0.a l0.len l0.cap) (e1 : E 1 = .slice l1.a l1.len l1.cap) (e5 : E 5 = .int .i64 n5) (h : F39_2 R J1 l0 l1 n5 ds w) :
    TrL prog f39.ntmps [c39_4_0_0, c39_4_0_1, c39_4_0_2, c39_4_0_3] (F39_q5 R J1) E ds w :=
  TrL_leaf (X := F39_2 R J1 l0 l1 n5 ds w) (setAll_cons e0 (setAll_cons e1 (setAll_cons e5 setAll_nil))) (by kernel_rfl) (by kernel_rfl) h
theorem F39_3_ok (R : Rt) (l0 l1 : SV) (n5 : Int) (ds : Ds) (w : World) (E : Env) (e0 : E 0 = .slice l0.a l0.len l0.cap) (e1 : E 1 = .slice l1.a l1.len l1.cap) (e5 : E 5 = .int .i64 n5) (h : F39_3 R l0 l1 n5 ds w) :
    TrL prog f39.ntmps [c39_4_0] (F39_q4 R) E ds w :=
  TrL_one (Tr_loop' (c := innerC c39_4_0) (σ := Int) (enc := (fun (s : Int) (E : Env) => E 5 = .int .i64 s)) (D := (fun E K => dInt .i64 (E 5) fun n5 => K n5)) (F := (fun (J1 : (Int) -> World -> Prop) (s : Int) (w : World) => F39_2 R J1 l0 l1 s ds w)) (s0 := n5) (by kernel_rfl) c39_4_0_l e5 (by kernel_rfl) (fun E K hD => by obtain ⟨n5, e5, hD⟩ := dInt_elim hD; exact ⟨n5, e5, hD⟩)
      (fun J1 s E' w' he ha hF => by
      have e5' := he
      exact F39_2_ok R J1 l0 l1 s ds w' E' ((ha 0 (by kernel_rfl)).trans e0) ((ha 1 (by kernel_rfl)).trans e1) e5' hF) h)
theorem F39_4_ok (R : Rt) (l0 l1 : SV) (n5 : Int) (ds : Ds) (w : World) (E : Env) (e0 : E 0 = .slice l0.a l0.len l0.cap) (e1 : E 1 = .slice l1.a l1.len l1.cap) (e5 : E 5 = .int .i64 n5) (h : F39_4 R l0 l1 n5 ds w) :
    TrL prog f39.ntmps [c39_4, c39_5, c39_6] (F39_q1 R) E ds w :=
  TrL_head (K := (F39_k2 R)) (Tr_block' (c := innerC c39_4) (by kernel_rfl) c39_4_l (F39_3_ok R l0 l1 n5 ds w E e0 e1 e5 h))
    (fun E' ds' w' hD => by
      exact F39_1_ok R ds' w' E'  hD)
theorem F39_5_ok (R : Rt) (l0 l1 : SV) (ds : Ds) (w : World) (E : Env) (e0 : E 0 = .slice l0.a l0.len l0.cap) (e1 : E 1 = .slice l1.a l1.len l1.cap) (h : F39_5 R l0 l1 ds w) :
    TrL prog f39.ntmps [c39_0, c39_1, c39_2, c39_3, c39_4, c39_5, c39_6] (F39_q1 R) E ds w :=
  TrL_piece (pre := [c39_0, c39_1, c39_2, c39_3]) (K := (F39_k6 R)) (X := F39_5 R l0 l1 ds w) (setAll_cons e0 (setAll_cons e1 setAll_nil)) (by kernel_rfl) (by kernel_rfl)
    (fun E' ds' w' hD => by
      obtain ⟨l0, e0, hD⟩ := dSl_elim hD; obtain ⟨l1, e1, hD⟩ := dSl_elim hD; obtain ⟨n5, e5, hD⟩ := dInt_elim hD; exact F39_4_ok R l0 l1 n5 ds' w' E' e0 e1 e5 hD) h
theorem F39_calls (l0 l1 : SV) (w : World) (R : Rt) (h : F39_5 R l0 l1 [] w) : Calls prog 39 #[.slice l0.a l0.len l0.cap, .slice l1.a l1.len l1.cap] w R :=
  calls_of_L (l := [c39_0, c39_1, c39_2, c39_3, c39_4, c39_5, c39_6]) func39 (by kernel_rfl) (by rw [ntmps39]; exact Nat.le_of_ble_eq_true (by kernel_rfl)) c39_l
    (F39_5_ok R l0 l1 [] w _ rfl rfl h)
end Go.Proofs.YtnigfiljenfgjaaGreat
