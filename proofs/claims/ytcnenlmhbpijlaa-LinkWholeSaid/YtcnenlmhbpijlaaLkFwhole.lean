/- Shallow texts of functions, printed by program, each checked by the kernel against the loaded code. No condition. -/
import Derived.Test.YtcnenlmhbpijlaaProg
import Derived.Test.YtcnenlmhbpijlaaShEight
set_option maxRecDepth 100000
set_option linter.unusedVariables false
namespace Go.Proofs.Ytcnenlmhbpijlaa
open Go.Sh
/-! function 3: cabinetry/cabinetrylaw24.LinkWhole -/
noncomputable def c3_0 : Code := itemAt (flat (bodyOf Try.f3)) 0
noncomputable def c3_1 : Code := itemAt (flat (bodyOf Try.f3)) 1
noncomputable def c3_2 : Code := itemAt (flat (bodyOf Try.f3)) 2
noncomputable def c3_3 : Code := itemAt (flat (bodyOf Try.f3)) 3
noncomputable def c3_4 : Code := itemAt (flat (bodyOf Try.f3)) 4
noncomputable def c3_5 : Code := itemAt (flat (bodyOf Try.f3)) 5
noncomputable def c3_6 : Code := itemAt (flat (bodyOf Try.f3)) 6
noncomputable def c3_7 : Code := itemAt (flat (bodyOf Try.f3)) 7
noncomputable def c3_8 : Code := itemAt (flat (bodyOf Try.f3)) 8
noncomputable def c3_9 : Code := itemAt (flat (bodyOf Try.f3)) 9
noncomputable def c3_10 : Code := itemAt (flat (bodyOf Try.f3)) 10
noncomputable def c3_11 : Code := itemAt (flat (bodyOf Try.f3)) 11
noncomputable def c3_12 : Code := itemAt (flat (bodyOf Try.f3)) 12
noncomputable def c3_6_0 : Code := itemAt (flat (innerC c3_6)) 0
noncomputable def c3_6_0_0 : Code := itemAt (flat (innerC c3_6_0)) 0
noncomputable def c3_6_0_1 : Code := itemAt (flat (innerC c3_6_0)) 1
noncomputable def c3_6_0_2 : Code := itemAt (flat (innerC c3_6_0)) 2
noncomputable def c3_6_0_3 : Code := itemAt (flat (innerC c3_6_0)) 3
def F3_q1 (R : Rt) : EQ := endQ Try.prog Try.f3.results.toList R
def F3_1 (R : Rt) (n13 : Int) (n15 : Int) (n16 : Int) (ds : Ds) (w : World) : Prop :=
 Br (n13 == 0) (
 Br (decide (n15 ≤ 1)) (
 Br (n16 != 0) (
 Calls Try.prog 16 #[] w fun e w1 =>
 ∃ b99 : Bool, e = .returned (.bool b99) ∧
 runD Try.prog ds w1 fun w2 =>
 R (.returned (.bool b99)) w2) (
 Br (n15 == 1) (
 Calls Try.prog 16 #[] w fun e w3 =>
 ∃ b99 : Bool, e = .returned (.bool b99) ∧
 runD Try.prog ds w3 fun w4 =>
 R (.returned (.bool b99)) w4) (
 runD Try.prog ds w fun w5 =>
 R (.returned (.bool false)) w5))) (
 runD Try.prog ds w fun w6 =>
 R (.returned (.bool false)) w6)) (
 runD Try.prog ds w fun w7 =>
 R (.returned (.bool false)) w7)
def F3_k2 (R : Rt) : EP := (fun ρ ds w => dInt .i64 (ρ 13) fun n13 => dInt .i64 (ρ 15) fun n15 => dInt .i64 (ρ 16) fun n16 => F3_1 R n13 n15 n16 ds w)
def F3_2 (R : Rt) (l0 : SV) (s1 : ByteArray) (l2 : SV) (n8 : Int) (l9 : SV) (l10 : SV) (ds : Ds) (w : World) : Prop :=
 Calls Try.prog 17 #[.slice l9.a l9.len l9.cap, .string s1, .slice l2.a l2.len l2.cap] w fun e w8 =>
 ∃ n61_0 : Int, ∃ n61_1 : Int, e = .returned (.tuple #[.int .i64 n61_0, .int .i64 n61_1]) ∧
 Calls Try.prog 17 #[.slice l10.a l10.len l10.cap, .string s1, .slice l2.a l2.len l2.cap] w8 fun e w9 =>
 ∃ n68_0 : Int, ∃ n68_1 : Int, e = .returned (.tuple #[.int .i64 n68_0, .int .i64 n68_1]) ∧
 Calls Try.prog 18 #[.slice l0.a l0.len l0.cap] w9 fun e w10 =>
 ∃ n72 : Int, e = .returned (.int .i64 n72) ∧
 Br (n72 == 0) (
 Br (n61_1 != n8) (
 runD Try.prog ds w10 fun w11 =>
 R (.returned (.bool false)) w11) (
 Br (n68_1 != n8) (
 runD Try.prog ds w10 fun w12 =>
 R (.returned (.bool false)) w12) (
 F3_1 R n61_0 n68_0 n68_1 ds w10))) (
 F3_1 R n61_0 n68_0 n68_1 ds w10)
def F3_k3 (R : Rt) : EP := (fun ρ ds w => dSl (ρ 0) fun l0 => dStr (ρ 1) fun s1 => dSl (ρ 2) fun l2 => dInt .i64 (ρ 8) fun n8 => dSl (ρ 9) fun l9 => dSl (ρ 10) fun l10 => F3_2 R l0 s1 l2 n8 l9 l10 ds w)
def F3_q4 (R : Rt) : EQ := (thenQ (F3_k3 R) (F3_q1 R))
def F3_q5 (R : Rt) : EQ := (blockQ 0 (F3_q4 R))
def F3_q6 (R : Rt) (J1 : (SV × SV × Int) → World → Prop) : EQ := (thenQ (fun ρ _ w => dSl (ρ 9) fun l9 => dSl (ρ 10) fun l10 => dInt .i64 (ρ 11) fun n11 => J1 (l9, l10, n11) w) (F3_q5 R))
def F3_3 (R : Rt) (J1 : (SV × SV × Int) → World → Prop) (l0 : SV) (s1 : ByteArray) (l2 : SV) (n8 : Int) (l9 : SV) (l10 : SV) (n11 : Int) (ds : Ds) (w : World) : Prop :=
 Br (decide (n11 < ((l0.len : Nat) : Int))) (
 ∃ a13 : Addr, l0.a = some a13 ∧ 0 ≤ n11 ∧ n11 < ((l0.len : Nat) : Int) ∧
 ∃ s46_0 : ByteArray, w.cell? ((a13.add (n11.toNat * 5)).add 0) = some (.string s46_0) ∧
 ∃ n46_1 : Int, w.cell? ((a13.add (n11.toNat * 5)).add 1) = some (.int .i64 n46_1) ∧
 ∃ l46_2 : SV, w.cell? ((a13.add (n11.toNat * 5)).add 2) = some (.slice l46_2.a l46_2.len l46_2.cap) ∧
 ∃ l46_3 : SV, w.cell? ((a13.add (n11.toNat * 5)).add 3) = some (.slice l46_3.a l46_3.len l46_3.cap) ∧
 ∃ l46_4 : SV, w.cell? ((a13.add (n11.toNat * 5)).add 4) = some (.slice l46_4.a l46_4.len l46_4.cap) ∧
 alE (.cells #[.string (⟨#[]⟩ : ByteArray), .int .i64 0, .slice none 0 0, .slice none 0 0, .slice none 0 0] 33) w fun r12 w14 =>
 stA Try.prog 33 (⟨r12, 0, none⟩ : Addr) #[.string s46_0, .int .i64 n46_1, .slice l46_2.a l46_2.len l46_2.cap, .slice l46_3.a l46_3.len l46_3.cap, .slice l46_4.a l46_4.len l46_4.cap] w14 fun w15 =>
 st1 ((⟨r12, 0, none⟩ : Addr).add 1) (.int .i64 0) w15 fun w16 =>
 ∃ s49_0 : ByteArray, w16.cell? ((⟨r12, 0, none⟩ : Addr).add 0) = some (.string s49_0) ∧
 ∃ n49_1 : Int, w16.cell? ((⟨r12, 0, none⟩ : Addr).add 1) = some (.int .i64 n49_1) ∧
 ∃ l49_2 : SV, w16.cell? ((⟨r12, 0, none⟩ : Addr).add 2) = some (.slice l49_2.a l49_2.len l49_2.cap) ∧
 ∃ l49_3 : SV, w16.cell? ((⟨r12, 0, none⟩ : Addr).add 3) = some (.slice l49_3.a l49_3.len l49_3.cap) ∧
 ∃ l49_4 : SV, w16.cell? ((⟨r12, 0, none⟩ : Addr).add 4) = some (.slice l49_4.a l49_4.len l49_4.cap) ∧
 alE (.cells #[.string s49_0, .int .i64 n49_1, .slice l49_2.a l49_2.len l49_2.cap, .slice l49_3.a l49_3.len l49_3.cap, .slice l49_4.a l49_4.len l49_4.cap] 33) w16 fun r50 w17 =>
 ∃ l51 : SV, ∃ w18 : World, (Builtin.append_ #[22, 22] 22 #[.slice l9.a l9.len l9.cap, .slice (some ⟨r50, 0, none⟩) 1 1]).run Try.prog w17 = .ok (.slice l51.a l51.len l51.cap) w18 ∧
 st1 ((⟨r12, 0, none⟩ : Addr).add 1) (.int .i64 1) w18 fun w19 =>
 ∃ s54_0 : ByteArray, w19.cell? ((⟨r12, 0, none⟩ : Addr).add 0) = some (.string s54_0) ∧
 ∃ n54_1 : Int, w19.cell? ((⟨r12, 0, none⟩ : Addr).add 1) = some (.int .i64 n54_1) ∧
 ∃ l54_2 : SV, w19.cell? ((⟨r12, 0, none⟩ : Addr).add 2) = some (.slice l54_2.a l54_2.len l54_2.cap) ∧
 ∃ l54_3 : SV, w19.cell? ((⟨r12, 0, none⟩ : Addr).add 3) = some (.slice l54_3.a l54_3.len l54_3.cap) ∧
 ∃ l54_4 : SV, w19.cell? ((⟨r12, 0, none⟩ : Addr).add 4) = some (.slice l54_4.a l54_4.len l54_4.cap) ∧
 alE (.cells #[.string s54_0, .int .i64 n54_1, .slice l54_2.a l54_2.len l54_2.cap, .slice l54_3.a l54_3.len l54_3.cap, .slice l54_4.a l54_4.len l54_4.cap] 33) w19 fun r55 w20 =>
 ∃ l56 : SV, ∃ w21 : World, (Builtin.append_ #[22, 22] 22 #[.slice l10.a l10.len l10.cap, .slice (some ⟨r55, 0, none⟩) 1 1]).run Try.prog w20 = .ok (.slice l56.a l56.len l56.cap) w21 ∧
 J1 (l51, l56, (IntKind.i64.wrap (n11 + 1))) w21) (
 F3_2 R l0 s1 l2 n8 l9 l10 ds w)
def F3_4 (R : Rt) (l0 : SV) (s1 : ByteArray) (l2 : SV) (n8 : Int) (l9 : SV) (l10 : SV) (n11 : Int) (ds : Ds) (w : World) : Prop :=
 loopT (fun (J1 : (SV × SV × Int) → World → Prop) (s : SV × SV × Int) (w : World) => F3_3 R J1 l0 s1 l2 n8 s.1 s.2.1 s.2.2 ds w) (l9, l10, n11) w
@[reducible] def F3_5 (R : Rt) (l0 : SV) (s1 : ByteArray) (l2 : SV) (n8 : Int) (l9 : SV) (l10 : SV) (n11 : Int) (ds : Ds) (w : World) : Prop := F3_4 R l0 s1 l2 n8 l9 l10 n11 ds w
def F3_k7 (R : Rt) : EP := (fun ρ ds w => dSl (ρ 0) fun l0 => dStr (ρ 1) fun s1 => dSl (ρ 2) fun l2 => dInt .i64 (ρ 8) fun n8 => dSl (ρ 9) fun l9 => dSl (ρ 10) fun l10 => dInt .i64 (ρ 11) fun n11 => F3_5 R l0 s1 l2 n8 l9 l10 n11 ds w)
def F3_6 (R : Rt) (l0 : SV) (s1 : ByteArray) (l2 : SV) (ds : Ds) (w : World) : Prop :=
 Calls Try.prog 14 #[.slice l0.a l0.len l0.cap] w fun e w22 =>
 ∃ b18 : Bool, e = .returned (.bool b18) ∧
 Br b18 (
 Calls Try.prog 16 #[] w22 fun e w23 =>
 ∃ b29 : Bool, e = .returned (.bool b29) ∧
 runD Try.prog ds w23 fun w24 =>
 R (.returned (.bool b29)) w24) (
 Br (decide (((s1.size : Nat) : Int) > 65536)) (
 Calls Try.prog 16 #[] w22 fun e w25 =>
 ∃ b29 : Bool, e = .returned (.bool b29) ∧
 runD Try.prog ds w25 fun w26 =>
 R (.returned (.bool b29)) w26) (
 Calls Try.prog 15 #[.slice l2.a l2.len l2.cap] w22 fun e w27 =>
 ∃ n26 : Int, e = .returned (.int .i64 n26) ∧
 Br (decide (n26 > 65536)) (
 Calls Try.prog 16 #[] w27 fun e w28 =>
 ∃ b29 : Bool, e = .returned (.bool b29) ∧
 runD Try.prog ds w28 fun w29 =>
 R (.returned (.bool b29)) w29) (
 Calls Try.prog 17 #[.slice l0.a l0.len l0.cap, .string s1, .slice l2.a l2.len l2.cap] w27 fun e w30 =>
 ∃ n34_0 : Int, ∃ n34_1 : Int, e = .returned (.tuple #[.int .i64 n34_0, .int .i64 n34_1]) ∧
 F3_5 R l0 s1 l2 n34_1 ⟨none, 0, 0⟩ ⟨none, 0, 0⟩ 0 ds w30)))
theorem c3_l : flat (bodyOf Try.f3) = [c3_0, c3_1, c3_2, c3_3, c3_4, c3_5, c3_6, c3_7, c3_8, c3_9, c3_10, c3_11, c3_12] := by kernel_rfl
theorem c3_6_l : flat (innerC c3_6) = [c3_6_0] := by kernel_rfl
theorem c3_6_0_l : flat (innerC c3_6_0) = [c3_6_0_0, c3_6_0_1, c3_6_0_2, c3_6_0_3] := by kernel_rfl
theorem F3_1_ok (R : Rt) (n13 : Int) (n15 : Int) (n16 : Int) (ds : Ds) (w : World) (ρ : Env) (e13 : ρ 13 = .int .i64 n13) (e15 : ρ 15 = .int .i64 n15) (e16 : ρ 16 = .int .i64 n16) (h : F3_1 R n13 n15 n16 ds w) :
    TrL Try.prog Try.f3.ntmps [c3_11, c3_12] (F3_q1 R) ρ ds w :=
  TrL_leaf (X := F3_1 R n13 n15 n16 ds w) (setAll_cons e13 (setAll_cons e15 (setAll_cons e16 setAll_nil))) (by kernel_rfl) (by kernel_rfl) h
theorem F3_2_ok (R : Rt) (l0 : SV) (s1 : ByteArray) (l2 : SV) (n8 : Int) (l9 : SV) (l10 : SV) (ds : Ds) (w : World) (ρ : Env) (e0 : ρ 0 = .slice l0.a l0.len l0.cap) (e1 : ρ 1 = .string s1) (e2 : ρ 2 = .slice l2.a l2.len l2.cap) (e8 : ρ 8 = .int .i64 n8) (e9 : ρ 9 = .slice l9.a l9.len l9.cap) (e10 : ρ 10 = .slice l10.a l10.len l10.cap) (h : F3_2 R l0 s1 l2 n8 l9 l10 ds w) :
    TrL Try.prog Try.f3.ntmps [c3_7, c3_8, c3_9, c3_10, c3_11, c3_12] (F3_q1 R) ρ ds w :=
  TrL_piece (pre := [c3_7, c3_8, c3_9, c3_10]) (K := (F3_k2 R)) (X := F3_2 R l0 s1 l2 n8 l9 l10 ds w) (setAll_cons e0 (setAll_cons e1 (setAll_cons e2 (setAll_cons e8 (setAll_cons e9 (setAll_cons e10 setAll_nil)))))) (by kernel_rfl) (by kernel_rfl)
    (fun ρ' ds' w' hD => by
      obtain ⟨n13, e13, hD⟩ := dInt_elim hD; obtain ⟨n15, e15, hD⟩ := dInt_elim hD; obtain ⟨n16, e16, hD⟩ := dInt_elim hD; exact F3_1_ok R n13 n15 n16 ds' w' ρ' e13 e15 e16 hD) h
theorem F3_3_ok (R : Rt) (J1 : (SV × SV × Int) → World → Prop) (l0 : SV) (s1 : ByteArray) (l2 : SV) (n8 : Int) (l9 : SV) (l10 : SV) (n11 : Int) (ds : Ds) (w : World) (ρ : Env) (e0 : ρ 0 = .slice l0.a l0.len l0.cap) (e1 : ρ 1 = .string s1) (e2 : ρ 2 = .slice l2.a l2.len l2.cap) (e8 : ρ 8 = .int .i64 n8) (e9 : ρ 9 = .slice l9.a l9.len l9.cap) (e10 : ρ 10 = .slice l10.a l10.len l10.cap) (e11 : ρ 11 = .int .i64 n11) (h : F3_3 R J1 l0 s1 l2 n8 l9 l10 n11 ds w) :
    TrL Try.prog Try.f3.ntmps [c3_6_0_0, c3_6_0_1, c3_6_0_2, c3_6_0_3] (F3_q6 R J1) ρ ds w :=
  TrL_leaf (X := F3_3 R J1 l0 s1 l2 n8 l9 l10 n11 ds w) (setAll_cons e0 (setAll_cons e1 (setAll_cons e2 (setAll_cons e8 (setAll_cons e9 (setAll_cons e10 (setAll_cons e11 setAll_nil))))))) (by kernel_rfl) (by kernel_rfl) h
theorem F3_4_ok (R : Rt) (l0 : SV) (s1 : ByteArray) (l2 : SV) (n8 : Int) (l9 : SV) (l10 : SV) (n11 : Int) (ds : Ds) (w : World) (ρ : Env) (e0 : ρ 0 = .slice l0.a l0.len l0.cap) (e1 : ρ 1 = .string s1) (e2 : ρ 2 = .slice l2.a l2.len l2.cap) (e8 : ρ 8 = .int .i64 n8) (e9 : ρ 9 = .slice l9.a l9.len l9.cap) (e10 : ρ 10 = .slice l10.a l10.len l10.cap) (e11 : ρ 11 = .int .i64 n11) (h : F3_4 R l0 s1 l2 n8 l9 l10 n11 ds w) :
    TrL Try.prog Try.f3.ntmps [c3_6_0] (F3_q5 R) ρ ds w :=
  TrL_one (Tr_loop' (c := innerC c3_6_0) (σ := SV × SV × Int) (enc := (fun (s : SV × SV × Int) (ρ : Env) => ρ 9 = .slice s.1.a s.1.len s.1.cap ∧ ρ 10 = .slice s.2.1.a s.2.1.len s.2.1.cap ∧ ρ 11 = .int .i64 s.2.2)) (D := (fun ρ K => dSl (ρ 9) fun l9 => dSl (ρ 10) fun l10 => dInt .i64 (ρ 11) fun n11 => K (l9, l10, n11))) (F := (fun (J1 : (SV × SV × Int) → World → Prop) (s : SV × SV × Int) (w : World) => F3_3 R J1 l0 s1 l2 n8 s.1 s.2.1 s.2.2 ds w)) (s0 := (l9, l10, n11)) (by kernel_rfl) c3_6_0_l ⟨e9, e10, e11⟩ (by kernel_rfl) (fun ρ K hD => by obtain ⟨l9, e9, hD⟩ := dSl_elim hD; obtain ⟨l10, e10, hD⟩ := dSl_elim hD; obtain ⟨n11, e11, hD⟩ := dInt_elim hD; exact ⟨(l9, l10, n11), ⟨e9, e10, e11⟩, hD⟩)
      (fun J1 s ρ' w' he ha hF => by
      obtain ⟨e9', e10', e11'⟩ := he
      exact F3_3_ok R J1 l0 s1 l2 n8 s.1 s.2.1 s.2.2 ds w' ρ' ((ha 0 (by kernel_rfl)).trans e0) ((ha 1 (by kernel_rfl)).trans e1) ((ha 2 (by kernel_rfl)).trans e2) ((ha 8 (by kernel_rfl)).trans e8) e9' e10' e11' hF) h)
theorem F3_5_ok (R : Rt) (l0 : SV) (s1 : ByteArray) (l2 : SV) (n8 : Int) (l9 : SV) (l10 : SV) (n11 : Int) (ds : Ds) (w : World) (ρ : Env) (e0 : ρ 0 = .slice l0.a l0.len l0.cap) (e1 : ρ 1 = .string s1) (e2 : ρ 2 = .slice l2.a l2.len l2.cap) (e8 : ρ 8 = .int .i64 n8) (e9 : ρ 9 = .slice l9.a l9.len l9.cap) (e10 : ρ 10 = .slice l10.a l10.len l10.cap) (e11 : ρ 11 = .int .i64 n11) (h : F3_5 R l0 s1 l2 n8 l9 l10 n11 ds w) :
    TrL Try.prog Try.f3.ntmps [c3_6, c3_7, c3_8, c3_9, c3_10, c3_11, c3_12] (F3_q1 R) ρ ds w :=
  TrL_head (K := (F3_k3 R)) (Tr_block' (c := innerC c3_6) (by kernel_rfl) c3_6_l (F3_4_ok R l0 s1 l2 n8 l9 l10 n11 ds w ρ e0 e1 e2 e8 e9 e10 e11 h))
    (fun ρ' ds' w' hD => by
      obtain ⟨l0, e0, hD⟩ := dSl_elim hD; obtain ⟨s1, e1, hD⟩ := dStr_elim hD; obtain ⟨l2, e2, hD⟩ := dSl_elim hD; obtain ⟨n8, e8, hD⟩ := dInt_elim hD; obtain ⟨l9, e9, hD⟩ := dSl_elim hD; obtain ⟨l10, e10, hD⟩ := dSl_elim hD; exact F3_2_ok R l0 s1 l2 n8 l9 l10 ds' w' ρ' e0 e1 e2 e8 e9 e10 hD)
theorem F3_6_ok (R : Rt) (l0 : SV) (s1 : ByteArray) (l2 : SV) (ds : Ds) (w : World) (ρ : Env) (e0 : ρ 0 = .slice l0.a l0.len l0.cap) (e1 : ρ 1 = .string s1) (e2 : ρ 2 = .slice l2.a l2.len l2.cap) (h : F3_6 R l0 s1 l2 ds w) :
    TrL Try.prog Try.f3.ntmps [c3_0, c3_1, c3_2, c3_3, c3_4, c3_5, c3_6, c3_7, c3_8, c3_9, c3_10, c3_11, c3_12] (F3_q1 R) ρ ds w :=
  TrL_piece (pre := [c3_0, c3_1, c3_2, c3_3, c3_4, c3_5]) (K := (F3_k7 R)) (X := F3_6 R l0 s1 l2 ds w) (setAll_cons e0 (setAll_cons e1 (setAll_cons e2 setAll_nil))) (by kernel_rfl) (by kernel_rfl)
    (fun ρ' ds' w' hD => by
      obtain ⟨l0, e0, hD⟩ := dSl_elim hD; obtain ⟨s1, e1, hD⟩ := dStr_elim hD; obtain ⟨l2, e2, hD⟩ := dSl_elim hD; obtain ⟨n8, e8, hD⟩ := dInt_elim hD; obtain ⟨l9, e9, hD⟩ := dSl_elim hD; obtain ⟨l10, e10, hD⟩ := dSl_elim hD; obtain ⟨n11, e11, hD⟩ := dInt_elim hD; exact F3_5_ok R l0 s1 l2 n8 l9 l10 n11 ds' w' ρ' e0 e1 e2 e8 e9 e10 e11 hD) h
theorem F3_calls (l0 : SV) (s1 : ByteArray) (l2 : SV) (w : World) (R : Rt) (h : F3_6 R l0 s1 l2 [] w) : Calls Try.prog 3 #[.slice l0.a l0.len l0.cap, .string s1, .slice l2.a l2.len l2.cap] w R :=
  calls_of_L (l := [c3_0, c3_1, c3_2, c3_3, c3_4, c3_5, c3_6, c3_7, c3_8, c3_9, c3_10, c3_11, c3_12]) Try.func3 (by kernel_rfl) (by rw [Try.ntmps3]; exact Nat.le_of_ble_eq_true (by kernel_rfl)) c3_l
    (F3_6_ok R l0 s1 l2 [] w _ rfl rfl rfl h)
theorem F3_callsD (l0 : SV) (s1 : ByteArray) (l2 : SV) (w : World) (R : Rt) (u : FrameMode) (h : F3_6 R l0 s1 l2 [] w) : CallsD Try.prog 3 #[.slice l0.a l0.len l0.cap, .string s1, .slice l2.a l2.len l2.cap] u w fun e u' w' => u' = u ∧ R e w' :=
  callsD_of_L (l := [c3_0, c3_1, c3_2, c3_3, c3_4, c3_5, c3_6, c3_7, c3_8, c3_9, c3_10, c3_11, c3_12]) Try.func3 (by kernel_rfl) (by rw [Try.ntmps3]; exact Nat.le_of_ble_eq_true (by kernel_rfl)) (by kernel_rfl) c3_l
    (F3_6_ok R l0 s1 l2 [] w _ rfl rfl rfl h) u

end Go.Proofs.Ytcnenlmhbpijlaa
