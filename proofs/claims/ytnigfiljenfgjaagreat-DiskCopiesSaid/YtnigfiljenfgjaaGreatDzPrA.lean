import Derived.Test.YtnigfiljenfgjaaGreatProg
import Derived.Test.YtnigfiljenfgjaaGreatShTwentyEight
/- Shallow texts of functions, printed by program, each checked by the kernel against the loaded code. No condition. -/
set_option maxRecDepth 100000
set_option linter.unusedVariables false
namespace Go.Proofs.YtnigfiljenfgjaaGreat
open Go.Sh Tryz
def F9_1 (R : Rt) (p1 : Option Addr) (ds : Ds) (w : World) : Prop :=
 runD prog ds w fun w1 =>
 R (.returned (.pointer p1)) w1
def F9_2 (R : Rt) (J1 : (Int) -> World -> Prop) (p1 : Option Addr) (n6 : Int) (ds : Ds) (w : World) : Prop :=
 Br (decide (n6 < 4)) (
 alE (.map #[] 0) w fun r11 w2 =>
 ptrE p1 fun a3 =>
 0 <= n6 /\ n6 < (4 : Int) /\
 st1 ((a3.add 3).add (n6.toNat * 1)) (.map (some r11)) w2 fun w4 =>
 J1 (IntKind.i64.wrap (n6 + 1)) w4) (
 F9_1 R p1 ds w)
def F9_3 (R : Rt) (p1 : Option Addr) (n6 : Int) (ds : Ds) (w : World) : Prop :=
 loopT (fun (J1 : (Int) -> World -> Prop) (s : Int) (w : World) => F9_2 R J1 p1 s ds w) n6 w
def F9_5 (R : Rt) (ds : Ds) (w : World) : Prop :=
 alE (.map #[] 0) w fun r3 w5 =>
 alE (.cells #[.int .i32 0, .int .u32 0, .map (some r3), .map none, .map none, .map none, .map none, .slice none 0 0] 67) w5 fun r5 w6 =>
 F9_3 R (some (⟨r5, 0, none⟩ : Addr)) 0 ds w6
theorem F9_p : Pl prog f9 [] F9_5 := fun R =>
  pc 3 (rest [pS 1, iS 6] (F9_3 R) (bk 0 (rest [pS 1] (F9_1 R) lf) (lp [iS 6] [pS 1, iS 6] (F9_2 R) rnil fun J1 => lf)))
theorem F9_calls  (w : World) (R : Rt) (h : F9_5 R [] w) : Calls prog 9 #[] w R :=
  plC F9_p func9 h
def F16_1 (R : Rt) (p0 : Option Addr) (s1 : ByteArray) (ds : Ds) (w : World) : Prop :=
 Calls prog 43 #[.pointer p0, .int .i64 0, .string s1] w fun e w1 =>
 ∃ v10_0 : Value, ∃ n10_1 : Int, e = .returned (.tuple #[v10_0, .int .i64 n10_1]) /\
 fnE v10_0 fun fx firstx capx =>
 Br (n10_1 == 0) (
 runD prog ({ target := .fn (.func fx) capx, args := (firstx.toList ++ ([] : List Value)).toArray } :: ds) w1 fun w2 =>
 R (.returned (.int .i64 5)) w2) (
 Br (n10_1 != 4) (
 runD prog ({ target := .fn (.func fx) capx, args := (firstx.toList ++ ([] : List Value)).toArray } :: ds) w1 fun w3 =>
 R (.returned (.int .i64 n10_1)) w3) (
 ptrE p0 fun a4 =>
 ∃ m25, w1.cell? (a4.add 2) = some (.map m25) /\
 ∃ n26 : Int, ∃ w5, (Builtin.len_ #[55] 3 #[.map m25]).run prog w1 = .ok (.int .i64 n26) w5 /\
 Br (decide (n26 ≥ 8)) (
 runD prog ({ target := .fn (.func fx) capx, args := (firstx.toList ++ ([] : List Value)).toArray } :: ds) w5 fun w6 =>
 R (.returned (.int .i64 3)) w6) (
 ptrE p0 fun a7 =>
 ∃ m31, w5.cell? (a7.add 2) = some (.map m31) /\
 doE prog (Instr.mapUpdate 55 (.map m31) (.string s1) (.slice none 0 0)) w5 fun w8 =>
 runD prog ({ target := .fn (.func fx) capx, args := (firstx.toList ++ ([] : List Value)).toArray } :: ds) w8 fun w9 =>
 R (.returned (.int .i64 0)) w9)))
theorem F16_p : Pl prog f16 [pS 0, sS 1] F16_1 := fun R =>
  lf
theorem F16_calls (p0 : Option Addr) (s1 : ByteArray) (w : World) (R : Rt) (h : F16_1 R p0 s1 [] w) : Calls prog 16 #[.pointer p0, .string s1] w R :=
  plC F16_p func16 h
def F24_1 (R : Rt) (ds : Ds) (w : World) : Prop :=
 runD prog ds w fun w1 =>
 R (.returned (.int .i64 0)) w1
def F24_2 (R : Rt) (J1 : (Int) -> World -> Prop) (p0 : Option Addr) (s1 : ByteArray) (n2 n43 : Int) (ds : Ds) (w : World) : Prop :=
 Br (decide (n43 < 4)) (
 Calls prog 67 #[.pointer p0, .int .i64 n43, .string s1, .int .i64 n2] w fun e w2 =>
 e = .returned (.tuple #[]) /\
 J1 (IntKind.i64.wrap (n43 + 1)) w2) (
 F24_1 R ds w)
def F24_3 (R : Rt) (p0 : Option Addr) (s1 : ByteArray) (n2 n43 : Int) (ds : Ds) (w : World) : Prop :=
 loopT (fun (J1 : (Int) -> World -> Prop) (s : Int) (w : World) => F24_2 R J1 p0 s1 n2 s ds w) n43 w
def F24_5 (R : Rt) (p0 : Option Addr) (s1 : ByteArray) (n2 : Int) (ds : Ds) (w : World) : Prop :=
 Calls prog 43 #[.pointer p0, .int .i64 0, .string s1] w fun e w3 =>
 ∃ v14_0 : Value, ∃ n14_1 : Int, e = .returned (.tuple #[v14_0, .int .i64 n14_1]) /\
 fnE v14_0 fun fx firstx capx =>
 Br (n14_1 != 0) (
 runD prog ({ target := .fn (.func fx) capx, args := (firstx.toList ++ ([] : List Value)).toArray } :: ds) w3 fun w4 =>
 R (.returned (.int .i64 n14_1)) w4) (
 Br (decide (n2 < 0)) (
 runD prog ({ target := .fn (.func fx) capx, args := (firstx.toList ++ ([] : List Value)).toArray } :: ds) w3 fun w5 =>
 R (.returned (.int .i64 1)) w5) (
 Br (decide (n2 > 65536)) (
 runD prog ({ target := .fn (.func fx) capx, args := (firstx.toList ++ ([] : List Value)).toArray } :: ds) w3 fun w6 =>
 R (.returned (.int .i64 1)) w6) (
 ∃ l28 : SV, ∃ w7, (Instr.makeSlice 36 (.int .i64 n2) (.int .i64 n2)).run prog w3 = .ok (.slice l28.a l28.len l28.cap) w7 /\
 ptrE p0 fun a8 =>
 ∃ m33, w7.cell? (a8.add 2) = some (.map m33) /\
 ∃ l35 : SV, ∃ w9, (Instr.lookup 55 (.map m33) (.string s1) false).run prog w7 = .ok (.slice l35.a l35.len l35.cap) w9 /\
 ∃ n36 : Int, ∃ w10, (Builtin.copy_ #[36, 36] 3 #[.slice l28.a l28.len l28.cap, .slice l35.a l35.len l35.cap]).run prog w9 = .ok (.int .i64 n36) w10 /\
 ptrE p0 fun a11 =>
 ∃ m40, w10.cell? (a11.add 2) = some (.map m40) /\
 doE prog (Instr.mapUpdate 55 (.map m40) (.string s1) (.slice l28.a l28.len l28.cap)) w10 fun w12 =>
 F24_3 R p0 s1 n2 0 ({ target := .fn (.func fx) capx, args := (firstx.toList ++ ([] : List Value)).toArray } :: ds) w12)))
theorem F24_p : Pl prog f24 [pS 0, sS 1, iS 2] F24_5 := fun R =>
  pc 11 (rest [pS 0, sS 1, iS 2, iS 43] (F24_3 R) (bk 0 (rest [] (F24_1 R) lf) (lp [iS 43] [pS 0, sS 1, iS 2, iS 43] (F24_2 R) rnil fun J1 => lf)))
theorem F24_calls (p0 : Option Addr) (s1 : ByteArray) (n2 : Int) (w : World) (R : Rt) (h : F24_5 R p0 s1 n2 [] w) : Calls prog 24 #[.pointer p0, .string s1, .int .i64 n2] w R :=
  plC F24_p func24 h
def F25_1 (R : Rt) (p0 : Option Addr) (n1 : Int) (s2 : ByteArray) (n3 : Int) (l4 : SV) (ds : Ds) (w : World) : Prop :=
 alE (.cells #[.slice l4.a l4.len l4.cap] 36) w fun r9 w1 =>
 Calls prog 43 #[.pointer p0, .int .i64 n1, .string s2] w1 fun e w2 =>
 ∃ v17_0 : Value, ∃ n17_1 : Int, e = .returned (.tuple #[v17_0, .int .i64 n17_1]) /\
 fnE v17_0 fun fx firstx capx =>
 Br (n17_1 != 0) (
 runD prog ({ target := .fn (.func fx) capx, args := (firstx.toList ++ ([] : List Value)).toArray } :: ds) w2 fun w3 =>
 R (.returned (.int .i64 n17_1)) w3) (
 dwE w2 fun w4 =>
 Br (decide (n3 < 0)) (
 runD prog ({ target := .fn (.func fx) capx, args := (firstx.toList ++ ([] : List Value)).toArray } :: ds) w4 fun w5 =>
 R (.returned (.int .i64 1)) w5) (
 ptrE p0 fun a6 =>
 ∃ m31, w4.cell? (a6.add 2) = some (.map m31) /\
 ∃ l33 : SV, (Instr.lookup 55 (.map m31) (.string s2) false).run prog w4 = .ok (.slice l33.a l33.len l33.cap) w4 /\
 Br (decide (n3 > (l33.len : Int))) (
 runD prog ({ target := .fn (.func fx) capx, args := (firstx.toList ++ ([] : List Value)).toArray } :: ds) w4 fun w7 =>
 R (.returned (.int .i64 1)) w7) (
 ∃ l38 : SV, w4.cell? (⟨r9, 0, none⟩ : Addr) = some (.slice l38.a l38.len l38.cap) /\
 ptrE p0 fun a8 =>
 ∃ m43, w4.cell? (a8.add 2) = some (.map m43) /\
 ∃ l45 : SV, (Instr.lookup 55 (.map m43) (.string s2) false).run prog w4 = .ok (.slice l45.a l45.len l45.cap) w4 /\
 Br (decide ((l38.len : Int) > (IntKind.i64.wrap ((l45.len : Int) - n3)))) (
 runD prog ({ target := .fn (.func fx) capx, args := (firstx.toList ++ ([] : List Value)).toArray } :: ds) w4 fun w9 =>
 R (.returned (.int .i64 1)) w9) (
 ∃ l55 : SV, w4.cell? (⟨r9, 0, none⟩ : Addr) = some (.slice l55.a l55.len l55.cap) /\
 Calls prog 44 #[.pointer p0, .int .i64 n1, .string s2, .int .i64 n3, .int .i64 (l55.len : Int), .func (.func 68) #[] #[.pointer (some (⟨r9, 0, none⟩ : Addr))]] w4 fun e w10 =>
 e = .returned (.tuple #[]) /\
 runD prog ({ target := .fn (.func fx) capx, args := (firstx.toList ++ ([] : List Value)).toArray } :: ds) w10 fun w11 =>
 R (.returned (.int .i64 0)) w11))))
theorem F25_p : Pl prog f25 [pS 0, iS 1, sS 2, iS 3, lS 4] F25_1 := fun R =>
  lf
theorem F25_calls (p0 : Option Addr) (n1 : Int) (s2 : ByteArray) (n3 : Int) (l4 : SV) (w : World) (R : Rt) (h : F25_1 R p0 n1 s2 n3 l4 [] w) : Calls prog 25 #[.pointer p0, .int .i64 n1, .string s2, .int .i64 n3, .slice l4.a l4.len l4.cap] w R :=
  plC F25_p func25 h
def F26_1 (R : Rt) (n10 : Int) (ds : Ds) (w : World) : Prop :=
 runD prog ds w fun w1 =>
 R (.returned (.tuple #[.int .i64 n10, .int .i64 0])) w1
def F26_2 (R : Rt) (J1 : (Int × Int) -> World -> Prop) (p0 : Option Addr) (n1 n10 : Int) (l27 : SV) (n28 n29 : Int) (ds : Ds) (w : World) : Prop :=
 Br (decide (n29 < n28)) (
 ∃ a2, l27.a = some a2 /\ 0 <= n29 /\ n29 < (l27.len : Int) /\
 ∃ s32_0, w.cell? ((a2.add (n29.toNat * 2)).add 0) = some (.string s32_0) /\
 ∃ n32_1, w.cell? ((a2.add (n29.toNat * 2)).add 1) = some (.int .i64 n32_1) /\
 alE (.cells #[.string (⟨#[]⟩ : ByteArray), .int .i64 0] 92) w fun r12 w3 =>
 stA prog 92 (⟨r12, 0, none⟩ : Addr) #[.string s32_0, .int .i64 n32_1] w3 fun w4 =>
 ∃ s36_0, w4.cell? ((⟨r12, 0, none⟩ : Addr).add 0) = some (.string s36_0) /\
 ∃ n36_1, w4.cell? ((⟨r12, 0, none⟩ : Addr).add 1) = some (.int .i64 n36_1) /\
 Calls prog 70 #[.pointer p0, .int .i64 n1, .agg #[.string s36_0, .int .i64 n36_1]] w4 fun e w5 =>
 ∃ n37 : Int, e = .returned (.int .i64 n37) /\
 J1 ((IntKind.i64.wrap (n10 + n37)), (IntKind.i64.wrap (n29 + 1))) w5) (
 F26_1 R n10 ds w)
def F26_3 (R : Rt) (p0 : Option Addr) (n1 n10 : Int) (l27 : SV) (n28 n29 : Int) (ds : Ds) (w : World) : Prop :=
 loopT (fun (J1 : (Int × Int) -> World -> Prop) (s : Int × Int) (w : World) => F26_2 R J1 p0 n1 s.1 l27 n28 s.2 ds w) (n10, n29) w
def F26_5 (R : Rt) (p0 : Option Addr) (n1 : Int) (s2 : ByteArray) (ds : Ds) (w : World) : Prop :=
 Calls prog 43 #[.pointer p0, .int .i64 n1, .string s2] w fun e w6 =>
 ∃ v17_0 : Value, ∃ n17_1 : Int, e = .returned (.tuple #[v17_0, .int .i64 n17_1]) /\
 fnE v17_0 fun fx firstx capx =>
 Br (n17_1 != 0) (
 runD prog ({ target := .fn (.func fx) capx, args := (firstx.toList ++ ([] : List Value)).toArray } :: ds) w6 fun w7 =>
 R (.returned (.tuple #[.int .i64 0, .int .i64 n17_1])) w7) (
 Calls prog 69 #[.pointer p0, .int .i64 n1, .string s2, .int .i64 0, .int .i64 65536] w6 fun e w8 =>
 ∃ l27 : SV, e = .returned (.slice l27.a l27.len l27.cap) /\
 F26_3 R p0 n1 0 l27 (l27.len : Int) 0 ({ target := .fn (.func fx) capx, args := (firstx.toList ++ ([] : List Value)).toArray } :: ds) w8)
theorem F26_p : Pl prog f26 [pS 0, iS 1, sS 2] F26_5 := fun R =>
  pc 7 (rest [pS 0, iS 1, iS 10, lS 27, iS 28, iS 29] (F26_3 R) (bk 0 (rest [iS 10] (F26_1 R) lf) (lp [iS 10, iS 29] [pS 0, iS 1, iS 10, lS 27, iS 28, iS 29] (F26_2 R) rnil fun J1 => lf)))
theorem F26_calls (p0 : Option Addr) (n1 : Int) (s2 : ByteArray) (w : World) (R : Rt) (h : F26_5 R p0 n1 s2 [] w) : Calls prog 26 #[.pointer p0, .int .i64 n1, .string s2] w R :=
  plC F26_p func26 h
def F15_1 (R : Rt) (p0 : Option Addr) (s1 : ByteArray) (ds : Ds) (w : World) : Prop :=
 Calls prog 43 #[.pointer p0, .int .i64 0, .string s1] w fun e w1 =>
 ∃ v11_0 : Value, ∃ n11_1 : Int, e = .returned (.tuple #[v11_0, .int .i64 n11_1]) /\
 fnE v11_0 fun fx firstx capx =>
 Br (n11_1 != 0) (
 runD prog ({ target := .fn (.func fx) capx, args := (firstx.toList ++ ([] : List Value)).toArray } :: ds) w1 fun w2 =>
 R (.returned (.tuple #[.slice none 0 0, .int .i64 n11_1])) w2) (
 ptrE p0 fun a3 =>
 ∃ m21, w1.cell? (a3.add 2) = some (.map m21) /\
 ∃ l23 : SV, ∃ w4, (Instr.lookup 55 (.map m21) (.string s1) false).run prog w1 = .ok (.slice l23.a l23.len l23.cap) w4 /\
 Calls prog 50 #[.slice l23.a l23.len l23.cap] w4 fun e w5 =>
 ∃ l24 : SV, e = .returned (.slice l24.a l24.len l24.cap) /\
 runD prog ({ target := .fn (.func fx) capx, args := (firstx.toList ++ ([] : List Value)).toArray } :: ds) w5 fun w6 =>
 R (.returned (.tuple #[.slice l24.a l24.len l24.cap, .int .i64 0])) w6)
theorem F15_p : Pl prog f15 [pS 0, sS 1] F15_1 := fun R =>
  lf
theorem F15_calls (p0 : Option Addr) (s1 : ByteArray) (w : World) (R : Rt) (h : F15_1 R p0 s1 [] w) : Calls prog 15 #[.pointer p0, .string s1] w R :=
  plC F15_p func15 h
def F8_1 (R : Rt) (b0 : Bool) (ds : Ds) (w : World) : Prop :=
 runD prog ds w fun w1 =>
 R (.returned (.bool b0)) w1
def F8_2 (R : Rt) (n2 n3 : Int) (l4 : SV) (n5 n6 : Int) (l7 : SV) (n8 : Int) (ds : Ds) (w : World) : Prop :=
 Br (n2 == 1) (
 Br (n3 == 0) (
 Br (n5 == 0) (
 Br (n6 == 0) (
 Br (n8 == 0) (
 ∃ s64 : ByteArray, ∃ w2, (convert 36 9 (.slice l4.a l4.len l4.cap)).run prog w = .ok (.string s64) w2 /\
 Br (s64.toList == (⟨#[0]⟩ : ByteArray).toList) (
 ∃ s69 : ByteArray, ∃ w3, (convert 36 9 (.slice l7.a l7.len l7.cap)).run prog w2 = .ok (.string s69) w3 /\
 F8_1 R (s69.toList == (⟨#[7]⟩ : ByteArray).toList) ds w3) (
 F8_1 R false ds w2)) (
 F8_1 R false ds w)) (
 F8_1 R false ds w)) (
 F8_1 R false ds w)) (
 F8_1 R false ds w)) (
 F8_1 R false ds w)
def F8_3 (R : Rt) (p1 : Option Addr) (n2 n3 : Int) (l4 : SV) (n5 n6 : Int) (ds : Ds) (w : World) : Prop :=
 Calls prog 13 #[.pointer p1, .int .i64 0, .string (⟨#[70]⟩ : ByteArray), .int .i64 0, .int .i64 1] w fun e w4 =>
 ∃ l41_0 : SV, ∃ n41_1 : Int, e = .returned (.tuple #[.slice l41_0.a l41_0.len l41_0.cap, .int .i64 n41_1]) /\
 F8_2 R n2 n3 l4 n5 n6 l41_0 n41_1 ds w4
def F8_4 (R : Rt) (ds : Ds) (w : World) : Prop :=
 Calls prog 9 #[] w fun e w5 =>
 ∃ p9 : Option Addr, e = .returned (.pointer p9) /\
 ∃ b11 : Bool, ∃ w6, (eqS .eql 25 (.tmp 10) (.const (.pointer none)) (.pointer p9) (.pointer none)).run prog w5 = .ok (.bool b11) w6 /\
 Br b11 (
 runD prog ds w6 fun w7 =>
 R (.returned (.bool false)) w7) (
 Calls prog 16 #[.pointer p9, .string (⟨#[70]⟩ : ByteArray)] w6 fun e w8 =>
 ∃ n14 : Int, e = .returned (.int .i64 n14) /\
 Br (n14 != 0) (
 runD prog ds w8 fun w9 =>
 R (.returned (.bool false)) w9) (
 Calls prog 24 #[.pointer p9, .string (⟨#[70]⟩ : ByteArray), .int .i64 4] w8 fun e w10 =>
 ∃ n19 : Int, e = .returned (.int .i64 n19) /\
 Br (n19 != 0) (
 runD prog ds w10 fun w11 =>
 R (.returned (.bool false)) w11) (
 Calls prog 13 #[.pointer p9, .int .i64 0, .string (⟨#[70]⟩ : ByteArray), .int .i64 0, .int .i64 1] w10 fun e w12 =>
 ∃ l23_0 : SV, ∃ n23_1 : Int, e = .returned (.tuple #[.slice l23_0.a l23_0.len l23_0.cap, .int .i64 n23_1]) /\
 alE (.cells #[.int .u8 7] 5) w12 fun r25 w13 =>
 Calls prog 25 #[.pointer p9, .int .i64 1, .string (⟨#[70]⟩ : ByteArray), .int .i64 0, .slice (some ⟨r25, 0, none⟩) 1 1] w13 fun e w14 =>
 ∃ n26 : Int, e = .returned (.int .i64 n26) /\
 Calls prog 26 #[.pointer p9, .int .i64 1, .string (⟨#[70]⟩ : ByteArray)] w14 fun e w15 =>
 ∃ n29_0 : Int, ∃ n29_1 : Int, e = .returned (.tuple #[.int .i64 n29_0, .int .i64 n29_1]) /\
 Calls prog 13 #[.pointer p9, .int .i64 0, .string (⟨#[70]⟩ : ByteArray), .int .i64 0, .int .i64 1] w15 fun e w16 =>
 ∃ l34_0 : SV, ∃ n34_1 : Int, e = .returned (.tuple #[.slice l34_0.a l34_0.len l34_0.cap, .int .i64 n34_1]) /\
 Calls prog 27 #[.pointer p9, .int .i64 0, .string (⟨#[70]⟩ : ByteArray), .int .i64 0, .int .i64 1] w16 fun e w17 =>
 ∃ n38 : Int, e = .returned (.int .i64 n38) /\
 F8_3 R p9 n29_0 n29_1 l34_0 n34_1 n38 ds w17)))
theorem F8_p : Pl prog f8 [] F8_4 := fun R =>
  pc 9 (rest [pS 1, iS 2, iS 3, lS 4, iS 5, iS 6] (F8_3 R) (pc 1 (rest [iS 2, iS 3, lS 4, iS 5, iS 6, lS 7, iS 8] (F8_2 R) (pc 1 (rest [bS 0] (F8_1 R) lf)))))
theorem F8_calls  (w : World) (R : Rt) (h : F8_4 R [] w) : Calls prog 8 #[] w R :=
  plC F8_p func8 h
def F13_1 (R : Rt) (p0 : Option Addr) (n1 : Int) (s2 : ByteArray) (n3 n4 : Int) (ds : Ds) (w : World) : Prop :=
 Calls prog 43 #[.pointer p0, .int .i64 n1, .string s2] w fun e w1 =>
 ∃ v19_0 : Value, ∃ n19_1 : Int, e = .returned (.tuple #[v19_0, .int .i64 n19_1]) /\
 fnE v19_0 fun fx firstx capx =>
 Br (n19_1 != 0) (
 runD prog ({ target := .fn (.func fx) capx, args := (firstx.toList ++ ([] : List Value)).toArray } :: ds) w1 fun w2 =>
 R (.returned (.tuple #[.slice none 0 0, .int .i64 n19_1])) w2) (
 Br (decide (n3 < 0)) (
 runD prog ({ target := .fn (.func fx) capx, args := (firstx.toList ++ ([] : List Value)).toArray } :: ds) w1 fun w3 =>
 R (.returned (.tuple #[.slice none 0 0, .int .i64 1])) w3) (
 Br (decide (n4 < 0)) (
 runD prog ({ target := .fn (.func fx) capx, args := (firstx.toList ++ ([] : List Value)).toArray } :: ds) w1 fun w4 =>
 R (.returned (.tuple #[.slice none 0 0, .int .i64 1])) w4) (
 ptrE p0 fun a5 =>
 ∃ m37, w1.cell? (a5.add 2) = some (.map m37) /\
 ∃ l39 : SV, ∃ w6, (Instr.lookup 55 (.map m37) (.string s2) false).run prog w1 = .ok (.slice l39.a l39.len l39.cap) w6 /\
 Br (decide (n3 > (l39.len : Int))) (
 runD prog ({ target := .fn (.func fx) capx, args := (firstx.toList ++ ([] : List Value)).toArray } :: ds) w6 fun w7 =>
 R (.returned (.tuple #[.slice none 0 0, .int .i64 1])) w7) (
 ptrE p0 fun a8 =>
 ∃ m48, w6.cell? (a8.add 2) = some (.map m48) /\
 ∃ l50 : SV, ∃ w9, (Instr.lookup 55 (.map m48) (.string s2) false).run prog w6 = .ok (.slice l50.a l50.len l50.cap) w9 /\
 Br (decide (n4 > (IntKind.i64.wrap ((l50.len : Int) - n3)))) (
 runD prog ({ target := .fn (.func fx) capx, args := (firstx.toList ++ ([] : List Value)).toArray } :: ds) w9 fun w10 =>
 R (.returned (.tuple #[.slice none 0 0, .int .i64 1])) w10) (
 ∃ l57 : SV, ∃ w11, (Instr.makeSlice 36 (.int .i64 n4) (.int .i64 n4)).run prog w9 = .ok (.slice l57.a l57.len l57.cap) w11 /\
 alE (.cells #[.slice none 0 0] 36) w11 fun r14 w12 =>
 st1 (⟨r14, 0, none⟩ : Addr) (.slice l57.a l57.len l57.cap) w12 fun w13 =>
 Calls prog 44 #[.pointer p0, .int .i64 n1, .string s2, .int .i64 n3, .int .i64 n4, .func (.func 45) #[] #[.pointer (some (⟨r14, 0, none⟩ : Addr))]] w13 fun e w14 =>
 e = .returned (.tuple #[]) /\
 ∃ l65 : SV, w14.cell? (⟨r14, 0, none⟩ : Addr) = some (.slice l65.a l65.len l65.cap) /\
 runD prog ({ target := .fn (.func fx) capx, args := (firstx.toList ++ ([] : List Value)).toArray } :: ds) w14 fun w15 =>
 R (.returned (.tuple #[.slice l65.a l65.len l65.cap, .int .i64 0])) w15)))))
theorem F13_p : Pl prog f13 [pS 0, iS 1, sS 2, iS 3, iS 4] F13_1 := fun R =>
  lf
theorem F13_calls (p0 : Option Addr) (n1 : Int) (s2 : ByteArray) (n3 n4 : Int) (w : World) (R : Rt) (h : F13_1 R p0 n1 s2 n3 n4 [] w) : Calls prog 13 #[.pointer p0, .int .i64 n1, .string s2, .int .i64 n3, .int .i64 n4] w R :=
  plC F13_p func13 h
def F27_1 (R : Rt) (ds : Ds) (w : World) : Prop :=
 runD prog ds w fun w1 =>
 R (.returned (.int .i64 0)) w1
def F27_2 (R : Rt) (J1 : (Int) -> World -> Prop) (p0 p6 p7 : Option Addr) (l77 : SV) (n78 n79 : Int) (ds : Ds) (w : World) : Prop :=
 J1 (IntKind.i64.wrap (n79 + 1)) w
def F27_3 (R : Rt) (J1 : (Int) -> World -> Prop) (p0 p6 p7 p15 p16 : Option Addr) (l77 : SV) (n78 n79 : Int) (ds : Ds) (w : World) : Prop :=
 dwE w fun w2 =>
 ptrE p6 fun a3 =>
 ∃ n123, w2.cell? a3 = some (.int .i64 n123) /\
 ptrE p0 fun a4 =>
 0 <= n123 /\ n123 < (4 : Int) /\
 ∃ m127, w2.cell? ((a4.add 3).add (n123.toNat * 1)) = some (.map m127) /\
 ptrE p15 fun a5 =>
 ∃ s128_0, w2.cell? (a5.add 0) = some (.string s128_0) /\
 ∃ n128_1, w2.cell? (a5.add 1) = some (.int .i64 n128_1) /\
 ptrE p16 fun a6 =>
 ∃ c129 : Array Value, c129.size = 96 /\ (∀ i, i < 96 -> w2.cell? (a6.add i) = c129[i]?) /\
 doE prog (Instr.mapUpdate 63 (.map m127) (.agg #[.string s128_0, .int .i64 n128_1]) (.agg c129)) w2 fun w7 =>
 F27_2 R J1 p0 p6 p7 l77 n78 n79 ds w7
def F27_4 (R : Rt) (J1 : (Int) -> World -> Prop) (J2 : (Int) -> World -> Prop) (p0 p6 p7 p15 p16 : Option Addr) (l77 : SV) (n78 n79 n91 : Int) (ds : Ds) (w : World) : Prop :=
 Br (decide (n91 < 32)) (
 ptrE p16 fun a8 =>
 0 <= n91 /\ n91 < (32 : Int) /\
 ∃ b97, w.cell? ((a8.add 32).add (n91.toNat * 1)) = some (.bool b97) /\
 Br b97 (
 ptrE p16 fun a9 =>
 0 <= n91 /\ n91 < (32 : Int) /\
 ∃ b102, w.cell? ((a9.add 64).add (n91.toNat * 1)) = some (.bool b102) /\
 Br (!b102) (
 dwE w fun w10 =>
 ptrE p0 fun a11 =>
 ∃ m109, w10.cell? (a11.add 2) = some (.map m109) /\
 ptrE p7 fun a12 =>
 ∃ s110, w10.cell? a12 = some (.string s110) /\
 ∃ l111 : SV, (Instr.lookup 55 (.map m109) (.string s110) false).run prog w10 = .ok (.slice l111.a l111.len l111.cap) w10 /\
 ptrE p15 fun a13 =>
 ∃ n113, w10.cell? (a13.add 1) = some (.int .i64 n113) /\
 ∃ a14, l111.a = some a14 /\ 0 <= (IntKind.i64.wrap ((IntKind.i64.wrap (n113 * 32)) + n91)) /\ (IntKind.i64.wrap ((IntKind.i64.wrap (n113 * 32)) + n91)) < (l111.len : Int) /\
 ∃ n118, w10.cell? (a14.add ((IntKind.i64.wrap ((IntKind.i64.wrap (n113 * 32)) + n91)).toNat * 1)) = some (.int .u8 n118) /\
 ptrE p16 fun a15 =>
 0 <= n91 /\ n91 < (32 : Int) /\
 st1 (a15.add (n91.toNat * 1)) (.int .u8 n118) w10 fun w16 =>
 J2 (IntKind.i64.wrap (n91 + 1)) w16) (
 J2 (IntKind.i64.wrap (n91 + 1)) w)) (
 J2 (IntKind.i64.wrap (n91 + 1)) w)) (
 F27_3 R J1 p0 p6 p7 p15 p16 l77 n78 n79 ds w)
def F27_5 (R : Rt) (J1 : (Int) -> World -> Prop) (p0 p6 p7 p15 p16 : Option Addr) (l77 : SV) (n78 n79 n91 : Int) (ds : Ds) (w : World) : Prop :=
 loopT (fun (J2 : (Int) -> World -> Prop) (s : Int) (w : World) => F27_4 R J1 J2 p0 p6 p7 p15 p16 l77 n78 n79 s ds w) n91 w
def F27_7 (R : Rt) (J1 : (Int) -> World -> Prop) (p0 p6 p7 : Option Addr) (l77 : SV) (n78 n79 : Int) (ds : Ds) (w : World) : Prop :=
 ∃ a17, l77.a = some a17 /\ 0 <= n79 /\ n79 < (l77.len : Int) /\
 ∃ s82_0, w.cell? ((a17.add (n79.toNat * 2)).add 0) = some (.string s82_0) /\
 ∃ n82_1, w.cell? ((a17.add (n79.toNat * 2)).add 1) = some (.int .i64 n82_1) /\
 alE (.cells #[.string (⟨#[]⟩ : ByteArray), .int .i64 0] 92) w fun r15 w18 =>
 stA prog 92 (⟨r15, 0, none⟩ : Addr) #[.string s82_0, .int .i64 n82_1] w18 fun w19 =>
 dwE w19 fun w20 =>
 ∃ S3 : World -> Prop, S3 w20 /\
 ptrE p6 fun a21 =>
 ∃ n84, (∀ w', S3 w' -> w'.cell? a21 = some (.int .i64 n84)) /\
 ptrE p0 fun a22 =>
 0 <= n84 /\ n84 < (4 : Int) /\
 ∃ m88, (∀ w', S3 w' -> w'.cell? ((a22.add 3).add (n84.toNat * 1)) = some (.map m88)) /\
 ∃ s89_0, (∀ w', S3 w' -> w'.cell? ((⟨r15, 0, none⟩ : Addr).add 0) = some (.string s89_0)) /\
 ∃ n89_1, (∀ w', S3 w' -> w'.cell? ((⟨r15, 0, none⟩ : Addr).add 1) = some (.int .i64 n89_1)) /\
 ∃ c90 : Array Value, c90.size = 96 /\ (∀ w', S3 w' -> (Instr.lookup 63 (.map m88) (.agg #[.string s89_0, .int .i64 n89_1]) false).run prog w' = .ok (.agg c90) w') /\
 alE (.cells (zc prog 89) 89) w20 fun r16 w23 =>
 S3 w23 /\
 stA prog 89 (⟨r16, 0, none⟩ : Addr) c90 w23 fun w24 =>
 F27_5 R J1 p0 p6 p7 (some (⟨r15, 0, none⟩ : Addr)) (some (⟨r16, 0, none⟩ : Addr)) l77 n78 n79 0 ds w24
def F27_9 (R : Rt) (J1 : (Int) -> World -> Prop) (p0 p6 p7 : Option Addr) (l77 : SV) (n78 n79 : Int) (ds : Ds) (w : World) : Prop :=
 Br (decide (n79 < n78)) (
 F27_7 R J1 p0 p6 p7 l77 n78 n79 ds w) (
 F27_1 R ds w)
def F27_10 (R : Rt) (p0 p6 p7 : Option Addr) (l77 : SV) (n78 n79 : Int) (ds : Ds) (w : World) : Prop :=
 loopT (fun (J1 : (Int) -> World -> Prop) (s : Int) (w : World) => F27_9 R J1 p0 p6 p7 l77 n78 s ds w) n79 w
def F27_12 (R : Rt) (p0 p6 p7 p8 p9 p13 : Option Addr) (ds : Ds) (w : World) : Prop :=
 dwE w fun w25 =>
 ptrE p0 fun a26 =>
 ∃ l55 : SV, w25.cell? (a26.add 7) = some (.slice l55.a l55.len l55.cap) /\
 ptrE p13 fun a27 =>
 ∃ v56 : Value, w25.cell? a27 = some (v56) /\
 Calls prog 73 #[.slice l55.a l55.len l55.cap, v56] w25 fun e w28 =>
 ∃ b57 : Bool, e = .returned (.bool b57) /\
 Br b57 (
 runD prog ds w28 fun w29 =>
 R (.returned (.int .i64 12)) w29) (
 dwE w28 fun w30 =>
 ∃ S5 : World -> Prop, S5 w30 /\
 ptrE p0 fun a31 =>
 ∃ l62 : SV, (∀ w', S5 w' -> w'.cell? (a31.add 7) = some (.slice l62.a l62.len l62.cap)) /\
 ptrE p6 fun a32 =>
 ∃ n63, (∀ w', S5 w' -> w'.cell? a32 = some (.int .i64 n63)) /\
 ptrE p7 fun a33 =>
 ∃ s64, (∀ w', S5 w' -> w'.cell? a33 = some (.string s64)) /\
 ptrE p8 fun a34 =>
 ∃ n65, (∀ w', S5 w' -> w'.cell? a34 = some (.int .i64 n65)) /\
 ptrE p9 fun a35 =>
 ∃ n66, (∀ w', S5 w' -> w'.cell? a35 = some (.int .i64 n66)) /\
 alE (.cells #[.int .i64 n63, .string s64, .int .i64 n65, .int .i64 n66] 95) w30 fun r68 w36 =>
 S5 w36 /\
 ∃ l69 : SV, ∃ w37, (Builtin.append_ #[65, 65] 65 #[.slice l62.a l62.len l62.cap, .slice (some ⟨r68, 0, none⟩) 1 1]).run prog w36 = .ok (.slice l69.a l69.len l69.cap) w37 /\
 ptrE p0 fun a38 =>
 st1 (a38.add 7) (.slice l69.a l69.len l69.cap) w37 fun w39 =>
 ptrE p6 fun a40 =>
 ∃ n73, w39.cell? a40 = some (.int .i64 n73) /\
 ptrE p7 fun a41 =>
 ∃ s74, w39.cell? a41 = some (.string s74) /\
 ptrE p8 fun a42 =>
 ∃ n75, w39.cell? a42 = some (.int .i64 n75) /\
 ptrE p9 fun a43 =>
 ∃ n76, w39.cell? a43 = some (.int .i64 n76) /\
 Calls prog 69 #[.pointer p0, .int .i64 n73, .string s74, .int .i64 n75, .int .i64 n76] w39 fun e w44 =>
 ∃ l77 : SV, e = .returned (.slice l77.a l77.len l77.cap) /\
 F27_10 R p0 p6 p7 l77 (l77.len : Int) 0 ds w44)
def F27_13 (R : Rt) (p0 : Option Addr) (n1 : Int) (s2 : ByteArray) (n3 n4 : Int) (ds : Ds) (w : World) : Prop :=
 alE (.cells #[.int .i64 n1] 3) w fun r6 w45 =>
 alE (.cells #[.string s2] 9) w45 fun r7 w46 =>
 alE (.cells #[.int .i64 n3] 3) w46 fun r8 w47 =>
 alE (.cells #[.int .i64 n4] 3) w47 fun r9 w48 =>
 ∃ n20, w48.cell? (⟨r6, 0, none⟩ : Addr) = some (.int .i64 n20) /\
 ∃ s21, w48.cell? (⟨r7, 0, none⟩ : Addr) = some (.string s21) /\
 Calls prog 43 #[.pointer p0, .int .i64 n20, .string s21] w48 fun e w49 =>
 ∃ v22_0 : Value, ∃ n22_1 : Int, e = .returned (.tuple #[v22_0, .int .i64 n22_1]) /\
 fnE v22_0 fun fx firstx capx =>
 Br (n22_1 != 0) (
 runD prog ({ target := .fn (.func fx) capx, args := (firstx.toList ++ ([] : List Value)).toArray } :: ds) w49 fun w50 =>
 R (.returned (.int .i64 n22_1)) w50) (
 ∃ n29, w49.cell? (⟨r8, 0, none⟩ : Addr) = some (.int .i64 n29) /\
 Br (decide (n29 < 0)) (
 runD prog ({ target := .fn (.func fx) capx, args := (firstx.toList ++ ([] : List Value)).toArray } :: ds) w49 fun w51 =>
 R (.returned (.int .i64 1)) w51) (
 ∃ n32, w49.cell? (⟨r9, 0, none⟩ : Addr) = some (.int .i64 n32) /\
 Br (decide (n32 < 1)) (
 runD prog ({ target := .fn (.func fx) capx, args := (firstx.toList ++ ([] : List Value)).toArray } :: ds) w49 fun w52 =>
 R (.returned (.int .i64 1)) w52) (
 ∃ n36, w49.cell? (⟨r8, 0, none⟩ : Addr) = some (.int .i64 n36) /\
 Br (decide (n36 > 131072)) (
 runD prog ({ target := .fn (.func fx) capx, args := (firstx.toList ++ ([] : List Value)).toArray } :: ds) w49 fun w53 =>
 R (.returned (.int .i64 1)) w53) (
 ∃ n40, w49.cell? (⟨r9, 0, none⟩ : Addr) = some (.int .i64 n40) /\
 ∃ n41, w49.cell? (⟨r8, 0, none⟩ : Addr) = some (.int .i64 n41) /\
 Br (decide (n40 > (IntKind.i64.wrap ((131072 : Int) - n41)))) (
 runD prog ({ target := .fn (.func fx) capx, args := (firstx.toList ++ ([] : List Value)).toArray } :: ds) w49 fun w54 =>
 R (.returned (.int .i64 1)) w54) (
 alE (.cells #[.nilFunc] 96) w49 fun r13 w55 =>
 st1 (⟨r13, 0, none⟩ : Addr) (.func (.func 71) #[] #[.pointer (some (⟨r7, 0, none⟩ : Addr)), .pointer (some (⟨r8, 0, none⟩ : Addr)), .pointer (some (⟨r9, 0, none⟩ : Addr))]) w55 fun w56 =>
 ptrE p0 fun a57 =>
 ∃ l49 : SV, w56.cell? (a57.add 7) = some (.slice l49.a l49.len l49.cap) /\
 Calls prog 73 #[.slice l49.a l49.len l49.cap, .func (.func 74) #[] #[.pointer (some (⟨r6, 0, none⟩ : Addr)), .pointer (some (⟨r13, 0, none⟩ : Addr))]] w56 fun e w58 =>
 ∃ b51 : Bool, e = .returned (.bool b51) /\
 Br b51 (
 runD prog ({ target := .fn (.func fx) capx, args := (firstx.toList ++ ([] : List Value)).toArray } :: ds) w58 fun w59 =>
 R (.returned (.int .i64 5)) w59) (
 F27_12 R p0 (some (⟨r6, 0, none⟩ : Addr)) (some (⟨r7, 0, none⟩ : Addr)) (some (⟨r8, 0, none⟩ : Addr)) (some (⟨r9, 0, none⟩ : Addr)) (some (⟨r13, 0, none⟩ : Addr)) ({ target := .fn (.func fx) capx, args := (firstx.toList ++ ([] : List Value)).toArray } :: ds) w58))))))
theorem F27_p : Pl prog f27 [pS 0, iS 1, sS 2, iS 3, iS 4] F27_13 := fun R =>
  pc 10 (rest [pS 0, pS 6, pS 7, pS 8, pS 9, pS 13] (F27_12 R) (pc 4 (rest [pS 0, pS 6, pS 7, lS 77, iS 78, iS 79] (F27_10 R) (bk 0 (rest [] (F27_1 R) lf) (lp [iS 79] [pS 0, pS 6, pS 7, lS 77, iS 78, iS 79] (F27_9 R) rnil fun J1 => pc 2 (rest [pS 0, pS 6, pS 7, lS 77, iS 78, iS 79] (F27_7 R J1) (bk 1 (rest [pS 0, pS 6, pS 7, lS 77, iS 78, iS 79] (F27_2 R J1) lf) (pc 3 (rest [pS 0, pS 6, pS 7, pS 15, pS 16, lS 77, iS 78, iS 79, iS 91] (F27_5 R J1) (bk 2 (rest [pS 0, pS 6, pS 7, pS 15, pS 16, lS 77, iS 78, iS 79] (F27_3 R J1) lf) (lp [iS 91] [pS 0, pS 6, pS 7, pS 15, pS 16, lS 77, iS 78, iS 79, iS 91] (F27_4 R J1) rnil fun J2 => lf)))))))))))
theorem F27_calls (p0 : Option Addr) (n1 : Int) (s2 : ByteArray) (n3 n4 : Int) (w : World) (R : Rt) (h : F27_13 R p0 n1 s2 n3 n4 [] w) : Calls prog 27 #[.pointer p0, .int .i64 n1, .string s2, .int .i64 n3, .int .i64 n4] w R :=
  plC F27_p func27 h
def F31_1 (R : Rt) (p0 : Option Addr) (n13 : Int) (ds : Ds) (w : World) : Prop :=
 ptrE p0 fun a1 =>
 ∃ l59 : SV, w.cell? (a1.add 7) = some (.slice l59.a l59.len l59.cap) /\
 Calls prog 81 #[.slice l59.a l59.len l59.cap, .int .i64 n13, .int .i64 (IntKind.i64.wrap (n13 + 1))] w fun e w2 =>
 ∃ l63 : SV, e = .returned (.slice l63.a l63.len l63.cap) /\
 ptrE p0 fun a3 =>
 st1 (a3.add 7) (.slice l63.a l63.len l63.cap) w2 fun w4 =>
 runD prog ds w4 fun w5 =>
 R (.returned (.int .i64 0)) w5
def F31_2 (R : Rt) (J1 : (Int) -> World -> Prop) (p0 : Option Addr) (n1 n13 : Int) (l44 : SV) (n45 n46 : Int) (ds : Ds) (w : World) : Prop :=
 Br (decide (n46 < n45)) (
 ∃ a6, l44.a = some a6 /\ 0 <= n46 /\ n46 < (l44.len : Int) /\
 ∃ s49_0, w.cell? ((a6.add (n46.toNat * 2)).add 0) = some (.string s49_0) /\
 ∃ n49_1, w.cell? ((a6.add (n46.toNat * 2)).add 1) = some (.int .i64 n49_1) /\
 alE (.cells #[.string (⟨#[]⟩ : ByteArray), .int .i64 0] 92) w fun r15 w7 =>
 stA prog 92 (⟨r15, 0, none⟩ : Addr) #[.string s49_0, .int .i64 n49_1] w7 fun w8 =>
 ∃ s52_0, w8.cell? ((⟨r15, 0, none⟩ : Addr).add 0) = some (.string s52_0) /\
 ∃ n52_1, w8.cell? ((⟨r15, 0, none⟩ : Addr).add 1) = some (.int .i64 n52_1) /\
 Calls prog 70 #[.pointer p0, .int .i64 n1, .agg #[.string s52_0, .int .i64 n52_1]] w8 fun e w9 =>
 ∃ n53 : Int, e = .returned (.int .i64 n53) /\
 J1 (IntKind.i64.wrap (n46 + 1)) w9) (
 F31_1 R p0 n13 ds w)
def F31_3 (R : Rt) (p0 : Option Addr) (n1 n13 : Int) (l44 : SV) (n45 n46 : Int) (ds : Ds) (w : World) : Prop :=
 loopT (fun (J1 : (Int) -> World -> Prop) (s : Int) (w : World) => F31_2 R J1 p0 n1 n13 l44 n45 s ds w) n46 w
def F31_5 (R : Rt) (p0 : Option Addr) (n1 : Int) (s2 : ByteArray) (n3 n4 : Int) (ds : Ds) (w : World) : Prop :=
 Calls prog 43 #[.pointer p0, .int .i64 n1, .string s2] w fun e w10 =>
 ∃ v20_0 : Value, ∃ n20_1 : Int, e = .returned (.tuple #[v20_0, .int .i64 n20_1]) /\
 fnE v20_0 fun fx firstx capx =>
 Br (n20_1 != 0) (
 runD prog ({ target := .fn (.func fx) capx, args := (firstx.toList ++ ([] : List Value)).toArray } :: ds) w10 fun w11 =>
 R (.returned (.int .i64 n20_1)) w11) (
 ptrE p0 fun a12 =>
 ∃ l30 : SV, w10.cell? (a12.add 7) = some (.slice l30.a l30.len l30.cap) /\
 Calls prog 80 #[.slice l30.a l30.len l30.cap, .agg #[.int .i64 n1, .string s2, .int .i64 n3, .int .i64 n4]] w10 fun e w13 =>
 ∃ n36 : Int, e = .returned (.int .i64 n36) /\
 Br (decide (n36 < 0)) (
 runD prog ({ target := .fn (.func fx) capx, args := (firstx.toList ++ ([] : List Value)).toArray } :: ds) w13 fun w14 =>
 R (.returned (.int .i64 4)) w14) (
 Calls prog 69 #[.pointer p0, .int .i64 n1, .string s2, .int .i64 n3, .int .i64 n4] w13 fun e w15 =>
 ∃ l44 : SV, e = .returned (.slice l44.a l44.len l44.cap) /\
 F31_3 R p0 n1 n36 l44 (l44.len : Int) 0 ({ target := .fn (.func fx) capx, args := (firstx.toList ++ ([] : List Value)).toArray } :: ds) w15))
theorem F31_p : Pl prog f31 [pS 0, iS 1, sS 2, iS 3, iS 4] F31_5 := fun R =>
  pc 9 (rest [pS 0, iS 1, iS 13, lS 44, iS 45, iS 46] (F31_3 R) (bk 0 (rest [pS 0, iS 13] (F31_1 R) lf) (lp [iS 46] [pS 0, iS 1, iS 13, lS 44, iS 45, iS 46] (F31_2 R) rnil fun J1 => lf)))
theorem F31_calls (p0 : Option Addr) (n1 : Int) (s2 : ByteArray) (n3 n4 : Int) (w : World) (R : Rt) (h : F31_5 R p0 n1 s2 n3 n4 [] w) : Calls prog 31 #[.pointer p0, .int .i64 n1, .string s2, .int .i64 n3, .int .i64 n4] w R :=
  plC F31_p func31 h
def F43_1 (R : Rt) (p0 : Option Addr) (n1 : Int) (s2 : ByteArray) (ds : Ds) (w : World) : Prop :=
 ∃ b11 : Bool, ∃ w1, (eqS .eql 25 (.tmp 10) (.const (.pointer none)) (.pointer p0) (.pointer none)).run prog w = .ok (.bool b11) w1 /\
 Br b11 (
 runD prog ds w1 fun w2 =>
 R (.returned (.tuple #[.func (.func 93) #[] #[], .int .i64 9])) w2) (
 ptrE p0 fun a3 =>
 Calls prog 46 #[.pointer (some a3)] w1 fun e w4 =>
 e = .returned (.tuple #[]) /\
 Br (decide (n1 < 0)) (
 ptrE p0 fun a5 =>
 runD prog ds w4 fun w6 =>
 R (.returned (.tuple #[.func (.func 47) #[.pointer (some a5)] #[], .int .i64 1])) w6) (
 Br (decide (n1 ≥ 4)) (
 ptrE p0 fun a7 =>
 runD prog ds w4 fun w8 =>
 R (.returned (.tuple #[.func (.func 47) #[.pointer (some a7)] #[], .int .i64 1])) w8) (
 Calls prog 94 #[.string s2] w4 fun e w9 =>
 ∃ b24 : Bool, e = .returned (.bool b24) /\
 Br (!b24) (
 ptrE p0 fun a10 =>
 runD prog ds w9 fun w11 =>
 R (.returned (.tuple #[.func (.func 47) #[.pointer (some a10)] #[], .int .i64 1])) w11) (
 ptrE p0 fun a12 =>
 ∃ m35, w9.cell? (a12.add 2) = some (.map m35) /\
 ∃ l37_0 : SV, ∃ b37_1 : Bool, ∃ w13, (Instr.lookup 55 (.map m35) (.string s2) true).run prog w9 = .ok (.tuple #[.slice l37_0.a l37_0.len l37_0.cap, .bool b37_1]) w13 /\
 Br (!b37_1) (
 ptrE p0 fun a14 =>
 runD prog ds w13 fun w15 =>
 R (.returned (.tuple #[.func (.func 47) #[.pointer (some a14)] #[], .int .i64 4])) w15) (
 ptrE p0 fun a16 =>
 runD prog ds w13 fun w17 =>
 R (.returned (.tuple #[.func (.func 47) #[.pointer (some a16)] #[], .int .i64 0])) w17)))))
theorem F43_p : Pl prog f43 [pS 0, iS 1, sS 2] F43_1 := fun R =>
  lf
theorem F43_calls (p0 : Option Addr) (n1 : Int) (s2 : ByteArray) (w : World) (R : Rt) (h : F43_1 R p0 n1 s2 [] w) : Calls prog 43 #[.pointer p0, .int .i64 n1, .string s2] w R :=
  plC F43_p func43 h
def F67_1 (R : Rt) (J1 : (Unit) -> World -> Prop) (p0 : Option Addr) (n1 : Int) (s2 : ByteArray) (n3 : Int) (p8 p9 p17 : Option Addr) (ds : Ds) (w : World) : Prop :=
 dwE w fun w1 =>
 ptrE p0 fun a2 =>
 0 <= n1 /\ n1 < (4 : Int) /\
 ∃ m59, w1.cell? ((a2.add 3).add (n1.toNat * 1)) = some (.map m59) /\
 ptrE p8 fun a3 =>
 ∃ s60_0, w1.cell? (a3.add 0) = some (.string s60_0) /\
 ∃ n60_1, w1.cell? (a3.add 1) = some (.int .i64 n60_1) /\
 ptrE p9 fun a4 =>
 ∃ c61 : Array Value, c61.size = 96 /\ (∀ i, i < 96 -> w1.cell? (a4.add i) = c61[i]?) /\
 doE prog (Instr.mapUpdate 63 (.map m59) (.agg #[.string s60_0, .int .i64 n60_1]) (.agg c61)) w1 fun w5 =>
 ptrE p8 fun a6 =>
 ∃ n63, w5.cell? (a6.add 1) = some (.int .i64 n63) /\
 Br (decide ((IntKind.i64.wrap (n63 * 32)) ≥ n3)) (
 dwE w5 fun w7 =>
 ptrE p0 fun a8 =>
 0 <= n1 /\ n1 < (4 : Int) /\
 ∃ m72, w7.cell? ((a8.add 3).add (n1.toNat * 1)) = some (.map m72) /\
 ptrE p8 fun a9 =>
 ∃ s73_0, w7.cell? (a9.add 0) = some (.string s73_0) /\
 ∃ n73_1, w7.cell? (a9.add 1) = some (.int .i64 n73_1) /\
 ∃ w10, (Builtin.delete_ #[63, 92] 0 #[.map m72, .agg #[.string s73_0, .int .i64 n73_1]]).run prog w7 = .ok (.tuple #[]) w10 /\
 J1 () w10) (
 J1 () w5)
def F67_2 (R : Rt) (J1 : (Unit) -> World -> Prop) (J2 : (Int) -> World -> Prop) (p0 : Option Addr) (n1 : Int) (s2 : ByteArray) (n3 : Int) (p8 p9 : Option Addr) (n10 : Int) (p17 : Option Addr) (ds : Ds) (w : World) : Prop :=
 Br (decide (n10 < 32)) (
 ptrE p9 fun a11 =>
 0 <= n10 /\ n10 < (32 : Int) /\
 st1 ((a11.add 32).add (n10.toNat * 1)) (.bool false) w fun w12 =>
 ptrE p9 fun a13 =>
 0 <= n10 /\ n10 < (32 : Int) /\
 st1 ((a13.add 64).add (n10.toNat * 1)) (.bool false) w12 fun w14 =>
 ptrE p9 fun a15 =>
 0 <= n10 /\ n10 < (32 : Int) /\
 st1 (a15.add (n10.toNat * 1)) (.int .u8 0) w14 fun w16 =>
 J2 (IntKind.i64.wrap (n10 + 1)) w16) (
 F67_1 R J1 p0 n1 s2 n3 p8 p9 p17 ds w)
def F67_3 (R : Rt) (J1 : (Unit) -> World -> Prop) (p0 : Option Addr) (n1 : Int) (s2 : ByteArray) (n3 : Int) (p8 p9 : Option Addr) (n10 : Int) (p17 : Option Addr) (ds : Ds) (w : World) : Prop :=
 loopT (fun (J2 : (Int) -> World -> Prop) (s : Int) (w : World) => F67_2 R J1 J2 p0 n1 s2 n3 p8 p9 s p17 ds w) n10 w
def F67_5 (R : Rt) (J1 : (Unit) -> World -> Prop) (p0 : Option Addr) (n1 : Int) (s2 : ByteArray) (n3 : Int) (p17 : Option Addr) (ds : Ds) (w : World) : Prop :=
 ∃ k20 v20 : Value, ∃ w17, (Instr.entry (.pointer p17)).run prog w = .ok (.tuple #[k20, v20]) w17 /\
 dAgg k20 fun q21 =>
 dHd q21 fun x21_0 q21_0 =>
 dStr x21_0 fun s21_0 =>
 dHd q21_0 fun x21_1 q21_1 =>
 dInt .i64 x21_1 fun n21_1 =>
 dNil q21_1 (
 dRow v20 fun c22 =>
 alE (.cells #[.string (⟨#[]⟩ : ByteArray), .int .i64 0] 92) w17 fun r8 w18 =>
 alE (.cells (zc prog 89) 89) w18 fun r9 w19 =>
 stA prog 92 (⟨r8, 0, none⟩ : Addr) #[.string s21_0, .int .i64 n21_1] w19 fun w20 =>
 stA prog 89 (⟨r9, 0, none⟩ : Addr) c22 w20 fun w21 =>
 ∃ s24, w21.cell? (⟨r8, 0, none⟩ : Addr) = some (.string s24) /\
 Br (!(s24.toList == s2.toList)) (
 J1 () w21) (
 ∃ n29, w21.cell? ((⟨r8, 0, none⟩ : Addr).add 1) = some (.int .i64 n29) /\
 Br (decide ((IntKind.i64.wrap ((IntKind.i64.wrap (n29 + 1)) * 32)) <= n3)) (
 J1 () w21) (
 ∃ n37, w21.cell? ((⟨r8, 0, none⟩ : Addr).add 1) = some (.int .i64 n37) /\
 ∃ n40 : Int, ∃ w22, (Builtin.max_ #[3, 3] 3 #[.int .i64 0, .int .i64 (IntKind.i64.wrap (n3 - (IntKind.i64.wrap (n37 * 32))))]).run prog w21 = .ok (.int .i64 n40) w22 /\
 F67_3 R J1 p0 n1 s2 n3 (some (⟨r8, 0, none⟩ : Addr)) (some (⟨r9, 0, none⟩ : Addr)) n40 p17 ds w22)))
def F67_7 (R : Rt) (J1 : (Unit) -> World -> Prop) (p0 : Option Addr) (n1 : Int) (s2 : ByteArray) (n3 : Int) (p17 : Option Addr) (ds : Ds) (w : World) : Prop :=
 (∃ w23, (Instr.next (.pointer p17) false 0).run prog w = .ok (.tuple #[.bool false]) w23 /\
 runD prog ds w23 fun w25 =>
 R (.returned (.tuple #[])) w25) ∨ (∃ k18 v18 : Value, ∃ w24, (Instr.next (.pointer p17) false 0).run prog w = .ok (.tuple #[.bool true, k18, v18]) w24 /\
 F67_5 R J1 p0 n1 s2 n3 p17 ds w24)
def F67_8 (R : Rt) (p0 : Option Addr) (n1 : Int) (s2 : ByteArray) (n3 : Int) (p17 : Option Addr) (ds : Ds) (w : World) : Prop :=
 loopT (fun (J1 : (Unit) -> World -> Prop) (_ : Unit) (w : World) => F67_7 R J1 p0 n1 s2 n3 p17 ds w) () w
def F67_10 (R : Rt) (p0 : Option Addr) (n1 : Int) (s2 : ByteArray) (n3 : Int) (ds : Ds) (w : World) : Prop :=
 ptrE p0 fun a26 =>
 0 <= n1 /\ n1 < (4 : Int) /\
 ∃ m16, w.cell? ((a26.add 3).add (n1.toNat * 1)) = some (.map m16) /\
 ∃ p17 : Option Addr, ∃ w27, (Instr.range 63 (.map m16)).run prog w = .ok (.pointer p17) w27 /\
 F67_8 R p0 n1 s2 n3 p17 ds w27
theorem F67_p : Pl prog f67 [pS 0, iS 1, sS 2, iS 3] F67_10 := fun R =>
  pc 1 (rest [pS 0, iS 1, sS 2, iS 3, pS 17] (F67_8 R) (bk 0 rnil (lp [] [pS 0, iS 1, sS 2, iS 3, pS 17] (F67_7 R) rnil fun J1 => pc 2 (rest [pS 0, iS 1, sS 2, iS 3, pS 17] (F67_5 R J1) (bk 1 rnil (pc 4 (rest [pS 0, iS 1, sS 2, iS 3, pS 8, pS 9, iS 10, pS 17] (F67_3 R J1) (bk 2 (rest [pS 0, iS 1, sS 2, iS 3, pS 8, pS 9, pS 17] (F67_1 R J1) lf) (lp [iS 10] [pS 0, iS 1, sS 2, iS 3, pS 8, pS 9, iS 10, pS 17] (F67_2 R J1) rnil fun J2 => lf)))))))))
theorem F67_calls (p0 : Option Addr) (n1 : Int) (s2 : ByteArray) (n3 : Int) (w : World) (R : Rt) (h : F67_10 R p0 n1 s2 n3 [] w) : Calls prog 67 #[.pointer p0, .int .i64 n1, .string s2, .int .i64 n3] w R :=
  plC F67_p func67 h
def F44_1 (R : Rt) (J1 : (Int) -> World -> Prop) (p0 : Option Addr) (n1 : Int) (s2 : ByteArray) (n3 n4 : Int) (v5 : Value) (n12 : Int) (p13 p14 : Option Addr) (ds : Ds) (w : World) : Prop :=
 dwE w fun w1 =>
 ptrE p0 fun a2 =>
 0 <= n1 /\ n1 < (4 : Int) /\
 ∃ m55, w1.cell? ((a2.add 3).add (n1.toNat * 1)) = some (.map m55) /\
 ptrE p13 fun a3 =>
 ∃ s56_0, w1.cell? (a3.add 0) = some (.string s56_0) /\
 ∃ n56_1, w1.cell? (a3.add 1) = some (.int .i64 n56_1) /\
 ptrE p14 fun a4 =>
 ∃ c57 : Array Value, c57.size = 96 /\ (∀ i, i < 96 -> w1.cell? (a4.add i) = c57[i]?) /\
 doE prog (Instr.mapUpdate 63 (.map m55) (.agg #[.string s56_0, .int .i64 n56_1]) (.agg c57)) w1 fun w5 =>
 J1 n12 w5
def F44_2 (R : Rt) (J1 : (Int) -> World -> Prop) (J2 : (Int × Int) -> World -> Prop) (p0 : Option Addr) (n1 : Int) (s2 : ByteArray) (n3 n4 : Int) (v5 : Value) (n12 : Int) (p13 p14 : Option Addr) (n15 : Int) (ds : Ds) (w : World) : Prop :=
 Br (decide (n15 < 32)) (
 Br (decide (n12 < n4)) (
 fnE v5 fun f47 first47 cap47 =>
 hasBody prog f47 = true /\ Calls prog f47 (first47.toList ++ (([.pointer p14, .int .i64 n15, .int .i64 n12] : List Value) ++ cap47.toList)).toArray w fun e w6 =>
 e = .returned (.tuple #[]) /\
 J2 ((IntKind.i64.wrap (n12 + 1)), (IntKind.i64.wrap (n15 + 1))) w6) (
 F44_1 R J1 p0 n1 s2 n3 n4 (v5) n12 p13 p14 ds w)) (
 F44_1 R J1 p0 n1 s2 n3 n4 (v5) n12 p13 p14 ds w)
def F44_3 (R : Rt) (J1 : (Int) -> World -> Prop) (p0 : Option Addr) (n1 : Int) (s2 : ByteArray) (n3 n4 : Int) (v5 : Value) (n12 : Int) (p13 p14 : Option Addr) (n15 : Int) (ds : Ds) (w : World) : Prop :=
 loopT (fun (J2 : (Int × Int) -> World -> Prop) (s : Int × Int) (w : World) => F44_2 R J1 J2 p0 n1 s2 n3 n4 v5 s.1 p13 p14 s.2 ds w) (n12, n15) w
def F44_5 (R : Rt) (J1 : (Int) -> World -> Prop) (p0 : Option Addr) (n1 : Int) (s2 : ByteArray) (n3 n4 : Int) (v5 : Value) (n12 : Int) (ds : Ds) (w : World) : Prop :=
 IntKind.i64 = IntKind.i64 /\ (32 : Int) ≠ 0 /\
 alE (.cells #[.string (⟨#[]⟩ : ByteArray), .int .i64 0] 92) w fun r13 w7 =>
 stA prog 92 (⟨r13, 0, none⟩ : Addr) #[.string s2, .int .i64 (IntKind.i64.wrap ((IntKind.i64.wrap (n3 + n12)).tdiv 32))] w7 fun w8 =>
 ∃ s27_0, w8.cell? ((⟨r13, 0, none⟩ : Addr).add 0) = some (.string s27_0) /\
 ∃ n27_1, w8.cell? ((⟨r13, 0, none⟩ : Addr).add 1) = some (.int .i64 n27_1) /\
 Calls prog 95 #[.pointer p0, .int .i64 n1, .agg #[.string s27_0, .int .i64 n27_1], .int .i64 n3, .int .i64 n4] w8 fun e w9 =>
 ∃ c30 : Array Value, c30.size = 96 /\ e = .returned (.agg c30) /\
 alE (.cells (zc prog 89) 89) w9 fun r14 w10 =>
 stA prog 89 (⟨r14, 0, none⟩ : Addr) c30 w10 fun w11 =>
 IntKind.i64 = IntKind.i64 /\ (32 : Int) ≠ 0 /\
 F44_3 R J1 p0 n1 s2 n3 n4 (v5) n12 (some (⟨r13, 0, none⟩ : Addr)) (some (⟨r14, 0, none⟩ : Addr)) ((IntKind.i64.wrap (n3 + n12)).tmod 32) ds w11
def F44_7 (R : Rt) (J1 : (Int) -> World -> Prop) (p0 : Option Addr) (n1 : Int) (s2 : ByteArray) (n3 n4 : Int) (v5 : Value) (n12 : Int) (ds : Ds) (w : World) : Prop :=
 Br (decide (n12 < n4)) (
 F44_5 R J1 p0 n1 s2 n3 n4 (v5) n12 ds w) (
 runD prog ds w fun w12 =>
 R (.returned (.tuple #[])) w12)
def F44_8 (R : Rt) (p0 : Option Addr) (n1 : Int) (s2 : ByteArray) (n3 n4 : Int) (v5 : Value) (n12 : Int) (ds : Ds) (w : World) : Prop :=
 loopT (fun (J1 : (Int) -> World -> Prop) (s : Int) (w : World) => F44_7 R J1 p0 n1 s2 n3 n4 v5 s ds w) n12 w
def F44_10 (R : Rt) (p0 : Option Addr) (n1 : Int) (s2 : ByteArray) (n3 n4 : Int) (v5 : Value) (ds : Ds) (w : World) : Prop :=
 F44_8 R p0 n1 s2 n3 n4 (v5) 0 ds w
theorem F44_p : Pl prog f44 [pS 0, iS 1, sS 2, iS 3, iS 4, vS 5] F44_10 := fun R =>
  pc 1 (rest [pS 0, iS 1, sS 2, iS 3, iS 4, vS 5, iS 12] (F44_8 R) (bk 0 rnil (lp [iS 12] [pS 0, iS 1, sS 2, iS 3, iS 4, vS 5, iS 12] (F44_7 R) rnil fun J1 => pc 2 (rest [pS 0, iS 1, sS 2, iS 3, iS 4, vS 5, iS 12] (F44_5 R J1) (bk 1 rnil (pc 3 (rest [pS 0, iS 1, sS 2, iS 3, iS 4, vS 5, iS 12, pS 13, pS 14, iS 15] (F44_3 R J1) (bk 2 (rest [pS 0, iS 1, sS 2, iS 3, iS 4, vS 5, iS 12, pS 13, pS 14] (F44_1 R J1) lf) (lp [iS 12, iS 15] [pS 0, iS 1, sS 2, iS 3, iS 4, vS 5, iS 12, pS 13, pS 14, iS 15] (F44_2 R J1) rnil fun J2 => lf)))))))))
theorem F44_calls (p0 : Option Addr) (n1 : Int) (s2 : ByteArray) (n3 n4 : Int) (v5 : Value) (w : World) (R : Rt) (h : F44_10 R p0 n1 s2 n3 n4 v5 [] w) : Calls prog 44 #[.pointer p0, .int .i64 n1, .string s2, .int .i64 n3, .int .i64 n4, v5] w R :=
  plC F44_p func44 h
def F68_1 (R : Rt) (p0 : Option Addr) (n1 n2 : Int) (v3 : Value) (ds : Ds) (w : World) : Prop :=
 dwE w fun w1 =>
 addrE v3 fun a2 =>
 ∃ l13 : SV, w1.cell? a2 = some (.slice l13.a l13.len l13.cap) /\
 ∃ a3, l13.a = some a3 /\ 0 <= n2 /\ n2 < (l13.len : Int) /\
 ∃ n16, w1.cell? (a3.add (n2.toNat * 1)) = some (.int .u8 n16) /\
 ptrE p0 fun a4 =>
 0 <= n1 /\ n1 < (32 : Int) /\
 ptrE p0 fun a5 =>
 ptrE p0 fun a6 =>
 st1 (a4.add (n1.toNat * 1)) (.int .u8 n16) w1 fun w7 =>
 0 <= n1 /\ n1 < (32 : Int) /\
 st1 ((a5.add 32).add (n1.toNat * 1)) (.bool true) w7 fun w8 =>
 0 <= n1 /\ n1 < (32 : Int) /\
 st1 ((a6.add 64).add (n1.toNat * 1)) (.bool true) w8 fun w9 =>
 runD prog ds w9 fun w10 =>
 R (.returned (.tuple #[])) w10
theorem F68_p : Pl prog f68 [pS 0, iS 1, iS 2, vS 3] F68_1 := fun R =>
  lf
theorem F68_calls (p0 : Option Addr) (n1 n2 : Int) (v3 : Value) (w : World) (R : Rt) (h : F68_1 R p0 n1 n2 v3 [] w) : Calls prog 68 #[.pointer p0, .int .i64 n1, .int .i64 n2, v3] w R :=
  plC F68_p func68 h
def F69_1 (R : Rt) (l11 : SV) (ds : Ds) (w : World) : Prop :=
 runD prog ds w fun w1 =>
 R (.returned (.slice l11.a l11.len l11.cap)) w1
def F69_2 (R : Rt) (J1 : (SV) -> World -> Prop) (s2 : ByteArray) (n3 n4 : Int) (l11 : SV) (p19 : Option Addr) (ds : Ds) (w : World) : Prop :=
 (∃ w2, (Instr.next (.pointer p19) false 0).run prog w = .ok (.tuple #[.bool false]) w2 /\
 F69_1 R l11 ds w2) ∨ (∃ k20 v20 : Value, ∃ w3, (Instr.next (.pointer p19) false 0).run prog w = .ok (.tuple #[.bool true, k20, v20]) w3 /\
 ∃ k22 v22 : Value, ∃ w4, (Instr.entry (.pointer p19)).run prog w3 = .ok (.tuple #[k22, v22]) w4 /\
 dAgg k22 fun q23 =>
 dHd q23 fun x23_0 q23_0 =>
 dStr x23_0 fun s23_0 =>
 dHd q23_0 fun x23_1 q23_1 =>
 dInt .i64 x23_1 fun n23_1 =>
 dNil q23_1 (
 alE (.cells #[.string (⟨#[]⟩ : ByteArray), .int .i64 0] 92) w4 fun r12 w5 =>
 stA prog 92 (⟨r12, 0, none⟩ : Addr) #[.string s23_0, .int .i64 n23_1] w5 fun w6 =>
 ∃ s25, w6.cell? (⟨r12, 0, none⟩ : Addr) = some (.string s25) /\
 Br (s25.toList == s2.toList) (
 ∃ n30, w6.cell? ((⟨r12, 0, none⟩ : Addr).add 1) = some (.int .i64 n30) /\
 Br (decide ((IntKind.i64.wrap (n30 * 32)) < (IntKind.i64.wrap (n3 + n4)))) (
 ∃ n40, w6.cell? ((⟨r12, 0, none⟩ : Addr).add 1) = some (.int .i64 n40) /\
 Br (decide (n3 < (IntKind.i64.wrap ((IntKind.i64.wrap (n40 + 1)) * 32)))) (
 ∃ s46_0, w6.cell? ((⟨r12, 0, none⟩ : Addr).add 0) = some (.string s46_0) /\
 ∃ n46_1, w6.cell? ((⟨r12, 0, none⟩ : Addr).add 1) = some (.int .i64 n46_1) /\
 alE (.cells #[.string s46_0, .int .i64 n46_1] 92) w6 fun r47 w7 =>
 ∃ l48 : SV, ∃ w8, (Builtin.append_ #[119, 119] 119 #[.slice l11.a l11.len l11.cap, .slice (some ⟨r47, 0, none⟩) 1 1]).run prog w7 = .ok (.slice l48.a l48.len l48.cap) w8 /\
 J1 l48 w8) (
 J1 l11 w6)) (
 J1 l11 w6)) (
 J1 l11 w6)))
def F69_3 (R : Rt) (s2 : ByteArray) (n3 n4 : Int) (l11 : SV) (p19 : Option Addr) (ds : Ds) (w : World) : Prop :=
 loopT (fun (J1 : (SV) -> World -> Prop) (s : SV) (w : World) => F69_2 R J1 s2 n3 n4 s p19 ds w) l11 w
def F69_5 (R : Rt) (p0 : Option Addr) (n1 : Int) (s2 : ByteArray) (n3 n4 : Int) (ds : Ds) (w : World) : Prop :=
 ptrE p0 fun a9 =>
 0 <= n1 /\ n1 < (4 : Int) /\
 ∃ m18, w.cell? ((a9.add 3).add (n1.toNat * 1)) = some (.map m18) /\
 ∃ p19 : Option Addr, ∃ w10, (Instr.range 63 (.map m18)).run prog w = .ok (.pointer p19) w10 /\
 F69_3 R s2 n3 n4 ⟨none, 0, 0⟩ p19 ds w10
theorem F69_p : Pl prog f69 [pS 0, iS 1, sS 2, iS 3, iS 4] F69_5 := fun R =>
  pc 3 (rest [sS 2, iS 3, iS 4, lS 11, pS 19] (F69_3 R) (bk 0 (rest [lS 11] (F69_1 R) lf) (lp [lS 11] [sS 2, iS 3, iS 4, lS 11, pS 19] (F69_2 R) rnil fun J1 => lf)))
theorem F69_calls (p0 : Option Addr) (n1 : Int) (s2 : ByteArray) (n3 n4 : Int) (w : World) (R : Rt) (h : F69_5 R p0 n1 s2 n3 n4 [] w) : Calls prog 69 #[.pointer p0, .int .i64 n1, .string s2, .int .i64 n3, .int .i64 n4] w R :=
  plC F69_p func69 h
def F70_1 (R : Rt) (p0 : Option Addr) (n1 : Int) (p5 p7 : Option Addr) (n8 : Int) (ds : Ds) (w : World) : Prop :=
 dwE w fun w1 =>
 ptrE p0 fun a2 =>
 0 <= n1 /\ n1 < (4 : Int) /\
 ∃ m53, w1.cell? ((a2.add 3).add (n1.toNat * 1)) = some (.map m53) /\
 ptrE p5 fun a3 =>
 ∃ s54_0, w1.cell? (a3.add 0) = some (.string s54_0) /\
 ∃ n54_1, w1.cell? (a3.add 1) = some (.int .i64 n54_1) /\
 ptrE p7 fun a4 =>
 ∃ c55 : Array Value, c55.size = 96 /\ (∀ i, i < 96 -> w1.cell? (a4.add i) = c55[i]?) /\
 doE prog (Instr.mapUpdate 63 (.map m53) (.agg #[.string s54_0, .int .i64 n54_1]) (.agg c55)) w1 fun w5 =>
 runD prog ds w5 fun w6 =>
 R (.returned (.int .i64 n8)) w6
def F70_2 (R : Rt) (J1 : (Int × Int) -> World -> Prop) (p0 : Option Addr) (n1 : Int) (p5 p7 : Option Addr) (n8 n18 : Int) (ds : Ds) (w : World) : Prop :=
 Br (decide (n18 < 32)) (
 ptrE p7 fun a7 =>
 0 <= n18 /\ n18 < (32 : Int) /\
 ∃ b24, w.cell? ((a7.add 64).add (n18.toNat * 1)) = some (.bool b24) /\
 Br b24 (
 dwE w fun w8 =>
 ptrE p0 fun a9 =>
 ∃ m28, w8.cell? (a9.add 2) = some (.map m28) /\
 ptrE p5 fun a10 =>
 ∃ s30, w8.cell? a10 = some (.string s30) /\
 ∃ l31 : SV, (Instr.lookup 55 (.map m28) (.string s30) false).run prog w8 = .ok (.slice l31.a l31.len l31.cap) w8 /\
 ptrE p5 fun a11 =>
 ∃ n33, w8.cell? (a11.add 1) = some (.int .i64 n33) /\
 ptrE p7 fun a12 =>
 0 <= n18 /\ n18 < (32 : Int) /\
 ∃ n40, w8.cell? (a12.add (n18.toNat * 1)) = some (.int .u8 n40) /\
 ∃ a13, l31.a = some a13 /\ 0 <= (IntKind.i64.wrap ((IntKind.i64.wrap (n33 * 32)) + n18)) /\ (IntKind.i64.wrap ((IntKind.i64.wrap (n33 * 32)) + n18)) < (l31.len : Int) /\
 st1 (a13.add ((IntKind.i64.wrap ((IntKind.i64.wrap (n33 * 32)) + n18)).toNat * 1)) (.int .u8 n40) w8 fun w14 =>
 ptrE p7 fun a15 =>
 0 <= n18 /\ n18 < (32 : Int) /\
 st1 ((a15.add 64).add (n18.toNat * 1)) (.bool false) w14 fun w16 =>
 J1 ((IntKind.i64.wrap (n8 + 1)), (IntKind.i64.wrap (n18 + 1))) w16) (
 J1 (n8, (IntKind.i64.wrap (n18 + 1))) w)) (
 F70_1 R p0 n1 p5 p7 n8 ds w)
def F70_3 (R : Rt) (p0 : Option Addr) (n1 : Int) (p5 p7 : Option Addr) (n8 n18 : Int) (ds : Ds) (w : World) : Prop :=
 loopT (fun (J1 : (Int × Int) -> World -> Prop) (s : Int × Int) (w : World) => F70_2 R J1 p0 n1 p5 p7 s.1 s.2 ds w) (n8, n18) w
def F70_5 (R : Rt) (p0 : Option Addr) (n1 : Int) (s2_0 : ByteArray) (n2_1 : Int) (ds : Ds) (w : World) : Prop :=
 alE (.cells #[.string s2_0, .int .i64 n2_1] 92) w fun r5 w17 =>
 dwE w17 fun w18 =>
 ∃ S3 : World -> Prop, S3 w18 /\
 ptrE p0 fun a19 =>
 0 <= n1 /\ n1 < (4 : Int) /\
 ∃ m15, (∀ w', S3 w' -> w'.cell? ((a19.add 3).add (n1.toNat * 1)) = some (.map m15)) /\
 ∃ s16_0, (∀ w', S3 w' -> w'.cell? ((⟨r5, 0, none⟩ : Addr).add 0) = some (.string s16_0)) /\
 ∃ n16_1, (∀ w', S3 w' -> w'.cell? ((⟨r5, 0, none⟩ : Addr).add 1) = some (.int .i64 n16_1)) /\
 ∃ c17 : Array Value, c17.size = 96 /\ (∀ w', S3 w' -> (Instr.lookup 63 (.map m15) (.agg #[.string s16_0, .int .i64 n16_1]) false).run prog w' = .ok (.agg c17) w') /\
 alE (.cells (zc prog 89) 89) w18 fun r7 w20 =>
 S3 w20 /\
 stA prog 89 (⟨r7, 0, none⟩ : Addr) c17 w20 fun w21 =>
 F70_3 R p0 n1 (some (⟨r5, 0, none⟩ : Addr)) (some (⟨r7, 0, none⟩ : Addr)) 0 0 ds w21
theorem F70_p : Pl prog f70 [pS 0, iS 1, aS 2 [.str, .int .i64]] F70_5 := fun R =>
  pc 4 (rest [pS 0, iS 1, pS 5, pS 7, iS 8, iS 18] (F70_3 R) (bk 0 (rest [pS 0, iS 1, pS 5, pS 7, iS 8] (F70_1 R) lf) (lp [iS 8, iS 18] [pS 0, iS 1, pS 5, pS 7, iS 8, iS 18] (F70_2 R) rnil fun J1 => lf)))
theorem F70_calls (p0 : Option Addr) (n1 : Int) (s2_0 : ByteArray) (n2_1 : Int) (w : World) (R : Rt) (h : F70_5 R p0 n1 s2_0 n2_1 [] w) : Calls prog 70 #[.pointer p0, .int .i64 n1, .agg #[.string s2_0, .int .i64 n2_1]] w R :=
  plC F70_p func70 h
def F50_1 (R : Rt) (l0 : SV) (ds : Ds) (w : World) : Prop :=
 ∃ b4 : Bool, ∃ w1, (eqS .eql 36 (.tmp 3) (.const (.slice none 0 0)) (.slice l0.a l0.len l0.cap) (.slice none 0 0)).run prog w = .ok (.bool b4) w1 /\
 Br b4 (
 runD prog ds w1 fun w2 =>
 R (.returned (.slice none 0 0)) w2) (
 alE (.cells #[] 5) w1 fun r5 w3 =>
 ∃ l7 : SV, ∃ w4, (Builtin.append_ #[36, 36] 36 #[.slice (some ⟨r5, 0, none⟩) 0 0, .slice l0.a l0.len l0.cap]).run prog w3 = .ok (.slice l7.a l7.len l7.cap) w4 /\
 runD prog ds w4 fun w5 =>
 R (.returned (.slice l7.a l7.len l7.cap)) w5)
theorem F50_p : Pl prog f50 [lS 0] F50_1 := fun R =>
  lf
theorem F50_calls (l0 : SV) (w : World) (R : Rt) (h : F50_1 R l0 [] w) : Calls prog 50 #[.slice l0.a l0.len l0.cap] w R :=
  plC F50_p func50 h
def F45_1 (R : Rt) (p0 : Option Addr) (n1 n2 : Int) (v3 : Value) (ds : Ds) (w : World) : Prop :=
 dwE w fun w1 =>
 addrE v3 fun a2 =>
 ∃ l7 : SV, w1.cell? a2 = some (.slice l7.a l7.len l7.cap) /\
 ptrE p0 fun a3 =>
 0 <= n1 /\ n1 < (32 : Int) /\
 ∃ n14, w1.cell? (a3.add (n1.toNat * 1)) = some (.int .u8 n14) /\
 ∃ a4, l7.a = some a4 /\ 0 <= n2 /\ n2 < (l7.len : Int) /\
 st1 (a4.add (n2.toNat * 1)) (.int .u8 n14) w1 fun w5 =>
 runD prog ds w5 fun w6 =>
 R (.returned (.tuple #[])) w6
theorem F45_p : Pl prog f45 [pS 0, iS 1, iS 2, vS 3] F45_1 := fun R =>
  lf
theorem F45_calls (p0 : Option Addr) (n1 n2 : Int) (v3 : Value) (w : World) (R : Rt) (h : F45_1 R p0 n1 n2 v3 [] w) : Calls prog 45 #[.pointer p0, .int .i64 n1, .int .i64 n2, v3] w R :=
  plC F45_p func45 h
def F71_1 (R : Rt) (n0_0 : Int) (s0_1 : ByteArray) (n0_2 n0_3 : Int) (v1 v2 v3 : Value) (ds : Ds) (w : World) : Prop :=
 alE (.cells #[.int .i64 n0_0, .string s0_1, .int .i64 n0_2, .int .i64 n0_3] 95) w fun r4 w1 =>
 ∃ n6_0, w1.cell? ((⟨r4, 0, none⟩ : Addr).add 0) = some (.int .i64 n6_0) /\
 ∃ s6_1, w1.cell? ((⟨r4, 0, none⟩ : Addr).add 1) = some (.string s6_1) /\
 ∃ n6_2, w1.cell? ((⟨r4, 0, none⟩ : Addr).add 2) = some (.int .i64 n6_2) /\
 ∃ n6_3, w1.cell? ((⟨r4, 0, none⟩ : Addr).add 3) = some (.int .i64 n6_3) /\
 addrE v1 fun a2 =>
 ∃ s7, w1.cell? a2 = some (.string s7) /\
 addrE v2 fun a3 =>
 ∃ n8, w1.cell? a3 = some (.int .i64 n8) /\
 addrE v3 fun a4 =>
 ∃ n9, w1.cell? a4 = some (.int .i64 n9) /\
 Calls prog 72 #[.agg #[.int .i64 n6_0, .string s6_1, .int .i64 n6_2, .int .i64 n6_3], .string s7, .int .i64 n8, .int .i64 n9] w1 fun e w5 =>
 ∃ b10 : Bool, e = .returned (.bool b10) /\
 runD prog ds w5 fun w6 =>
 R (.returned (.bool b10)) w6
theorem F71_p : Pl prog f71 [aS 0 [.int .i64, .str, .int .i64, .int .i64], vS 1, vS 2, vS 3] F71_1 := fun R =>
  lf
theorem F71_calls (n0_0 : Int) (s0_1 : ByteArray) (n0_2 n0_3 : Int) (v1 v2 v3 : Value) (w : World) (R : Rt) (h : F71_1 R n0_0 s0_1 n0_2 n0_3 v1 v2 v3 [] w) : Calls prog 71 #[.agg #[.int .i64 n0_0, .string s0_1, .int .i64 n0_2, .int .i64 n0_3], v1, v2, v3] w R :=
  plC F71_p func71 h
def F72_1 (R : Rt) (n0_0 : Int) (s0_1 : ByteArray) (n0_2 n0_3 : Int) (s1 : ByteArray) (n2 n3 : Int) (ds : Ds) (w : World) : Prop :=
 alE (.cells #[.int .i64 n0_0, .string s0_1, .int .i64 n0_2, .int .i64 n0_3] 95) w fun r4 w1 =>
 ∃ s10, w1.cell? ((⟨r4, 0, none⟩ : Addr).add 1) = some (.string s10) /\
 Br (s10.toList == s1.toList) (
 ∃ n15, w1.cell? ((⟨r4, 0, none⟩ : Addr).add 2) = some (.int .i64 n15) /\
 Br (decide (n15 < (IntKind.i64.wrap (n2 + n3)))) (
 ∃ n24, w1.cell? ((⟨r4, 0, none⟩ : Addr).add 2) = some (.int .i64 n24) /\
 ∃ n26, w1.cell? ((⟨r4, 0, none⟩ : Addr).add 3) = some (.int .i64 n26) /\
 runD prog ds w1 fun w2 =>
 R (.returned (.bool (decide (n2 < (IntKind.i64.wrap (n24 + n26)))))) w2) (
 runD prog ds w1 fun w3 =>
 R (.returned (.bool false)) w3)) (
 runD prog ds w1 fun w4 =>
 R (.returned (.bool false)) w4)
theorem F72_p : Pl prog f72 [aS 0 [.int .i64, .str, .int .i64, .int .i64], sS 1, iS 2, iS 3] F72_1 := fun R =>
  lf
theorem F72_calls (n0_0 : Int) (s0_1 : ByteArray) (n0_2 n0_3 : Int) (s1 : ByteArray) (n2 n3 : Int) (w : World) (R : Rt) (h : F72_1 R n0_0 s0_1 n0_2 n0_3 s1 n2 n3 [] w) : Calls prog 72 #[.agg #[.int .i64 n0_0, .string s0_1, .int .i64 n0_2, .int .i64 n0_3], .string s1, .int .i64 n2, .int .i64 n3] w R :=
  plC F72_p func72 h
def F73_1 (R : Rt) (l0 : SV) (v1 : Value) (ds : Ds) (w : World) : Prop :=
 Calls prog 98 #[.slice l0.a l0.len l0.cap, v1] w fun e w1 =>
 ∃ n7 : Int, e = .returned (.int .i64 n7) /\
 runD prog ds w1 fun w2 =>
 R (.returned (.bool (decide (n7 ≥ 0)))) w2
theorem F73_p : Pl prog f73 [lS 0, vS 1] F73_1 := fun R =>
  lf
theorem F73_calls (l0 : SV) (v1 : Value) (w : World) (R : Rt) (h : F73_1 R l0 v1 [] w) : Calls prog 73 #[.slice l0.a l0.len l0.cap, v1] w R :=
  plC F73_p func73 h
def F74_1 (R : Rt) (n0_0 : Int) (s0_1 : ByteArray) (n0_2 n0_3 : Int) (v1 v2 : Value) (ds : Ds) (w : World) : Prop :=
 alE (.cells #[.int .i64 n0_0, .string s0_1, .int .i64 n0_2, .int .i64 n0_3] 95) w fun r3 w1 =>
 ∃ n6, w1.cell? (⟨r3, 0, none⟩ : Addr) = some (.int .i64 n6) /\
 addrE v1 fun a2 =>
 ∃ n7, w1.cell? a2 = some (.int .i64 n7) /\
 Br (n6 == n7) (
 addrE v2 fun a3 =>
 ∃ v10 : Value, w1.cell? a3 = some (v10) /\
 ∃ n11_0, w1.cell? ((⟨r3, 0, none⟩ : Addr).add 0) = some (.int .i64 n11_0) /\
 ∃ s11_1, w1.cell? ((⟨r3, 0, none⟩ : Addr).add 1) = some (.string s11_1) /\
 ∃ n11_2, w1.cell? ((⟨r3, 0, none⟩ : Addr).add 2) = some (.int .i64 n11_2) /\
 ∃ n11_3, w1.cell? ((⟨r3, 0, none⟩ : Addr).add 3) = some (.int .i64 n11_3) /\
 fnE v10 fun f12 first12 cap12 =>
 hasBody prog f12 = true /\ Calls prog f12 (first12.toList ++ (([.agg #[.int .i64 n11_0, .string s11_1, .int .i64 n11_2, .int .i64 n11_3]] : List Value) ++ cap12.toList)).toArray w1 fun e w4 =>
 ∃ b12 : Bool, e = .returned (.bool b12) /\
 runD prog ds w4 fun w5 =>
 R (.returned (.bool b12)) w5) (
 runD prog ds w1 fun w6 =>
 R (.returned (.bool false)) w6)
theorem F74_p : Pl prog f74 [aS 0 [.int .i64, .str, .int .i64, .int .i64], vS 1, vS 2] F74_1 := fun R =>
  lf
theorem F74_calls (n0_0 : Int) (s0_1 : ByteArray) (n0_2 n0_3 : Int) (v1 v2 : Value) (w : World) (R : Rt) (h : F74_1 R n0_0 s0_1 n0_2 n0_3 v1 v2 [] w) : Calls prog 74 #[.agg #[.int .i64 n0_0, .string s0_1, .int .i64 n0_2, .int .i64 n0_3], v1, v2] w R :=
  plC F74_p func74 h
def F80_1 (R : Rt) (ds : Ds) (w : World) : Prop :=
 runD prog ds w fun w1 =>
 R (.returned (.int .i64 (-1))) w1
def F80_2 (R : Rt) (J1 : (Int) -> World -> Prop) (l0 : SV) (p3 : Option Addr) (n7 n8 : Int) (ds : Ds) (w : World) : Prop :=
 Br (decide (n8 < n7)) (
 dwE w fun w2 =>
 ptrE p3 fun a3 =>
 ∃ n11_0, w2.cell? (a3.add 0) = some (.int .i64 n11_0) /\
 ∃ s11_1, w2.cell? (a3.add 1) = some (.string s11_1) /\
 ∃ n11_2, w2.cell? (a3.add 2) = some (.int .i64 n11_2) /\
 ∃ n11_3, w2.cell? (a3.add 3) = some (.int .i64 n11_3) /\
 ∃ a4, l0.a = some a4 /\ 0 <= n8 /\ n8 < (l0.len : Int) /\
 ∃ n15_0, w2.cell? ((a4.add (n8.toNat * 4)).add 0) = some (.int .i64 n15_0) /\
 ∃ s15_1, w2.cell? ((a4.add (n8.toNat * 4)).add 1) = some (.string s15_1) /\
 ∃ n15_2, w2.cell? ((a4.add (n8.toNat * 4)).add 2) = some (.int .i64 n15_2) /\
 ∃ n15_3, w2.cell? ((a4.add (n8.toNat * 4)).add 3) = some (.int .i64 n15_3) /\
 ∃ b16 : Bool, (∀ w, (eqS .eql 95 (.tmp 11) (.tmp 15) (.agg #[.int .i64 n11_0, .string s11_1, .int .i64 n11_2, .int .i64 n11_3]) (.agg #[.int .i64 n15_0, .string s15_1, .int .i64 n15_2, .int .i64 n15_3])).run prog w = .ok (.bool b16) w) /\
 Br b16 (
 runD prog ds w2 fun w5 =>
 R (.returned (.int .i64 n8)) w5) (
 J1 (IntKind.i64.wrap (n8 + 1)) w2)) (
 F80_1 R ds w)
def F80_3 (R : Rt) (l0 : SV) (p3 : Option Addr) (n7 n8 : Int) (ds : Ds) (w : World) : Prop :=
 loopT (fun (J1 : (Int) -> World -> Prop) (s : Int) (w : World) => F80_2 R J1 l0 p3 n7 s ds w) n8 w
def F80_5 (R : Rt) (l0 : SV) (n1_0 : Int) (s1_1 : ByteArray) (n1_2 n1_3 : Int) (ds : Ds) (w : World) : Prop :=
 alE (.cells #[.int .i64 n1_0, .string s1_1, .int .i64 n1_2, .int .i64 n1_3] 95) w fun r3 w6 =>
 F80_3 R l0 (some (⟨r3, 0, none⟩ : Addr)) (l0.len : Int) 0 ds w6
theorem F80_p : Pl prog f80 [lS 0, aS 1 [.int .i64, .str, .int .i64, .int .i64]] F80_5 := fun R =>
  pc 2 (rest [lS 0, pS 3, iS 7, iS 8] (F80_3 R) (bk 0 (rest [] (F80_1 R) lf) (lp [iS 8] [lS 0, pS 3, iS 7, iS 8] (F80_2 R) rnil fun J1 => lf)))
theorem F80_calls (l0 : SV) (n1_0 : Int) (s1_1 : ByteArray) (n1_2 n1_3 : Int) (w : World) (R : Rt) (h : F80_5 R l0 n1_0 s1_1 n1_2 n1_3 [] w) : Calls prog 80 #[.slice l0.a l0.len l0.cap, .agg #[.int .i64 n1_0, .string s1_1, .int .i64 n1_2, .int .i64 n1_3]] w R :=
  plC F80_p func80 h
def F81_1 (R : Rt) (l0 : SV) (n1 n2 : Int) (ds : Ds) (w : World) : Prop :=
 ∃ l13 : SV, ∃ w1, (Instr.sliceAt 65 (.slice l0.a l0.len l0.cap) (some (.int .i64 n1)) (some (.int .i64 n2)) (some (.int .i64 (l0.len : Int)))).run prog w = .ok (.slice l13.a l13.len l13.cap) w1 /\
 Br (n1 == n2) (
 runD prog ds w1 fun w2 =>
 R (.returned (.slice l0.a l0.len l0.cap)) w2) (
 dwE w1 fun w3 =>
 0 <= n1 /\ n1.toNat <= l0.cap /\ 0 <= n1.toNat /\
 l0.len <= l0.cap /\ 0 <= n2 /\ n2.toNat <= l0.len /\
 ∃ l26 : SV, ∃ w4, (Builtin.append_ #[65, 65] 65 #[.slice (if l0.cap = 0 then l0.a else l0.a.map (fun x => x.add (0 * 4))) (n1.toNat - 0) (l0.cap - 0), .slice (if l0.cap = n2.toNat then l0.a else l0.a.map (fun x => x.add (n2.toNat * 4))) (l0.len - n2.toNat) (l0.cap - n2.toNat)]).run prog w3 = .ok (.slice l26.a l26.len l26.cap) w4 /\
 0 <= (l0.len : Int) /\ (l0.len : Int).toNat <= l26.cap /\ 0 <= (l26.len : Int) /\ (l26.len : Int).toNat <= (l0.len : Int).toNat /\
 ∃ w5, (Builtin.clear_ #[65] 0 #[.slice (if l26.cap = (l26.len : Int).toNat then l26.a else l26.a.map (fun x => x.add ((l26.len : Int).toNat * 4))) ((l0.len : Int).toNat - (l26.len : Int).toNat) (l26.cap - (l26.len : Int).toNat)]).run prog w4 = .ok (.tuple #[]) w5 /\
 runD prog ds w5 fun w6 =>
 R (.returned (.slice l26.a l26.len l26.cap)) w6)
theorem F81_p : Pl prog f81 [lS 0, iS 1, iS 2] F81_1 := fun R =>
  lf
theorem F81_calls (l0 : SV) (n1 n2 : Int) (w : World) (R : Rt) (h : F81_1 R l0 n1 n2 [] w) : Calls prog 81 #[.slice l0.a l0.len l0.cap, .int .i64 n1, .int .i64 n2] w R :=
  plC F81_p func81 h
def F46_1 (R : Rt) (p0 : Option Addr) (ds : Ds) (w : World) : Prop :=
 ptrE p0 fun a1 =>
 Calls prog 96 #[.pointer (some a1)] w fun e w2 =>
 e = .returned (.tuple #[]) /\
 runD prog ds w2 fun w3 =>
 R (.returned (.tuple #[])) w3
theorem F46_p : Pl prog f46 [pS 0] F46_1 := fun R =>
  lf
theorem F46_calls (p0 : Option Addr) (w : World) (R : Rt) (h : F46_1 R p0 [] w) : Calls prog 46 #[.pointer p0] w R :=
  plC F46_p func46 h
def F94_1 (R : Rt) (ds : Ds) (w : World) : Prop :=
 runD prog ds w fun w1 =>
 R (.returned (.bool true)) w1
def F94_2 (R : Rt) (J1 : (Int) -> World -> Prop) (l13 : SV) (n14 n15 : Int) (ds : Ds) (w : World) : Prop :=
 J1 (IntKind.i64.wrap (n15 + 1)) w
def F94_3 (R : Rt) (J1 : (Int) -> World -> Prop) (l13 : SV) (n14 n15 : Int) (ds : Ds) (w : World) : Prop :=
 ∃ a2, l13.a = some a2 /\ 0 <= n15 /\ n15 < (l13.len : Int) /\
 ∃ n18, w.cell? (a2.add (n15.toNat * 1)) = some (.int .u8 n18) /\
 Br (n18 != 46) (
 Br (decide (n18 < 48)) (
 Br (decide (n18 < 65)) (
 Br (decide (n18 < 97)) (
 runD prog ds w fun w3 =>
 R (.returned (.bool false)) w3) (
 Br (decide (n18 > 122)) (
 runD prog ds w fun w4 =>
 R (.returned (.bool false)) w4) (
 F94_2 R J1 l13 n14 n15 ds w))) (
 Br (decide (n18 > 90)) (
 Br (decide (n18 < 97)) (
 runD prog ds w fun w5 =>
 R (.returned (.bool false)) w5) (
 Br (decide (n18 > 122)) (
 runD prog ds w fun w6 =>
 R (.returned (.bool false)) w6) (
 F94_2 R J1 l13 n14 n15 ds w))) (
 F94_2 R J1 l13 n14 n15 ds w))) (
 Br (decide (n18 > 57)) (
 Br (decide (n18 < 65)) (
 Br (decide (n18 < 97)) (
 runD prog ds w fun w7 =>
 R (.returned (.bool false)) w7) (
 Br (decide (n18 > 122)) (
 runD prog ds w fun w8 =>
 R (.returned (.bool false)) w8) (
 F94_2 R J1 l13 n14 n15 ds w))) (
 Br (decide (n18 > 90)) (
 Br (decide (n18 < 97)) (
 runD prog ds w fun w9 =>
 R (.returned (.bool false)) w9) (
 Br (decide (n18 > 122)) (
 runD prog ds w fun w10 =>
 R (.returned (.bool false)) w10) (
 F94_2 R J1 l13 n14 n15 ds w))) (
 F94_2 R J1 l13 n14 n15 ds w))) (
 F94_2 R J1 l13 n14 n15 ds w))) (
 F94_2 R J1 l13 n14 n15 ds w)
def F94_4 (R : Rt) (J1 : (Int) -> World -> Prop) (l13 : SV) (n14 n15 : Int) (ds : Ds) (w : World) : Prop :=
 Br (decide (n15 < n14)) (
 F94_3 R J1 l13 n14 n15 ds w) (
 F94_1 R ds w)
def F94_5 (R : Rt) (l13 : SV) (n14 n15 : Int) (ds : Ds) (w : World) : Prop :=
 loopT (fun (J1 : (Int) -> World -> Prop) (s : Int) (w : World) => F94_4 R J1 l13 n14 s ds w) n15 w
def F94_7 (R : Rt) (s0 : ByteArray) (ds : Ds) (w : World) : Prop :=
 Br (s0.toList == (⟨#[]⟩ : ByteArray).toList) (
 runD prog ds w fun w11 =>
 R (.returned (.bool false)) w11) (
 Br (decide ((s0.size : Int) > 10)) (
 runD prog ds w fun w12 =>
 R (.returned (.bool false)) w12) (
 ∃ l13 : SV, ∃ w13, (convert 9 36 (.string s0)).run prog w = .ok (.slice l13.a l13.len l13.cap) w13 /\
 F94_5 R l13 (l13.len : Int) 0 ds w13))
theorem F94_p : Pl prog f94 [sS 0] F94_7 := fun R =>
  pc 4 (rest [lS 13, iS 14, iS 15] (F94_5 R) (bk 0 (rest [] (F94_1 R) lf) (lp [iS 15] [lS 13, iS 14, iS 15] (F94_4 R) rnil fun J1 => pc 2 (rest [lS 13, iS 14, iS 15] (F94_3 R J1) (pc 1 (rest [lS 13, iS 14, iS 15] (F94_2 R J1) lf))))))
theorem F94_calls (s0 : ByteArray) (w : World) (R : Rt) (h : F94_7 R s0 [] w) : Calls prog 94 #[.string s0] w R :=
  plC F94_p func94 h
def F47_1 (R : Rt) (p0 : Option Addr) (ds : Ds) (w : World) : Prop :=
 ptrE p0 fun a1 =>
 Calls prog 97 #[.pointer (some a1)] w fun e w2 =>
 e = .returned (.tuple #[]) /\
 runD prog ds w2 fun w3 =>
 R (.returned (.tuple #[])) w3
theorem F47_p : Pl prog f47 [pS 0] F47_1 := fun R =>
  lf
theorem F47_callsD (p0 : Option Addr) (w : World) (R : Rt) (u : FrameMode) (h : F47_1 R p0 [] w) : CallsD prog 47 #[.pointer p0] u w fun e u' w' => u' = u /\ R e w' :=
  plD F47_p func47 u h
def F95_1 (R : Rt) (p10 p11 : Option Addr) (ds : Ds) (w : World) : Prop :=
 ptrE p11 fun a1 =>
 ∃ c82 : Array Value, c82.size = 96 /\ (∀ i, i < 96 -> w.cell? (a1.add i) = c82[i]?) /\
 ptrE p10 fun a2 =>
 stA prog 89 a2 c82 w fun w3 =>
 runD prog ds w3 fun w4 =>
 ptrE p10 fun a5 =>
 ∃ cR0 : Array Value, cR0.size = 96 /\ (∀ i, i < 96 -> w4.cell? (a5.add i) = cR0[i]?) /\
 R (.returned (.agg cR0)) w4
def F95_2 (R : Rt) (J1 : (Int) -> World -> Prop) (n3 n4 : Int) (p7 p10 p11 : Option Addr) (l13 : SV) (n40 : Int) (ds : Ds) (w : World) : Prop :=
 J1 (IntKind.i64.wrap (n40 + 1)) w
def F95_3 (R : Rt) (J1 : (Int) -> World -> Prop) (n3 n4 : Int) (p7 p10 p11 : Option Addr) (l13 : SV) (n40 : Int) (ds : Ds) (w : World) : Prop :=
 Br (decide (n40 < 32)) (
 ptrE p7 fun a6 =>
 ∃ n44, w.cell? (a6.add 1) = some (.int .i64 n44) /\
 Br (decide ((IntKind.i64.wrap ((IntKind.i64.wrap (n44 * 32)) + n40)) ≥ n3)) (
 Br (decide ((IntKind.i64.wrap ((IntKind.i64.wrap (n44 * 32)) + n40)) < (IntKind.i64.wrap (n3 + n4)))) (
 Br (decide ((IntKind.i64.wrap ((IntKind.i64.wrap (n44 * 32)) + n40)) < (l13.len : Int))) (
 ptrE p11 fun a7 =>
 0 <= n40 /\ n40 < (32 : Int) /\
 ∃ b68, w.cell? ((a7.add 32).add (n40.toNat * 1)) = some (.bool b68) /\
 Br (!b68) (
 dwE w fun w8 =>
 ∃ S1 : World -> Prop, S1 w8 /\
 ∃ a9, l13.a = some a9 /\ 0 <= (IntKind.i64.wrap ((IntKind.i64.wrap (n44 * 32)) + n40)) /\ (IntKind.i64.wrap ((IntKind.i64.wrap (n44 * 32)) + n40)) < (l13.len : Int) /\
 ∃ n76, (∀ w', S1 w' -> w'.cell? (a9.add ((IntKind.i64.wrap ((IntKind.i64.wrap (n44 * 32)) + n40)).toNat * 1)) = some (.int .u8 n76)) /\
 ptrE p11 fun a10 =>
 0 <= n40 /\ n40 < (32 : Int) /\
 ptrE p11 fun a11 =>
 st1 ((a10.add 32).add (n40.toNat * 1)) (.bool true) w8 fun w12 =>
 S1 w12 /\
 0 <= n40 /\ n40 < (32 : Int) /\
 st1 (a11.add (n40.toNat * 1)) (.int .u8 n76) w12 fun w13 =>
 F95_2 R J1 n3 n4 p7 p10 p11 l13 n40 ds w13) (
 F95_2 R J1 n3 n4 p7 p10 p11 l13 n40 ds w)) (
 F95_2 R J1 n3 n4 p7 p10 p11 l13 n40 ds w)) (
 F95_2 R J1 n3 n4 p7 p10 p11 l13 n40 ds w)) (
 F95_2 R J1 n3 n4 p7 p10 p11 l13 n40 ds w)) (
 F95_1 R p10 p11 ds w)
def F95_4 (R : Rt) (n3 n4 : Int) (p7 p10 p11 : Option Addr) (l13 : SV) (n40 : Int) (ds : Ds) (w : World) : Prop :=
 loopT (fun (J1 : (Int) -> World -> Prop) (s : Int) (w : World) => F95_3 R J1 n3 n4 p7 p10 p11 l13 s ds w) n40 w
def F95_6 (R : Rt) (p0 : Option Addr) (n1 : Int) (s2_0 : ByteArray) (n2_1 n3 n4 : Int) (ds : Ds) (w : World) : Prop :=
 alE (.cells #[.string s2_0, .int .i64 n2_1] 92) w fun r7 w14 =>
 alE (.cells (zc prog 89) 89) w14 fun r10 w15 =>
 dwE w15 fun w16 =>
 ∃ S2 : World -> Prop, S2 w16 /\
 ptrE p0 fun a17 =>
 0 <= n1 /\ n1 < (4 : Int) /\
 ∃ m22, (∀ w', S2 w' -> w'.cell? ((a17.add 3).add (n1.toNat * 1)) = some (.map m22)) /\
 ∃ s23_0, (∀ w', S2 w' -> w'.cell? ((⟨r7, 0, none⟩ : Addr).add 0) = some (.string s23_0)) /\
 ∃ n23_1, (∀ w', S2 w' -> w'.cell? ((⟨r7, 0, none⟩ : Addr).add 1) = some (.int .i64 n23_1)) /\
 ∃ c24_0 : Array Value, c24_0.size = 96 /\ ∃ b24_1 : Bool, (∀ w', S2 w' -> (Instr.lookup 63 (.map m22) (.agg #[.string s23_0, .int .i64 n23_1]) true).run prog w' = .ok (.tuple #[.agg c24_0, .bool b24_1]) w') /\
 alE (.cells (zc prog 89) 89) w16 fun r11 w18 =>
 S2 w18 /\
 stA prog 89 (⟨r11, 0, none⟩ : Addr) c24_0 w18 fun w19 =>
 Br (!b24_1) (
 ∃ s31_0, w19.cell? ((⟨r7, 0, none⟩ : Addr).add 0) = some (.string s31_0) /\
 ∃ n31_1, w19.cell? ((⟨r7, 0, none⟩ : Addr).add 1) = some (.int .i64 n31_1) /\
 Calls prog 113 #[.pointer p0, .int .i64 n1, .agg #[.string s31_0, .int .i64 n31_1]] w19 fun e w20 =>
 ∃ c32 : Array Value, c32.size = 96 /\ e = .returned (.agg c32) /\
 stA prog 89 (⟨r10, 0, none⟩ : Addr) c32 w20 fun w21 =>
 runD prog ds w21 fun w22 =>
 ∃ cR0 : Array Value, cR0.size = 96 /\ (∀ i, i < 96 -> w22.cell? ((⟨r10, 0, none⟩ : Addr).add i) = cR0[i]?) /\
 R (.returned (.agg cR0)) w22) (
 dwE w19 fun w23 =>
 ptrE p0 fun a24 =>
 ∃ m36, w23.cell? (a24.add 2) = some (.map m36) /\
 ∃ s38, w23.cell? (⟨r7, 0, none⟩ : Addr) = some (.string s38) /\
 ∃ l39 : SV, (Instr.lookup 55 (.map m36) (.string s38) false).run prog w23 = .ok (.slice l39.a l39.len l39.cap) w23 /\
 F95_4 R n3 n4 (some (⟨r7, 0, none⟩ : Addr)) (some (⟨r10, 0, none⟩ : Addr)) (some (⟨r11, 0, none⟩ : Addr)) l39 0 ds w23)
theorem F95_p : Pl prog f95 [pS 0, iS 1, aS 2 [.str, .int .i64], iS 3, iS 4] F95_6 := fun R =>
  pc 6 (rest [iS 3, iS 4, pS 7, pS 10, pS 11, lS 13, iS 40] (F95_4 R) (bk 0 (rest [pS 10, pS 11] (F95_1 R) lf) (lp [iS 40] [iS 3, iS 4, pS 7, pS 10, pS 11, lS 13, iS 40] (F95_3 R) rnil fun J1 => pc 3 (rest [iS 3, iS 4, pS 7, pS 10, pS 11, lS 13, iS 40] (F95_2 R J1) lf))))
theorem F95_calls (p0 : Option Addr) (n1 : Int) (s2_0 : ByteArray) (n2_1 n3 n4 : Int) (w : World) (R : Rt) (h : F95_6 R p0 n1 s2_0 n2_1 n3 n4 [] w) : Calls prog 95 #[.pointer p0, .int .i64 n1, .agg #[.string s2_0, .int .i64 n2_1], .int .i64 n3, .int .i64 n4] w R :=
  plC F95_p func95 h
def F98_1 (R : Rt) (ds : Ds) (w : World) : Prop :=
 runD prog ds w fun w1 =>
 R (.returned (.int .i64 (-1))) w1
def F98_2 (R : Rt) (J1 : (Int) -> World -> Prop) (l0 : SV) (v1 : Value) (n7 n8 : Int) (ds : Ds) (w : World) : Prop :=
 Br (decide (n8 < n7)) (
 ∃ a2, l0.a = some a2 /\ 0 <= n8 /\ n8 < (l0.len : Int) /\
 ∃ n15_0, w.cell? ((a2.add (n8.toNat * 4)).add 0) = some (.int .i64 n15_0) /\
 ∃ s15_1, w.cell? ((a2.add (n8.toNat * 4)).add 1) = some (.string s15_1) /\
 ∃ n15_2, w.cell? ((a2.add (n8.toNat * 4)).add 2) = some (.int .i64 n15_2) /\
 ∃ n15_3, w.cell? ((a2.add (n8.toNat * 4)).add 3) = some (.int .i64 n15_3) /\
 fnE v1 fun f16 first16 cap16 =>
 hasBody prog f16 = true /\ Calls prog f16 (first16.toList ++ (([.agg #[.int .i64 n15_0, .string s15_1, .int .i64 n15_2, .int .i64 n15_3]] : List Value) ++ cap16.toList)).toArray w fun e w3 =>
 ∃ b16 : Bool, e = .returned (.bool b16) /\
 Br b16 (
 runD prog ds w3 fun w4 =>
 R (.returned (.int .i64 n8)) w4) (
 J1 (IntKind.i64.wrap (n8 + 1)) w3)) (
 F98_1 R ds w)
def F98_3 (R : Rt) (l0 : SV) (v1 : Value) (n7 n8 : Int) (ds : Ds) (w : World) : Prop :=
 loopT (fun (J1 : (Int) -> World -> Prop) (s : Int) (w : World) => F98_2 R J1 l0 v1 n7 s ds w) n8 w
def F98_5 (R : Rt) (l0 : SV) (v1 : Value) (ds : Ds) (w : World) : Prop :=
 F98_3 R l0 (v1) (l0.len : Int) 0 ds w
theorem F98_p : Pl prog f98 [lS 0, vS 1] F98_5 := fun R =>
  pc 2 (rest [lS 0, vS 1, iS 7, iS 8] (F98_3 R) (bk 0 (rest [] (F98_1 R) lf) (lp [iS 8] [lS 0, vS 1, iS 7, iS 8] (F98_2 R) rnil fun J1 => lf)))
theorem F98_calls (l0 : SV) (v1 : Value) (w : World) (R : Rt) (h : F98_5 R l0 v1 [] w) : Calls prog 98 #[.slice l0.a l0.len l0.cap, v1] w R :=
  plC F98_p func98 h
def F96_1 (R : Rt) (p0 : Option Addr) (ds : Ds) (w : World) : Prop :=
 ∃ w1, (callFunc 114 #[]).run prog w = .ok (.value (.tuple #[])) w1 /\
 ptrE p0 fun a2 =>
 ∃ b6 : Bool, ∃ w3, (callFunc 115 #[.pointer (some a2), .int .i32 0, .int .i32 1]).run prog w1 = .ok (.value (.bool b6)) w3 /\
 Br b6 (
 ∃ w4, (callFunc 116 #[]).run prog w3 = .ok (.value (.tuple #[])) w4 /\
 ∃ v9 : Value, ∃ w5, (convert 156 160 (.pointer p0)).run prog w4 = .ok (v9) w5 /\
 ∃ w6, (callFunc 117 #[v9]).run prog w5 = .ok (.value (.tuple #[])) w6 /\
 runD prog ds w6 fun w7 =>
 R (.returned (.tuple #[])) w7) (
 Calls prog 118 #[.pointer p0] w3 fun e w8 =>
 e = .returned (.tuple #[]) /\
 runD prog ds w8 fun w9 =>
 R (.returned (.tuple #[])) w9)
theorem F96_p : Pl prog f96 [pS 0] F96_1 := fun R =>
  lf
theorem F96_calls (p0 : Option Addr) (w : World) (R : Rt) (h : F96_1 R p0 [] w) : Calls prog 96 #[.pointer p0] w R :=
  plC F96_p func96 h
def F97_1 (R : Rt) (p0 : Option Addr) (ds : Ds) (w : World) : Prop :=
 ptrE p0 fun a1 =>
 ∃ n6, w.cell? a1 = some (.int .i32 n6) /\
 ∃ v8 : Value, ∃ w2, (convert 156 160 (.pointer p0)).run prog w = .ok (v8) w2 /\
 ∃ w3, (callFunc 119 #[v8]).run prog w2 = .ok (.value (.tuple #[])) w3 /\
 ∃ w4, (callFunc 114 #[]).run prog w3 = .ok (.value (.tuple #[])) w4 /\
 ptrE p0 fun a5 =>
 ∃ n14 : Int, ∃ w6, (callFunc 120 #[.pointer (some a5), .int .i32 (-1)]).run prog w4 = .ok (.value (.int .i32 n14)) w6 /\
 Br (n14 != 0) (
 Calls prog 121 #[.pointer p0, .int .i32 n14] w6 fun e w7 =>
 e = .returned (.tuple #[]) /\
 ∃ w8, (callFunc 116 #[]).run prog w7 = .ok (.value (.tuple #[])) w8 /\
 runD prog ds w8 fun w9 =>
 R (.returned (.tuple #[])) w9) (
 ∃ w10, (callFunc 116 #[]).run prog w6 = .ok (.value (.tuple #[])) w10 /\
 runD prog ds w10 fun w11 =>
 R (.returned (.tuple #[])) w11)
theorem F97_p : Pl prog f97 [pS 0] F97_1 := fun R =>
  lf
theorem F97_calls (p0 : Option Addr) (w : World) (R : Rt) (h : F97_1 R p0 [] w) : Calls prog 97 #[.pointer p0] w R :=
  plC F97_p func97 h
def F113_1 (R : Rt) (p6 p7 : Option Addr) (ds : Ds) (w : World) : Prop :=
 ptrE p7 fun a1 =>
 ∃ c58 : Array Value, c58.size = 96 /\ (∀ i, i < 96 -> w.cell? (a1.add i) = c58[i]?) /\
 ptrE p6 fun a2 =>
 stA prog 89 a2 c58 w fun w3 =>
 runD prog ds w3 fun w4 =>
 ptrE p6 fun a5 =>
 ∃ cR0 : Array Value, cR0.size = 96 /\ (∀ i, i < 96 -> w4.cell? (a5.add i) = cR0[i]?) /\
 R (.returned (.agg cR0)) w4
def F113_2 (R : Rt) (J1 : (Int) -> World -> Prop) (p5 p6 p7 : Option Addr) (l8 : SV) (n9 : Int) (ds : Ds) (w : World) : Prop :=
 Br (decide (n9 < 32)) (
 ptrE p5 fun a6 =>
 ∃ n29, w.cell? (a6.add 1) = some (.int .i64 n29) /\
 Br (decide ((IntKind.i64.wrap ((IntKind.i64.wrap (n29 * 32)) + n9)) < (l8.len : Int))) (
 ptrE p7 fun a7 =>
 0 <= n9 /\ n9 < (32 : Int) /\
 ∃ b42, w.cell? ((a7.add 32).add (n9.toNat * 1)) = some (.bool b42) /\
 Br (!b42) (
 dwE w fun w8 =>
 ∃ S1 : World -> Prop, S1 w8 /\
 ptrE p5 fun a9 =>
 ∃ n48, (∀ w', S1 w' -> w'.cell? (a9.add 1) = some (.int .i64 n48)) /\
 ∃ a10, l8.a = some a10 /\ 0 <= (IntKind.i64.wrap ((IntKind.i64.wrap (n48 * 32)) + n9)) /\ (IntKind.i64.wrap ((IntKind.i64.wrap (n48 * 32)) + n9)) < (l8.len : Int) /\
 ∃ n53, (∀ w', S1 w' -> w'.cell? (a10.add ((IntKind.i64.wrap ((IntKind.i64.wrap (n48 * 32)) + n9)).toNat * 1)) = some (.int .u8 n53)) /\
 ptrE p7 fun a11 =>
 0 <= n9 /\ n9 < (32 : Int) /\
 ptrE p7 fun a12 =>
 st1 ((a11.add 32).add (n9.toNat * 1)) (.bool true) w8 fun w13 =>
 S1 w13 /\
 0 <= n9 /\ n9 < (32 : Int) /\
 st1 (a12.add (n9.toNat * 1)) (.int .u8 n53) w13 fun w14 =>
 J1 (IntKind.i64.wrap (n9 + 1)) w14) (
 J1 (IntKind.i64.wrap (n9 + 1)) w)) (
 F113_1 R p6 p7 ds w)) (
 F113_1 R p6 p7 ds w)
def F113_3 (R : Rt) (p5 p6 p7 : Option Addr) (l8 : SV) (n9 : Int) (ds : Ds) (w : World) : Prop :=
 loopT (fun (J1 : (Int) -> World -> Prop) (s : Int) (w : World) => F113_2 R J1 p5 p6 p7 l8 s ds w) n9 w
def F113_5 (R : Rt) (p0 : Option Addr) (n1 : Int) (s2_0 : ByteArray) (n2_1 : Int) (ds : Ds) (w : World) : Prop :=
 alE (.cells #[.string s2_0, .int .i64 n2_1] 92) w fun r5 w15 =>
 alE (.cells (zc prog 89) 89) w15 fun r6 w16 =>
 dwE w16 fun w17 =>
 ∃ S2 : World -> Prop, S2 w17 /\
 ptrE p0 fun a18 =>
 0 <= n1 /\ n1 < (4 : Int) /\
 ∃ m15, (∀ w', S2 w' -> w'.cell? ((a18.add 3).add (n1.toNat * 1)) = some (.map m15)) /\
 ∃ s16_0, (∀ w', S2 w' -> w'.cell? ((⟨r5, 0, none⟩ : Addr).add 0) = some (.string s16_0)) /\
 ∃ n16_1, (∀ w', S2 w' -> w'.cell? ((⟨r5, 0, none⟩ : Addr).add 1) = some (.int .i64 n16_1)) /\
 ∃ c17 : Array Value, c17.size = 96 /\ (∀ w', S2 w' -> (Instr.lookup 63 (.map m15) (.agg #[.string s16_0, .int .i64 n16_1]) false).run prog w' = .ok (.agg c17) w') /\
 alE (.cells (zc prog 89) 89) w17 fun r7 w19 =>
 S2 w19 /\
 stA prog 89 (⟨r7, 0, none⟩ : Addr) c17 w19 fun w20 =>
 dwE w20 fun w21 =>
 ptrE p0 fun a22 =>
 ∃ m21, w21.cell? (a22.add 2) = some (.map m21) /\
 ∃ s23, w21.cell? (⟨r5, 0, none⟩ : Addr) = some (.string s23) /\
 ∃ l24 : SV, (Instr.lookup 55 (.map m21) (.string s23) false).run prog w21 = .ok (.slice l24.a l24.len l24.cap) w21 /\
 F113_3 R (some (⟨r5, 0, none⟩ : Addr)) (some (⟨r6, 0, none⟩ : Addr)) (some (⟨r7, 0, none⟩ : Addr)) l24 0 ds w21
theorem F113_p : Pl prog f113 [pS 0, iS 1, aS 2 [.str, .int .i64]] F113_5 := fun R =>
  pc 4 (rest [pS 5, pS 6, pS 7, lS 8, iS 9] (F113_3 R) (bk 0 (rest [pS 6, pS 7] (F113_1 R) lf) (lp [iS 9] [pS 5, pS 6, pS 7, lS 8, iS 9] (F113_2 R) rnil fun J1 => lf)))
theorem F113_calls (p0 : Option Addr) (n1 : Int) (s2_0 : ByteArray) (n2_1 : Int) (w : World) (R : Rt) (h : F113_5 R p0 n1 s2_0 n2_1 [] w) : Calls prog 113 #[.pointer p0, .int .i64 n1, .agg #[.string s2_0, .int .i64 n2_1]] w R :=
  plC F113_p func113 h
end Go.Proofs.YtnigfiljenfgjaaGreat

/- Shallow texts of functions, printed by program, each checked by the kernel against the loaded code. No condition. -/
set_option maxRecDepth 100000
set_option linter.unusedVariables false
namespace Go.Proofs.YtnigfiljenfgjaaGreat
open Go.Sh Tryz
def F10_1 (R : Rt) (p1 : Option Addr) (ds : Ds) (w : World) : Prop :=
 runD prog ds w fun w1 =>
 R (.returned (.pointer p1)) w1
def F10_2 (R : Rt) (J1 : (Int) -> World -> Prop) (p1 : Option Addr) (n2 : Int) (ds : Ds) (w : World) : Prop :=
 Br (decide (n2 < 4)) (
 alE (.map #[] 0) w fun r11 w2 =>
 ptrE p1 fun a3 =>
 0 <= n2 /\ n2 < (4 : Int) /\
 st1 ((a3.add 1).add (n2.toNat * 1)) (.map (some r11)) w2 fun w4 =>
 J1 (IntKind.i64.wrap (n2 + 1)) w4) (
 F10_1 R p1 ds w)
def F10_3 (R : Rt) (p1 : Option Addr) (n2 : Int) (ds : Ds) (w : World) : Prop :=
 loopT (fun (J1 : (Int) -> World -> Prop) (s : Int) (w : World) => F10_2 R J1 p1 s ds w) n2 w
def F10_5 (R : Rt) (ds : Ds) (w : World) : Prop :=
 alE (.cells #[.slice none 0 0, .map none, .map none, .map none, .map none, .slice none 0 0] 73) w fun r4 w5 =>
 F10_3 R (some (⟨r4, 0, none⟩ : Addr)) 0 ds w5
theorem F10_p : Pl prog f10 [] F10_5 := fun R =>
  pc 3 (rest [pS 1, iS 2] (F10_3 R) (bk 0 (rest [pS 1] (F10_1 R) lf) (lp [iS 2] [pS 1, iS 2] (F10_2 R) rnil fun J1 => lf)))
theorem F10_calls  (w : World) (R : Rt) (h : F10_5 R [] w) : Calls prog 10 #[] w R :=
  plC F10_p func10 h
def F12_1 (R : Rt) (p0 : Option Addr) (s1 : ByteArray) (ds : Ds) (w : World) : Prop :=
 Calls prog 41 #[.pointer p0, .string s1] w fun e w1 =>
 ∃ n9 : Int, e = .returned (.int .i64 n9) /\
 Br (n9 != 0) (
 runD prog ds w1 fun w2 =>
 R (.returned (.tuple #[.int .i64 0, .int .i64 n9])) w2) (
 dwE w1 fun w3 =>
 ∃ S1 : World -> Prop, S1 w3 /\
 ptrE p0 fun a4 =>
 ∃ l16 : SV, (∀ w', S1 w' -> w'.cell? a4 = some (.slice l16.a l16.len l16.cap)) /\
 Calls prog 42 #[.pointer p0, .string s1] w3 fun e w5 =>
 ∃ n19 : Int, e = .returned (.int .i64 n19) /\
 S1 w5 /\
 ∃ a6, l16.a = some a6 /\ 0 <= n19 /\ n19 < (l16.len : Int) /\
 ∃ l22 : SV, (∀ w', S1 w' -> w'.cell? ((a6.add (n19.toNat * 2)).add 1) = some (.slice l22.a l22.len l22.cap)) /\
 runD prog ds w5 fun w7 =>
 R (.returned (.tuple #[.int .i64 (l22.len : Int), .int .i64 0])) w7)
theorem F12_p : Pl prog f12 [pS 0, sS 1] F12_1 := fun R =>
  lf
theorem F12_calls (p0 : Option Addr) (s1 : ByteArray) (w : World) (R : Rt) (h : F12_1 R p0 s1 [] w) : Calls prog 12 #[.pointer p0, .string s1] w R :=
  plC F12_p func12 h
def F28_1 (R : Rt) (l13 : SV) (ds : Ds) (w : World) : Prop :=
 runD prog ds w fun w1 =>
 R (.returned (.tuple #[.slice l13.a l13.len l13.cap, .int .i64 0])) w1
def F28_2 (R : Rt) (J1 : (SV × Int) -> World -> Prop) (p0 : Option Addr) (n1 : Int) (s2 : ByteArray) (n3 n4 : Int) (l13 : SV) (n14 : Int) (ds : Ds) (w : World) : Prop :=
 Br (decide (n14 < (IntKind.i64.wrap (n3 + n4)))) (
 ptrE p0 fun a2 =>
 0 <= n1 /\ n1 < (4 : Int) /\
 ∃ m48, w.cell? ((a2.add 1).add (n1.toNat * 1)) = some (.map m48) /\
 ∃ l50 : SV, ∃ w3, (Instr.lookup 69 (.map m48) (.string s2) false).run prog w = .ok (.slice l50.a l50.len l50.cap) w3 /\
 ∃ a4, l50.a = some a4 /\ 0 <= n14 /\ n14 < (l50.len : Int) /\
 ∃ n54, w3.cell? ((a4.add (n14.toNat * 3)).add 2) = some (.int .u8 n54) /\
 alE (.cells #[.int .u8 n54] 5) w3 fun r55 w5 =>
 ∃ l56 : SV, ∃ w6, (Builtin.append_ #[36, 36] 36 #[.slice l13.a l13.len l13.cap, .slice (some ⟨r55, 0, none⟩) 1 1]).run prog w5 = .ok (.slice l56.a l56.len l56.cap) w6 /\
 J1 (l56, (IntKind.i64.wrap (n14 + 1))) w6) (
 F28_1 R l13 ds w)
def F28_3 (R : Rt) (p0 : Option Addr) (n1 : Int) (s2 : ByteArray) (n3 n4 : Int) (l13 : SV) (n14 : Int) (ds : Ds) (w : World) : Prop :=
 loopT (fun (J1 : (SV × Int) -> World -> Prop) (s : SV × Int) (w : World) => F28_2 R J1 p0 n1 s2 n3 n4 s.1 s.2 ds w) (l13, n14) w
def F28_5 (R : Rt) (p0 : Option Addr) (n1 : Int) (s2 : ByteArray) (n3 n4 : Int) (ds : Ds) (w : World) : Prop :=
 Calls prog 75 #[.pointer p0, .int .i64 n1, .string s2] w fun e w7 =>
 ∃ n18 : Int, e = .returned (.int .i64 n18) /\
 Br (n18 != 0) (
 runD prog ds w7 fun w8 =>
 R (.returned (.tuple #[.slice none 0 0, .int .i64 n18])) w8) (
 Calls prog 76 #[.pointer p0, .string s2, .int .i64 n3, .int .i64 n4] w7 fun e w9 =>
 ∃ b26 : Bool, e = .returned (.bool b26) /\
 Br (!b26) (
 runD prog ds w9 fun w10 =>
 R (.returned (.tuple #[.slice none 0 0, .int .i64 1])) w10) (
 Calls prog 77 #[.pointer p0, .int .i64 n1, .string s2, .int .i64 n3, .int .i64 n4] w9 fun e w11 =>
 e = .returned (.tuple #[]) /\
 F28_3 R p0 n1 s2 n3 n4 ⟨none, 0, 0⟩ n3 ds w11))
theorem F28_p : Pl prog f28 [pS 0, iS 1, sS 2, iS 3, iS 4] F28_5 := fun R =>
  pc 9 (rest [pS 0, iS 1, sS 2, iS 3, iS 4, lS 13, iS 14] (F28_3 R) (bk 0 (rest [lS 13] (F28_1 R) lf) (lp [lS 13, iS 14] [pS 0, iS 1, sS 2, iS 3, iS 4, lS 13, iS 14] (F28_2 R) rnil fun J1 => lf)))
theorem F28_calls (p0 : Option Addr) (n1 : Int) (s2 : ByteArray) (n3 n4 : Int) (w : World) (R : Rt) (h : F28_5 R p0 n1 s2 n3 n4 [] w) : Calls prog 28 #[.pointer p0, .int .i64 n1, .string s2, .int .i64 n3, .int .i64 n4] w R :=
  plC F28_p func28 h
def F29_1 (R : Rt) (ds : Ds) (w : World) : Prop :=
 runD prog ds w fun w1 =>
 R (.returned (.int .i64 0)) w1
def F29_2 (R : Rt) (J1 : (Int) -> World -> Prop) (p0 : Option Addr) (n1 : Int) (s2 : ByteArray) (n3 : Int) (l4 : SV) (n12 : Int) (ds : Ds) (w : World) : Prop :=
 Br (decide (n12 < (l4.len : Int))) (
 dwE w fun w2 =>
 ptrE p0 fun a3 =>
 0 <= n1 /\ n1 < (4 : Int) /\
 ∃ m45, w2.cell? ((a3.add 1).add (n1.toNat * 1)) = some (.map m45) /\
 ∃ l47 : SV, (Instr.lookup 69 (.map m45) (.string s2) false).run prog w2 = .ok (.slice l47.a l47.len l47.cap) w2 /\
 ∃ a4, l4.a = some a4 /\ 0 <= n12 /\ n12 < (l4.len : Int) /\
 ∃ n54, w2.cell? (a4.add (n12.toNat * 1)) = some (.int .u8 n54) /\
 ∃ a5, l47.a = some a5 /\ 0 <= (IntKind.i64.wrap (n3 + n12)) /\ (IntKind.i64.wrap (n3 + n12)) < (l47.len : Int) /\
 stA prog 116 (a5.add ((IntKind.i64.wrap (n3 + n12)).toNat * 3)) #[.bool true, .bool true, .int .u8 n54] w2 fun w6 =>
 J1 (IntKind.i64.wrap (n12 + 1)) w6) (
 F29_1 R ds w)
def F29_3 (R : Rt) (p0 : Option Addr) (n1 : Int) (s2 : ByteArray) (n3 : Int) (l4 : SV) (n12 : Int) (ds : Ds) (w : World) : Prop :=
 loopT (fun (J1 : (Int) -> World -> Prop) (s : Int) (w : World) => F29_2 R J1 p0 n1 s2 n3 l4 s ds w) n12 w
def F29_5 (R : Rt) (p0 : Option Addr) (n1 : Int) (s2 : ByteArray) (n3 : Int) (l4 : SV) (ds : Ds) (w : World) : Prop :=
 Calls prog 75 #[.pointer p0, .int .i64 n1, .string s2] w fun e w7 =>
 ∃ n16 : Int, e = .returned (.int .i64 n16) /\
 Br (n16 != 0) (
 runD prog ds w7 fun w8 =>
 R (.returned (.int .i64 n16)) w8) (
 Calls prog 76 #[.pointer p0, .string s2, .int .i64 n3, .int .i64 (l4.len : Int)] w7 fun e w9 =>
 ∃ b25 : Bool, e = .returned (.bool b25) /\
 Br (!b25) (
 runD prog ds w9 fun w10 =>
 R (.returned (.int .i64 1)) w10) (
 Calls prog 77 #[.pointer p0, .int .i64 n1, .string s2, .int .i64 n3, .int .i64 (l4.len : Int)] w9 fun e w11 =>
 e = .returned (.tuple #[]) /\
 F29_3 R p0 n1 s2 n3 l4 0 ds w11))
theorem F29_p : Pl prog f29 [pS 0, iS 1, sS 2, iS 3, lS 4] F29_5 := fun R =>
  pc 8 (rest [pS 0, iS 1, sS 2, iS 3, lS 4, iS 12] (F29_3 R) (bk 0 (rest [] (F29_1 R) lf) (lp [iS 12] [pS 0, iS 1, sS 2, iS 3, lS 4, iS 12] (F29_2 R) rnil fun J1 => lf)))
theorem F29_calls (p0 : Option Addr) (n1 : Int) (s2 : ByteArray) (n3 : Int) (l4 : SV) (w : World) (R : Rt) (h : F29_5 R p0 n1 s2 n3 l4 [] w) : Calls prog 29 #[.pointer p0, .int .i64 n1, .string s2, .int .i64 n3, .slice l4.a l4.len l4.cap] w R :=
  plC F29_p func29 h
def F30_1 (R : Rt) (ds : Ds) (w : World) : Prop :=
 runD prog ds w fun w1 =>
 R (.returned (.int .i64 0)) w1
def F30_2 (R : Rt) (J1 : (Int) -> World -> Prop) (n3 n4 : Int) (l14 l15 : SV) (n16 : Int) (ds : Ds) (w : World) : Prop :=
 Br (decide (n16 < (l15.len : Int))) (
 Calls prog 79 #[.slice l15.a l15.len l15.cap, .int .i64 n16, .int .i64 n3, .int .i64 n4] w fun e w2 =>
 ∃ b113 : Bool, e = .returned (.bool b113) /\
 Br b113 (
 ∃ a3, l15.a = some a3 /\ 0 <= n16 /\ n16 < (l15.len : Int) /\
 ∃ b119, w2.cell? ((a3.add (n16.toNat * 3)).add 1) = some (.bool b119) /\
 Br (!b119) (
 ∃ a4, l14.a = some a4 /\ 0 <= n16 /\ n16 < (l14.len : Int) /\
 ∃ n127, w2.cell? (a4.add (n16.toNat * 1)) = some (.int .u8 n127) /\
 ∃ a5, l15.a = some a5 /\ 0 <= n16 /\ n16 < (l15.len : Int) /\
 st1 ((a5.add (n16.toNat * 3)).add 2) (.int .u8 n127) w2 fun w6 =>
 J1 (IntKind.i64.wrap (n16 + 1)) w6) (
 J1 (IntKind.i64.wrap (n16 + 1)) w2)) (
 J1 (IntKind.i64.wrap (n16 + 1)) w2)) (
 F30_1 R ds w)
def F30_3 (R : Rt) (n3 n4 : Int) (l14 l15 : SV) (n16 : Int) (ds : Ds) (w : World) : Prop :=
 loopT (fun (J1 : (Int) -> World -> Prop) (s : Int) (w : World) => F30_2 R J1 n3 n4 l14 l15 s ds w) n16 w
def F30_5 (R : Rt) (p0 : Option Addr) (n1 : Int) (s2 : ByteArray) (n3 n4 : Int) (b12 : Bool) (ds : Ds) (w : World) : Prop :=
 Br b12 (
 runD prog ds w fun w7 =>
 R (.returned (.int .i64 12)) w7) (
 ptrE p0 fun a8 =>
 ∃ l75 : SV, w.cell? (a8.add 5) = some (.slice l75.a l75.len l75.cap) /\
 alE (.cells #[.int .i64 n1, .string s2, .int .i64 n3, .int .i64 n4] 127) w fun r81 w9 =>
 ∃ l82 : SV, ∃ w10, (Builtin.append_ #[71, 71] 71 #[.slice l75.a l75.len l75.cap, .slice (some ⟨r81, 0, none⟩) 1 1]).run prog w9 = .ok (.slice l82.a l82.len l82.cap) w10 /\
 ptrE p0 fun a11 =>
 st1 (a11.add 5) (.slice l82.a l82.len l82.cap) w10 fun w12 =>
 dwE w12 fun w13 =>
 ∃ S1 : World -> Prop, S1 w13 /\
 ptrE p0 fun a14 =>
 ∃ l88 : SV, (∀ w', S1 w' -> w'.cell? a14 = some (.slice l88.a l88.len l88.cap)) /\
 Calls prog 42 #[.pointer p0, .string s2] w13 fun e w15 =>
 ∃ n91 : Int, e = .returned (.int .i64 n91) /\
 S1 w15 /\
 ∃ a16, l88.a = some a16 /\ 0 <= n91 /\ n91 < (l88.len : Int) /\
 ∃ l94 : SV, (∀ w', S1 w' -> w'.cell? ((a16.add (n91.toNat * 2)).add 1) = some (.slice l94.a l94.len l94.cap)) /\
 ptrE p0 fun a17 =>
 0 <= n1 /\ n1 < (4 : Int) /\
 ∃ m100, w15.cell? ((a17.add 1).add (n1.toNat * 1)) = some (.map m100) /\
 ∃ l102 : SV, ∃ w18, (Instr.lookup 69 (.map m100) (.string s2) false).run prog w15 = .ok (.slice l102.a l102.len l102.cap) w18 /\
 F30_3 R n3 n4 l94 l102 0 ds w18)
def F30_6 (R : Rt) (J1 : (Bool × Int) -> World -> Prop) (p0 : Option Addr) (n1 : Int) (s2 : ByteArray) (n3 n4 : Int) (b12 : Bool) (n13 : Int) (ds : Ds) (w : World) : Prop :=
 ptrE p0 fun a19 =>
 ∃ l44 : SV, w.cell? (a19.add 5) = some (.slice l44.a l44.len l44.cap) /\
 Br (decide (n13 < (l44.len : Int))) (
 ptrE p0 fun a20 =>
 ∃ l52 : SV, w.cell? (a20.add 5) = some (.slice l52.a l52.len l52.cap) /\
 ∃ a21, l52.a = some a21 /\ 0 <= n13 /\ n13 < (l52.len : Int) /\
 ∃ n55_0, w.cell? ((a21.add (n13.toNat * 4)).add 0) = some (.int .i64 n55_0) /\
 ∃ s55_1, w.cell? ((a21.add (n13.toNat * 4)).add 1) = some (.string s55_1) /\
 ∃ n55_2, w.cell? ((a21.add (n13.toNat * 4)).add 2) = some (.int .i64 n55_2) /\
 ∃ n55_3, w.cell? ((a21.add (n13.toNat * 4)).add 3) = some (.int .i64 n55_3) /\
 Calls prog 78 #[.agg #[.int .i64 n55_0, .string s55_1, .int .i64 n55_2, .int .i64 n55_3], .string s2, .int .i64 n3, .int .i64 n4] w fun e w22 =>
 ∃ b59 : Bool, e = .returned (.bool b59) /\
 Br b59 (
 ptrE p0 fun a23 =>
 ∃ l63 : SV, w22.cell? (a23.add 5) = some (.slice l63.a l63.len l63.cap) /\
 ∃ a24, l63.a = some a24 /\ 0 <= n13 /\ n13 < (l63.len : Int) /\
 ∃ n67, w22.cell? (a24.add (n13.toNat * 4)) = some (.int .i64 n67) /\
 Br (n67 == n1) (
 runD prog ds w22 fun w25 =>
 R (.returned (.int .i64 5)) w25) (
 J1 (true, (IntKind.i64.wrap (n13 + 1))) w22)) (
 J1 (b12, (IntKind.i64.wrap (n13 + 1))) w22)) (
 F30_5 R p0 n1 s2 n3 n4 b12 ds w)
def F30_7 (R : Rt) (p0 : Option Addr) (n1 : Int) (s2 : ByteArray) (n3 n4 : Int) (b12 : Bool) (n13 : Int) (ds : Ds) (w : World) : Prop :=
 loopT (fun (J1 : (Bool × Int) -> World -> Prop) (s : Bool × Int) (w : World) => F30_6 R J1 p0 n1 s2 n3 n4 s.1 s.2 ds w) (b12, n13) w
def F30_9 (R : Rt) (p0 : Option Addr) (n1 : Int) (s2 : ByteArray) (n3 n4 : Int) (ds : Ds) (w : World) : Prop :=
 Calls prog 75 #[.pointer p0, .int .i64 n1, .string s2] w fun e w26 =>
 ∃ n20 : Int, e = .returned (.int .i64 n20) /\
 Br (n20 != 0) (
 runD prog ds w26 fun w27 =>
 R (.returned (.int .i64 n20)) w27) (
 Br (decide (n3 < 0)) (
 runD prog ds w26 fun w28 =>
 R (.returned (.int .i64 1)) w28) (
 Br (decide (n4 < 1)) (
 runD prog ds w26 fun w29 =>
 R (.returned (.int .i64 1)) w29) (
 Br (decide (n3 > 131072)) (
 runD prog ds w26 fun w30 =>
 R (.returned (.int .i64 1)) w30) (
 Br (decide (n4 > (IntKind.i64.wrap ((131072 : Int) - n3)))) (
 runD prog ds w26 fun w31 =>
 R (.returned (.int .i64 1)) w31) (
 F30_7 R p0 n1 s2 n3 n4 false 0 ds w26)))))
theorem F30_p : Pl prog f30 [pS 0, iS 1, sS 2, iS 3, iS 4] F30_9 := fun R =>
  pc 8 (rest [pS 0, iS 1, sS 2, iS 3, iS 4, bS 12, iS 13] (F30_7 R) (bk 0 (rest [pS 0, iS 1, sS 2, iS 3, iS 4, bS 12] (F30_5 R) (pc 6 (rest [iS 3, iS 4, lS 14, lS 15, iS 16] (F30_3 R) (bk 2 (rest [] (F30_1 R) lf) (lp [iS 16] [iS 3, iS 4, lS 14, lS 15, iS 16] (F30_2 R) rnil fun J1 => lf))))) (lp [bS 12, iS 13] [pS 0, iS 1, sS 2, iS 3, iS 4, bS 12, iS 13] (F30_6 R) rnil fun J1 => lf)))
theorem F30_calls (p0 : Option Addr) (n1 : Int) (s2 : ByteArray) (n3 n4 : Int) (w : World) (R : Rt) (h : F30_9 R p0 n1 s2 n3 n4 [] w) : Calls prog 30 #[.pointer p0, .int .i64 n1, .string s2, .int .i64 n3, .int .i64 n4] w R :=
  plC F30_p func30 h
def F32_1 (R : Rt) (ds : Ds) (w : World) : Prop :=
 runD prog ds w fun w1 =>
 R (.returned (.int .i64 4)) w1
def F32_2 (R : Rt) (J1 : (Int) -> World -> Prop) (p0 : Option Addr) (n1 : Int) (s2 : ByteArray) (n3 n4 n12 : Int) (ds : Ds) (w : World) : Prop :=
 J1 (IntKind.i64.wrap (n12 + 1)) w
def F32_3 (R : Rt) (J1 : (Int) -> World -> Prop) (p0 : Option Addr) (n12 : Int) (ds : Ds) (w : World) : Prop :=
 dwE w fun w2 =>
 ∃ S1 : World -> Prop, S1 w2 /\
 ptrE p0 fun a3 =>
 ∃ l72 : SV, (∀ w', S1 w' -> w'.cell? (a3.add 5) = some (.slice l72.a l72.len l72.cap)) /\
 0 <= n12 /\ n12.toNat <= l72.cap /\ 0 <= n12.toNat /\
 ptrE p0 fun a4 =>
 ∃ l79 : SV, (∀ w', S1 w' -> w'.cell? (a4.add 5) = some (.slice l79.a l79.len l79.cap)) /\
 l79.len <= l79.cap /\ 0 <= (IntKind.i64.wrap (n12 + 1)) /\ (IntKind.i64.wrap (n12 + 1)).toNat <= l79.len /\
 ∃ l75 : SV, ∃ w5, (Builtin.append_ #[71, 71] 71 #[.slice none 0 0, .slice (if l72.cap = 0 then l72.a else l72.a.map (fun x => x.add (0 * 4))) (n12.toNat - 0) (l72.cap - 0)]).run prog w2 = .ok (.slice l75.a l75.len l75.cap) w5 /\
 S1 w5 /\
 ∃ l83 : SV, ∃ w6, (Builtin.append_ #[71, 71] 71 #[.slice l75.a l75.len l75.cap, .slice (if l79.cap = (IntKind.i64.wrap (n12 + 1)).toNat then l79.a else l79.a.map (fun x => x.add ((IntKind.i64.wrap (n12 + 1)).toNat * 4))) (l79.len - (IntKind.i64.wrap (n12 + 1)).toNat) (l79.cap - (IntKind.i64.wrap (n12 + 1)).toNat)]).run prog w5 = .ok (.slice l83.a l83.len l83.cap) w6 /\
 ptrE p0 fun a7 =>
 st1 (a7.add 5) (.slice l83.a l83.len l83.cap) w6 fun w8 =>
 runD prog ds w8 fun w9 =>
 R (.returned (.int .i64 0)) w9
def F32_4 (R : Rt) (J1 : (Int) -> World -> Prop) (J2 : (Int) -> World -> Prop) (p0 : Option Addr) (s2 : ByteArray) (n3 n4 n12 : Int) (l13 : SV) (n14 : Int) (ds : Ds) (w : World) : Prop :=
 Br (decide (n14 < (l13.len : Int))) (
 Calls prog 79 #[.slice l13.a l13.len l13.cap, .int .i64 n14, .int .i64 n3, .int .i64 n4] w fun e w10 =>
 ∃ b62 : Bool, e = .returned (.bool b62) /\
 Br b62 (
 Calls prog 82 #[.pointer p0, .string s2, .int .i64 n14, .slice l13.a l13.len l13.cap] w10 fun e w11 =>
 e = .returned (.tuple #[]) /\
 J2 (IntKind.i64.wrap (n14 + 1)) w11) (
 J2 (IntKind.i64.wrap (n14 + 1)) w10)) (
 F32_3 R J1 p0 n12 ds w)
def F32_5 (R : Rt) (J1 : (Int) -> World -> Prop) (p0 : Option Addr) (s2 : ByteArray) (n3 n4 n12 : Int) (l13 : SV) (n14 : Int) (ds : Ds) (w : World) : Prop :=
 loopT (fun (J2 : (Int) -> World -> Prop) (s : Int) (w : World) => F32_4 R J1 J2 p0 s2 n3 n4 n12 l13 s ds w) n14 w
def F32_7 (R : Rt) (J1 : (Int) -> World -> Prop) (p0 : Option Addr) (n1 : Int) (s2 : ByteArray) (n3 n4 n12 : Int) (ds : Ds) (w : World) : Prop :=
 ptrE p0 fun a12 =>
 0 <= n1 /\ n1 < (4 : Int) /\
 ∃ m49, w.cell? ((a12.add 1).add (n1.toNat * 1)) = some (.map m49) /\
 ∃ l51 : SV, ∃ w13, (Instr.lookup 69 (.map m49) (.string s2) false).run prog w = .ok (.slice l51.a l51.len l51.cap) w13 /\
 F32_5 R J1 p0 s2 n3 n4 n12 l51 0 ds w13
def F32_8 (R : Rt) (J1 : (Int) -> World -> Prop) (p0 : Option Addr) (n1 : Int) (s2 : ByteArray) (n3 n4 n12 : Int) (ds : Ds) (w : World) : Prop :=
 F32_2 R J1 p0 n1 s2 n3 n4 n12 ds w
def F32_9 (R : Rt) (J1 : (Int) -> World -> Prop) (p0 : Option Addr) (n1 : Int) (s2 : ByteArray) (n3 n4 n12 : Int) (b43 : Bool) (ds : Ds) (w : World) : Prop :=
 Br b43 (
 F32_7 R J1 p0 n1 s2 n3 n4 n12 ds w) (
 F32_8 R J1 p0 n1 s2 n3 n4 n12 ds w)
def F32_10 (R : Rt) (J1 : (Int) -> World -> Prop) (p0 : Option Addr) (n1 : Int) (s2 : ByteArray) (n3 n4 n12 : Int) (ds : Ds) (w : World) : Prop :=
 ptrE p0 fun a14 =>
 ∃ l34 : SV, w.cell? (a14.add 5) = some (.slice l34.a l34.len l34.cap) /\
 ∃ a15, l34.a = some a15 /\ 0 <= n12 /\ n12 < (l34.len : Int) /\
 ∃ n37_0, w.cell? ((a15.add (n12.toNat * 4)).add 0) = some (.int .i64 n37_0) /\
 ∃ s37_1, w.cell? ((a15.add (n12.toNat * 4)).add 1) = some (.string s37_1) /\
 ∃ n37_2, w.cell? ((a15.add (n12.toNat * 4)).add 2) = some (.int .i64 n37_2) /\
 ∃ n37_3, w.cell? ((a15.add (n12.toNat * 4)).add 3) = some (.int .i64 n37_3) /\
 ∃ b43 : Bool, ∃ w16, (eqS .eql 127 (.tmp 37) (.tmp 42) (.agg #[.int .i64 n37_0, .string s37_1, .int .i64 n37_2, .int .i64 n37_3]) (.agg #[.int .i64 n1, .string s2, .int .i64 n3, .int .i64 n4])).run prog w = .ok (.bool b43) w16 /\
 F32_9 R J1 p0 n1 s2 n3 n4 n12 b43 ds w16
def F32_12 (R : Rt) (J1 : (Int) -> World -> Prop) (p0 : Option Addr) (n1 : Int) (s2 : ByteArray) (n3 n4 n12 : Int) (ds : Ds) (w : World) : Prop :=
 ptrE p0 fun a17 =>
 ∃ l26 : SV, w.cell? (a17.add 5) = some (.slice l26.a l26.len l26.cap) /\
 Br (decide (n12 < (l26.len : Int))) (
 F32_10 R J1 p0 n1 s2 n3 n4 n12 ds w) (
 F32_1 R ds w)
def F32_13 (R : Rt) (p0 : Option Addr) (n1 : Int) (s2 : ByteArray) (n3 n4 n12 : Int) (ds : Ds) (w : World) : Prop :=
 loopT (fun (J1 : (Int) -> World -> Prop) (s : Int) (w : World) => F32_12 R J1 p0 n1 s2 n3 n4 s ds w) n12 w
def F32_15 (R : Rt) (p0 : Option Addr) (n1 : Int) (s2 : ByteArray) (n3 n4 : Int) (ds : Ds) (w : World) : Prop :=
 Calls prog 75 #[.pointer p0, .int .i64 n1, .string s2] w fun e w18 =>
 ∃ n18 : Int, e = .returned (.int .i64 n18) /\
 Br (n18 != 0) (
 runD prog ds w18 fun w19 =>
 R (.returned (.int .i64 n18)) w19) (
 F32_13 R p0 n1 s2 n3 n4 0 ds w18)
theorem F32_p : Pl prog f32 [pS 0, iS 1, sS 2, iS 3, iS 4] F32_15 := fun R =>
  pc 5 (rest [pS 0, iS 1, sS 2, iS 3, iS 4, iS 12] (F32_13 R) (bk 0 (rest [] (F32_1 R) lf) (lp [iS 12] [pS 0, iS 1, sS 2, iS 3, iS 4, iS 12] (F32_12 R) rnil fun J1 => pc 2 (rest [pS 0, iS 1, sS 2, iS 3, iS 4, iS 12] (F32_10 R J1) (bk 1 (rest [pS 0, iS 1, sS 2, iS 3, iS 4, iS 12] (F32_2 R J1) lf) (pc 1 (rest [pS 0, iS 1, sS 2, iS 3, iS 4, iS 12, bS 43] (F32_9 R J1) (cd 43 [pS 0, iS 1, sS 2, iS 3, iS 4, iS 12] (F32_7 R J1) [pS 0, iS 1, sS 2, iS 3, iS 4, iS 12] (F32_8 R J1) rnil (pc 2 (rest [pS 0, sS 2, iS 3, iS 4, iS 12, lS 13, iS 14] (F32_5 R J1) (bk 2 (rest [pS 0, iS 12] (F32_3 R J1) lf) (lp [iS 14] [pS 0, sS 2, iS 3, iS 4, iS 12, lS 13, iS 14] (F32_4 R J1) rnil fun J2 => lf)))) lf))))))))
theorem F32_calls (p0 : Option Addr) (n1 : Int) (s2 : ByteArray) (n3 n4 : Int) (w : World) (R : Rt) (h : F32_15 R p0 n1 s2 n3 n4 [] w) : Calls prog 32 #[.pointer p0, .int .i64 n1, .string s2, .int .i64 n3, .int .i64 n4] w R :=
  plC F32_p func32 h
def F33_1 (R : Rt) (l8 : SV) (ds : Ds) (w : World) : Prop :=
 runD prog ds w fun w1 =>
 R (.returned (.tuple #[.int .i64 (l8.len : Int), .int .i64 0])) w1
def F33_2 (R : Rt) (J1 : (Int) -> World -> Prop) (p0 : Option Addr) (n1 : Int) (s2 : ByteArray) (l8 : SV) (n10 : Int) (ds : Ds) (w : World) : Prop :=
 Br (decide (n10 < (l8.len : Int))) (
 dwE w fun w2 =>
 ∃ a3, l8.a = some a3 /\ 0 <= n10 /\ n10 < (l8.len : Int) /\
 ∃ n32, w2.cell? (a3.add (n10.toNat * 1)) = some (.int .i64 n32) /\
 ptrE p0 fun a4 =>
 0 <= n1 /\ n1 < (4 : Int) /\
 ∃ m38, w2.cell? ((a4.add 1).add (n1.toNat * 1)) = some (.map m38) /\
 ∃ l40 : SV, (Instr.lookup 69 (.map m38) (.string s2) false).run prog w2 = .ok (.slice l40.a l40.len l40.cap) w2 /\
 Calls prog 82 #[.pointer p0, .string s2, .int .i64 n32, .slice l40.a l40.len l40.cap] w2 fun e w5 =>
 e = .returned (.tuple #[]) /\
 J1 (IntKind.i64.wrap (n10 + 1)) w5) (
 F33_1 R l8 ds w)
def F33_3 (R : Rt) (p0 : Option Addr) (n1 : Int) (s2 : ByteArray) (l8 : SV) (n10 : Int) (ds : Ds) (w : World) : Prop :=
 loopT (fun (J1 : (Int) -> World -> Prop) (s : Int) (w : World) => F33_2 R J1 p0 n1 s2 l8 s ds w) n10 w
def F33_5 (R : Rt) (p0 : Option Addr) (n1 : Int) (s2 : ByteArray) (ds : Ds) (w : World) : Prop :=
 Calls prog 38 #[.pointer p0, .int .i64 n1, .string s2] w fun e w6 =>
 ∃ l15_0 : SV, ∃ n15_1 : Int, e = .returned (.tuple #[.slice l15_0.a l15_0.len l15_0.cap, .int .i64 n15_1]) /\
 Br (n15_1 != 0) (
 runD prog ds w6 fun w7 =>
 R (.returned (.tuple #[.int .i64 0, .int .i64 n15_1])) w7) (
 F33_3 R p0 n1 s2 l15_0 0 ds w6)
theorem F33_p : Pl prog f33 [pS 0, iS 1, sS 2] F33_5 := fun R =>
  pc 5 (rest [pS 0, iS 1, sS 2, lS 8, iS 10] (F33_3 R) (bk 0 (rest [lS 8] (F33_1 R) lf) (lp [iS 10] [pS 0, iS 1, sS 2, lS 8, iS 10] (F33_2 R) rnil fun J1 => lf)))
theorem F33_calls (p0 : Option Addr) (n1 : Int) (s2 : ByteArray) (w : World) (R : Rt) (h : F33_5 R p0 n1 s2 [] w) : Calls prog 33 #[.pointer p0, .int .i64 n1, .string s2] w R :=
  plC F33_p func33 h
def F35_1 (R : Rt) (n10 : Int) (ds : Ds) (w : World) : Prop :=
 runD prog ds w fun w1 =>
 R (.returned (.tuple #[.int .i64 n10, .int .i64 0])) w1
def F35_2 (R : Rt) (J1 : (Int × Int) -> World -> Prop) (l9 : SV) (n10 n11 : Int) (ds : Ds) (w : World) : Prop :=
 J1 (n10, (IntKind.i64.wrap (n11 + 1))) w
def F35_3 (R : Rt) (J1 : (Int × Int) -> World -> Prop) (J2 : (Int) -> World -> Prop) (l9 : SV) (n10 n11 n14 : Int) (ds : Ds) (w : World) : Prop :=
 Br (decide (n14 < (IntKind.i64.wrap ((IntKind.i64.wrap (n11 + 1)) * 32)))) (
 Br (decide (n14 < (l9.len : Int))) (
 ∃ a2, l9.a = some a2 /\ 0 <= n14 /\ n14 < (l9.len : Int) /\
 stA prog 116 (a2.add (n14.toNat * 3)) #[.bool false, .bool false, .int .u8 0] w fun w3 =>
 J2 (IntKind.i64.wrap (n14 + 1)) w3) (
 F35_2 R J1 l9 n10 n11 ds w)) (
 F35_2 R J1 l9 n10 n11 ds w)
def F35_4 (R : Rt) (J1 : (Int × Int) -> World -> Prop) (l9 : SV) (n10 n11 n14 : Int) (ds : Ds) (w : World) : Prop :=
 loopT (fun (J2 : (Int) -> World -> Prop) (s : Int) (w : World) => F35_3 R J1 J2 l9 n10 n11 s ds w) n14 w
def F35_6 (R : Rt) (J1 : (Int × Int) -> World -> Prop) (l9 : SV) (n10 n11 : Int) (b12 : Bool) (ds : Ds) (w : World) : Prop :=
 Br b12 (
 F35_2 R J1 l9 n10 n11 ds w) (
 Calls prog 84 #[.slice l9.a l9.len l9.cap, .int .i64 n11] w fun e w4 =>
 ∃ b64 : Bool, e = .returned (.bool b64) /\
 Br (!b64) (
 F35_2 R J1 l9 n10 n11 ds w4) (
 F35_4 R J1 l9 (IntKind.i64.wrap (n10 + 1)) n11 (IntKind.i64.wrap (n11 * 32)) ds w4))
def F35_7 (R : Rt) (J1 : (Int × Int) -> World -> Prop) (J2 : (Bool × Int) -> World -> Prop) (l9 : SV) (n10 n11 : Int) (b12 : Bool) (n13 : Int) (ds : Ds) (w : World) : Prop :=
 Br (decide (n13 < (IntKind.i64.wrap ((IntKind.i64.wrap (n11 + 1)) * 32)))) (
 Br (decide (n13 < (l9.len : Int))) (
 Br b12 (
 J2 (true, (IntKind.i64.wrap (n13 + 1))) w) (
 ∃ a5, l9.a = some a5 /\ 0 <= n13 /\ n13 < (l9.len : Int) /\
 ∃ b58, w.cell? ((a5.add (n13.toNat * 3)).add 1) = some (.bool b58) /\
 J2 (b58, (IntKind.i64.wrap (n13 + 1))) w)) (
 F35_6 R J1 l9 n10 n11 b12 ds w)) (
 F35_6 R J1 l9 n10 n11 b12 ds w)
def F35_8 (R : Rt) (J1 : (Int × Int) -> World -> Prop) (l9 : SV) (n10 n11 : Int) (b12 : Bool) (n13 : Int) (ds : Ds) (w : World) : Prop :=
 loopT (fun (J2 : (Bool × Int) -> World -> Prop) (s : Bool × Int) (w : World) => F35_7 R J1 J2 l9 n10 n11 s.1 s.2 ds w) (b12, n13) w
def F35_10 (R : Rt) (J1 : (Int × Int) -> World -> Prop) (l9 : SV) (n10 n11 : Int) (ds : Ds) (w : World) : Prop :=
 F35_8 R J1 l9 n10 n11 false (IntKind.i64.wrap (n11 * 32)) ds w
def F35_12 (R : Rt) (J1 : (Int × Int) -> World -> Prop) (l9 : SV) (n10 n11 : Int) (ds : Ds) (w : World) : Prop :=
 Br (decide ((IntKind.i64.wrap (n11 * 32)) < (l9.len : Int))) (
 F35_10 R J1 l9 n10 n11 ds w) (
 F35_1 R n10 ds w)
def F35_13 (R : Rt) (l9 : SV) (n10 n11 : Int) (ds : Ds) (w : World) : Prop :=
 loopT (fun (J1 : (Int × Int) -> World -> Prop) (s : Int × Int) (w : World) => F35_12 R J1 l9 s.1 s.2 ds w) (n10, n11) w
def F35_15 (R : Rt) (p0 : Option Addr) (n1 : Int) (s2 : ByteArray) (ds : Ds) (w : World) : Prop :=
 Calls prog 75 #[.pointer p0, .int .i64 n1, .string s2] w fun e w6 =>
 ∃ n18 : Int, e = .returned (.int .i64 n18) /\
 Br (n18 != 0) (
 runD prog ds w6 fun w7 =>
 R (.returned (.tuple #[.int .i64 0, .int .i64 n18])) w7) (
 ptrE p0 fun a8 =>
 0 <= n1 /\ n1 < (4 : Int) /\
 ∃ m27, w6.cell? ((a8.add 1).add (n1.toNat * 1)) = some (.map m27) /\
 ∃ l29 : SV, ∃ w9, (Instr.lookup 69 (.map m27) (.string s2) false).run prog w6 = .ok (.slice l29.a l29.len l29.cap) w9 /\
 F35_13 R l29 0 0 ds w9)
theorem F35_p : Pl prog f35 [pS 0, iS 1, sS 2] F35_15 := fun R =>
  pc 7 (rest [lS 9, iS 10, iS 11] (F35_13 R) (bk 0 (rest [iS 10] (F35_1 R) lf) (lp [iS 10, iS 11] [lS 9, iS 10, iS 11] (F35_12 R) rnil fun J1 => pc 2 (rest [lS 9, iS 10, iS 11] (F35_10 R J1) (bk 1 (rest [lS 9, iS 10, iS 11] (F35_2 R J1) lf) (pc 2 (rest [lS 9, iS 10, iS 11, bS 12, iS 13] (F35_8 R J1) (bk 2 (rest [lS 9, iS 10, iS 11, bS 12] (F35_6 R J1) (pc 4 (rest [lS 9, iS 10, iS 11, iS 14] (F35_4 R J1) (bk 4 rnil (lp [iS 14] [lS 9, iS 10, iS 11, iS 14] (F35_3 R J1) rnil fun J2 => lf))))) (lp [bS 12, iS 13] [lS 9, iS 10, iS 11, bS 12, iS 13] (F35_7 R J1) rnil fun J2 => lf)))))))))
theorem F35_calls (p0 : Option Addr) (n1 : Int) (s2 : ByteArray) (w : World) (R : Rt) (h : F35_15 R p0 n1 s2 [] w) : Calls prog 35 #[.pointer p0, .int .i64 n1, .string s2] w R :=
  plC F35_p func35 h
def F36_1 (R : Rt) (p0 : Option Addr) (n6 : Int) (l10 : SV) (ds : Ds) (w : World) : Prop :=
 ptrE p0 fun a1 =>
 st1 (a1.add 5) (.slice l10.a l10.len l10.cap) w fun w2 =>
 runD prog ds w2 fun w3 =>
 R (.returned (.tuple #[.int .i64 n6, .int .i64 0])) w3
def F36_2 (R : Rt) (J1 : (SV × Int) -> World -> Prop) (p0 : Option Addr) (n1 n6 : Int) (l10 : SV) (n11 : Int) (ds : Ds) (w : World) : Prop :=
 ptrE p0 fun a4 =>
 ∃ l65 : SV, w.cell? (a4.add 5) = some (.slice l65.a l65.len l65.cap) /\
 Br (decide (n11 < (l65.len : Int))) (
 ptrE p0 fun a5 =>
 ∃ l73 : SV, w.cell? (a5.add 5) = some (.slice l73.a l73.len l73.cap) /\
 ∃ a6, l73.a = some a6 /\ 0 <= n11 /\ n11 < (l73.len : Int) /\
 ∃ n77, w.cell? (a6.add (n11.toNat * 4)) = some (.int .i64 n77) /\
 Br (n77 != n1) (
 ptrE p0 fun a7 =>
 ∃ l84 : SV, w.cell? (a7.add 5) = some (.slice l84.a l84.len l84.cap) /\
 ∃ a8, l84.a = some a8 /\ 0 <= n11 /\ n11 < (l84.len : Int) /\
 ∃ n87_0, w.cell? ((a8.add (n11.toNat * 4)).add 0) = some (.int .i64 n87_0) /\
 ∃ s87_1, w.cell? ((a8.add (n11.toNat * 4)).add 1) = some (.string s87_1) /\
 ∃ n87_2, w.cell? ((a8.add (n11.toNat * 4)).add 2) = some (.int .i64 n87_2) /\
 ∃ n87_3, w.cell? ((a8.add (n11.toNat * 4)).add 3) = some (.int .i64 n87_3) /\
 alE (.cells #[.int .i64 n87_0, .string s87_1, .int .i64 n87_2, .int .i64 n87_3] 127) w fun r88 w9 =>
 ∃ l89 : SV, ∃ w10, (Builtin.append_ #[71, 71] 71 #[.slice l10.a l10.len l10.cap, .slice (some ⟨r88, 0, none⟩) 1 1]).run prog w9 = .ok (.slice l89.a l89.len l89.cap) w10 /\
 J1 (l89, (IntKind.i64.wrap (n11 + 1))) w10) (
 J1 (l10, (IntKind.i64.wrap (n11 + 1))) w)) (
 F36_1 R p0 n6 l10 ds w)
def F36_3 (R : Rt) (p0 : Option Addr) (n1 n6 : Int) (l10 : SV) (n11 : Int) (ds : Ds) (w : World) : Prop :=
 loopT (fun (J1 : (SV × Int) -> World -> Prop) (s : SV × Int) (w : World) => F36_2 R J1 p0 n1 n6 s.1 s.2 ds w) (l10, n11) w
def F36_5 (R : Rt) (p0 : Option Addr) (n1 n6 : Int) (ds : Ds) (w : World) : Prop :=
 alE (.map #[] 0) w fun r57 w11 =>
 ptrE p0 fun a12 =>
 0 <= n1 /\ n1 < (4 : Int) /\
 st1 ((a12.add 1).add (n1.toNat * 1)) (.map (some r57)) w11 fun w13 =>
 F36_3 R p0 n1 n6 ⟨none, 0, 0⟩ 0 ds w13
def F36_6 (R : Rt) (J1 : (Int × Int) -> World -> Prop) (p0 : Option Addr) (n1 n6 n7 : Int) (ds : Ds) (w : World) : Prop :=
 J1 (n6, (IntKind.i64.wrap (n7 + 1))) w
def F36_7 (R : Rt) (J1 : (Int × Int) -> World -> Prop) (J2 : (Int × Int) -> World -> Prop) (p0 : Option Addr) (n1 n6 n7 : Int) (l8 : SV) (n9 : Int) (ds : Ds) (w : World) : Prop :=
 Br (decide (n9 < (l8.len : Int))) (
 ∃ a14, l8.a = some a14 /\ 0 <= n9 /\ n9 < (l8.len : Int) /\
 ∃ b52, w.cell? ((a14.add (n9.toNat * 3)).add 1) = some (.bool b52) /\
 Br b52 (
 J2 ((IntKind.i64.wrap (n6 + 1)), (IntKind.i64.wrap (n9 + 1))) w) (
 J2 (n6, (IntKind.i64.wrap (n9 + 1))) w)) (
 F36_6 R J1 p0 n1 n6 n7 ds w)
def F36_8 (R : Rt) (J1 : (Int × Int) -> World -> Prop) (p0 : Option Addr) (n1 n6 n7 : Int) (l8 : SV) (n9 : Int) (ds : Ds) (w : World) : Prop :=
 loopT (fun (J2 : (Int × Int) -> World -> Prop) (s : Int × Int) (w : World) => F36_7 R J1 J2 p0 n1 s.1 n7 l8 s.2 ds w) (n6, n9) w
def F36_10 (R : Rt) (J1 : (Int × Int) -> World -> Prop) (p0 : Option Addr) (n1 n6 n7 : Int) (ds : Ds) (w : World) : Prop :=
 dwE w fun w15 =>
 ptrE p0 fun a16 =>
 0 <= n1 /\ n1 < (4 : Int) /\
 ∃ m32, w15.cell? ((a16.add 1).add (n1.toNat * 1)) = some (.map m32) /\
 ptrE p0 fun a17 =>
 ∃ l36 : SV, w15.cell? a17 = some (.slice l36.a l36.len l36.cap) /\
 ∃ a18, l36.a = some a18 /\ 0 <= n7 /\ n7 < (l36.len : Int) /\
 ∃ s40, w15.cell? (a18.add (n7.toNat * 2)) = some (.string s40) /\
 ∃ l41 : SV, (Instr.lookup 69 (.map m32) (.string s40) false).run prog w15 = .ok (.slice l41.a l41.len l41.cap) w15 /\
 F36_8 R J1 p0 n1 n6 n7 l41 0 ds w15
def F36_12 (R : Rt) (J1 : (Int × Int) -> World -> Prop) (p0 : Option Addr) (n1 n6 n7 : Int) (ds : Ds) (w : World) : Prop :=
 ptrE p0 fun a19 =>
 ∃ l22 : SV, w.cell? a19 = some (.slice l22.a l22.len l22.cap) /\
 Br (decide (n7 < (l22.len : Int))) (
 F36_10 R J1 p0 n1 n6 n7 ds w) (
 F36_5 R p0 n1 n6 ds w)
def F36_13 (R : Rt) (p0 : Option Addr) (n1 n6 n7 : Int) (ds : Ds) (w : World) : Prop :=
 loopT (fun (J1 : (Int × Int) -> World -> Prop) (s : Int × Int) (w : World) => F36_12 R J1 p0 n1 s.1 s.2 ds w) (n6, n7) w
def F36_15 (R : Rt) (p0 : Option Addr) (n1 : Int) (ds : Ds) (w : World) : Prop :=
 Br (decide (n1 < 0)) (
 runD prog ds w fun w20 =>
 R (.returned (.tuple #[.int .i64 0, .int .i64 1])) w20) (
 Br (decide (n1 ≥ 4)) (
 runD prog ds w fun w21 =>
 R (.returned (.tuple #[.int .i64 0, .int .i64 1])) w21) (
 F36_13 R p0 n1 0 0 ds w))
theorem F36_p : Pl prog f36 [pS 0, iS 1] F36_15 := fun R =>
  pc 5 (rest [pS 0, iS 1, iS 6, iS 7] (F36_13 R) (bk 0 (rest [pS 0, iS 1, iS 6] (F36_5 R) (pc 3 (rest [pS 0, iS 1, iS 6, lS 10, iS 11] (F36_3 R) (bk 4 (rest [pS 0, iS 6, lS 10] (F36_1 R) lf) (lp [lS 10, iS 11] [pS 0, iS 1, iS 6, lS 10, iS 11] (F36_2 R) rnil fun J1 => lf))))) (lp [iS 6, iS 7] [pS 0, iS 1, iS 6, iS 7] (F36_12 R) rnil fun J1 => pc 2 (rest [pS 0, iS 1, iS 6, iS 7] (F36_10 R J1) (bk 1 (rest [pS 0, iS 1, iS 6, iS 7] (F36_6 R J1) lf) (pc 2 (rest [pS 0, iS 1, iS 6, iS 7, lS 8, iS 9] (F36_8 R J1) (bk 2 rnil (lp [iS 6, iS 9] [pS 0, iS 1, iS 6, iS 7, lS 8, iS 9] (F36_7 R J1) rnil fun J2 => lf)))))))))
theorem F36_calls (p0 : Option Addr) (n1 : Int) (w : World) (R : Rt) (h : F36_15 R p0 n1 [] w) : Calls prog 36 #[.pointer p0, .int .i64 n1] w R :=
  plC F36_p func36 h
def F38_1 (R : Rt) (l9 : SV) (ds : Ds) (w : World) : Prop :=
 runD prog ds w fun w1 =>
 R (.returned (.tuple #[.slice l9.a l9.len l9.cap, .int .i64 0])) w1
def F38_2 (R : Rt) (J1 : (SV × Int) -> World -> Prop) (l9 l10 : SV) (n11 : Int) (ds : Ds) (w : World) : Prop :=
 Br (decide (n11 < (l10.len : Int))) (
 ∃ a2, l10.a = some a2 /\ 0 <= n11 /\ n11 < (l10.len : Int) /\
 ∃ b37, w.cell? ((a2.add (n11.toNat * 3)).add 1) = some (.bool b37) /\
 Br b37 (
 alE (.cells #[.int .i64 n11] 3) w fun r40 w3 =>
 ∃ l41 : SV, ∃ w4, (Builtin.append_ #[74, 74] 74 #[.slice l9.a l9.len l9.cap, .slice (some ⟨r40, 0, none⟩) 1 1]).run prog w3 = .ok (.slice l41.a l41.len l41.cap) w4 /\
 J1 (l41, (IntKind.i64.wrap (n11 + 1))) w4) (
 J1 (l9, (IntKind.i64.wrap (n11 + 1))) w)) (
 F38_1 R l9 ds w)
def F38_3 (R : Rt) (l9 l10 : SV) (n11 : Int) (ds : Ds) (w : World) : Prop :=
 loopT (fun (J1 : (SV × Int) -> World -> Prop) (s : SV × Int) (w : World) => F38_2 R J1 s.1 l10 s.2 ds w) (l9, n11) w
def F38_5 (R : Rt) (p0 : Option Addr) (n1 : Int) (s2 : ByteArray) (ds : Ds) (w : World) : Prop :=
 Calls prog 75 #[.pointer p0, .int .i64 n1, .string s2] w fun e w5 =>
 ∃ n15 : Int, e = .returned (.int .i64 n15) /\
 Br (n15 != 0) (
 runD prog ds w5 fun w6 =>
 R (.returned (.tuple #[.slice none 0 0, .int .i64 n15])) w6) (
 ptrE p0 fun a7 =>
 0 <= n1 /\ n1 < (4 : Int) /\
 ∃ m24, w5.cell? ((a7.add 1).add (n1.toNat * 1)) = some (.map m24) /\
 ∃ l26 : SV, ∃ w8, (Instr.lookup 69 (.map m24) (.string s2) false).run prog w5 = .ok (.slice l26.a l26.len l26.cap) w8 /\
 F38_3 R ⟨none, 0, 0⟩ l26 0 ds w8)
theorem F38_p : Pl prog f38 [pS 0, iS 1, sS 2] F38_5 := fun R =>
  pc 7 (rest [lS 9, lS 10, iS 11] (F38_3 R) (bk 0 (rest [lS 9] (F38_1 R) lf) (lp [lS 9, iS 11] [lS 9, lS 10, iS 11] (F38_2 R) rnil fun J1 => lf)))
theorem F38_calls (p0 : Option Addr) (n1 : Int) (s2 : ByteArray) (w : World) (R : Rt) (h : F38_5 R p0 n1 s2 [] w) : Calls prog 38 #[.pointer p0, .int .i64 n1, .string s2] w R :=
  plC F38_p func38 h
def F41_1 (R : Rt) (p0 : Option Addr) (s1 : ByteArray) (ds : Ds) (w : World) : Prop :=
 Calls prog 92 #[.string s1] w fun e w1 =>
 ∃ b6 : Bool, e = .returned (.bool b6) /\
 Br (!b6) (
 runD prog ds w1 fun w2 =>
 R (.returned (.int .i64 1)) w2) (
 Calls prog 42 #[.pointer p0, .string s1] w1 fun e w3 =>
 ∃ n10 : Int, e = .returned (.int .i64 n10) /\
 Br (decide (n10 < 0)) (
 runD prog ds w3 fun w4 =>
 R (.returned (.int .i64 4)) w4) (
 runD prog ds w3 fun w5 =>
 R (.returned (.int .i64 0)) w5))
theorem F41_p : Pl prog f41 [pS 0, sS 1] F41_1 := fun R =>
  lf
theorem F41_calls (p0 : Option Addr) (s1 : ByteArray) (w : World) (R : Rt) (h : F41_1 R p0 s1 [] w) : Calls prog 41 #[.pointer p0, .string s1] w R :=
  plC F41_p func41 h
def F42_1 (R : Rt) (ds : Ds) (w : World) : Prop :=
 runD prog ds w fun w1 =>
 R (.returned (.int .i64 (-1))) w1
def F42_2 (R : Rt) (J1 : (Int) -> World -> Prop) (p0 : Option Addr) (s1 : ByteArray) (n5 : Int) (ds : Ds) (w : World) : Prop :=
 ptrE p0 fun a2 =>
 ∃ l10 : SV, w.cell? a2 = some (.slice l10.a l10.len l10.cap) /\
 Br (decide (n5 < (l10.len : Int))) (
 ptrE p0 fun a3 =>
 ∃ l18 : SV, w.cell? a3 = some (.slice l18.a l18.len l18.cap) /\
 ∃ a4, l18.a = some a4 /\ 0 <= n5 /\ n5 < (l18.len : Int) /\
 ∃ s22, w.cell? (a4.add (n5.toNat * 2)) = some (.string s22) /\
 Br (s22.toList == s1.toList) (
 runD prog ds w fun w5 =>
 R (.returned (.int .i64 n5)) w5) (
 J1 (IntKind.i64.wrap (n5 + 1)) w)) (
 F42_1 R ds w)
def F42_3 (R : Rt) (p0 : Option Addr) (s1 : ByteArray) (n5 : Int) (ds : Ds) (w : World) : Prop :=
 loopT (fun (J1 : (Int) -> World -> Prop) (s : Int) (w : World) => F42_2 R J1 p0 s1 s ds w) n5 w
def F42_5 (R : Rt) (p0 : Option Addr) (s1 : ByteArray) (ds : Ds) (w : World) : Prop :=
 F42_3 R p0 s1 0 ds w
theorem F42_p : Pl prog f42 [pS 0, sS 1] F42_5 := fun R =>
  pc 2 (rest [pS 0, sS 1, iS 5] (F42_3 R) (bk 0 (rest [] (F42_1 R) lf) (lp [iS 5] [pS 0, sS 1, iS 5] (F42_2 R) rnil fun J1 => lf)))
theorem F42_calls (p0 : Option Addr) (s1 : ByteArray) (w : World) (R : Rt) (h : F42_5 R p0 s1 [] w) : Calls prog 42 #[.pointer p0, .string s1] w R :=
  plC F42_p func42 h
def F75_1 (R : Rt) (p0 : Option Addr) (n1 : Int) (s2 : ByteArray) (ds : Ds) (w : World) : Prop :=
 Br (decide (n1 < 0)) (
 runD prog ds w fun w1 =>
 R (.returned (.int .i64 1)) w1) (
 Br (decide (n1 ≥ 4)) (
 runD prog ds w fun w2 =>
 R (.returned (.int .i64 1)) w2) (
 Calls prog 41 #[.pointer p0, .string s2] w fun e w3 =>
 ∃ n15 : Int, e = .returned (.int .i64 n15) /\
 runD prog ds w3 fun w4 =>
 R (.returned (.int .i64 n15)) w4))
theorem F75_p : Pl prog f75 [pS 0, iS 1, sS 2] F75_1 := fun R =>
  lf
theorem F75_calls (p0 : Option Addr) (n1 : Int) (s2 : ByteArray) (w : World) (R : Rt) (h : F75_1 R p0 n1 s2 [] w) : Calls prog 75 #[.pointer p0, .int .i64 n1, .string s2] w R :=
  plC F75_p func75 h
def F76_1 (R : Rt) (p0 : Option Addr) (s1 : ByteArray) (n2 n3 : Int) (ds : Ds) (w : World) : Prop :=
 dwE w fun w1 =>
 ∃ S1 : World -> Prop, S1 w1 /\
 ptrE p0 fun a2 =>
 ∃ l13 : SV, (∀ w', S1 w' -> w'.cell? a2 = some (.slice l13.a l13.len l13.cap)) /\
 Calls prog 42 #[.pointer p0, .string s1] w1 fun e w3 =>
 ∃ n16 : Int, e = .returned (.int .i64 n16) /\
 S1 w3 /\
 ∃ a4, l13.a = some a4 /\ 0 <= n16 /\ n16 < (l13.len : Int) /\
 ∃ l19 : SV, (∀ w', S1 w' -> w'.cell? ((a4.add (n16.toNat * 2)).add 1) = some (.slice l19.a l19.len l19.cap)) /\
 Br (decide (n2 ≥ 0)) (
 Br (decide (n3 ≥ 0)) (
 Br (decide (n2 <= (l19.len : Int))) (
 runD prog ds w3 fun w5 =>
 R (.returned (.bool (decide (n3 <= (IntKind.i64.wrap ((l19.len : Int) - n2)))))) w5) (
 runD prog ds w3 fun w6 =>
 R (.returned (.bool false)) w6)) (
 runD prog ds w3 fun w7 =>
 R (.returned (.bool false)) w7)) (
 runD prog ds w3 fun w8 =>
 R (.returned (.bool false)) w8)
theorem F76_p : Pl prog f76 [pS 0, sS 1, iS 2, iS 3] F76_1 := fun R =>
  lf
theorem F76_calls (p0 : Option Addr) (s1 : ByteArray) (n2 n3 : Int) (w : World) (R : Rt) (h : F76_1 R p0 s1 n2 n3 [] w) : Calls prog 76 #[.pointer p0, .string s1, .int .i64 n2, .int .i64 n3] w R :=
  plC F76_p func76 h
def F77_1 (R : Rt) (p0 : Option Addr) (n1 : Int) (s2 : ByteArray) (l11 : SV) (ds : Ds) (w : World) : Prop :=
 ptrE p0 fun a1 =>
 0 <= n1 /\ n1 < (4 : Int) /\
 ∃ m108, w.cell? ((a1.add 1).add (n1.toNat * 1)) = some (.map m108) /\
 doE prog (Instr.mapUpdate 69 (.map m108) (.string s2) (.slice l11.a l11.len l11.cap)) w fun w2 =>
 runD prog ds w2 fun w3 =>
 R (.returned (.tuple #[])) w3
def F77_2 (R : Rt) (J1 : (Int) -> World -> Prop) (p0 : Option Addr) (n1 : Int) (s2 : ByteArray) (n3 n4 : Int) (l10 l11 : SV) (n12 : Int) (ds : Ds) (w : World) : Prop :=
 J1 (IntKind.i64.wrap (n12 + 1)) w
def F77_3 (R : Rt) (J1 : (Int) -> World -> Prop) (J2 : (Int) -> World -> Prop) (p0 : Option Addr) (n1 : Int) (s2 : ByteArray) (n3 n4 : Int) (l10 l11 : SV) (n12 : Int) (b13 : Bool) (n14 : Int) (ds : Ds) (w : World) : Prop :=
 J2 (IntKind.i64.wrap (n14 + 1)) w
def F77_4 (R : Rt) (J1 : (Int) -> World -> Prop) (J2 : (Int) -> World -> Prop) (p0 : Option Addr) (n1 : Int) (s2 : ByteArray) (n3 n4 : Int) (l10 l11 : SV) (n12 : Int) (b13 : Bool) (n14 : Int) (ds : Ds) (w : World) : Prop :=
 ∃ a4, l11.a = some a4 /\ 0 <= n14 /\ n14 < (l11.len : Int) /\
 ∃ b78, w.cell? (a4.add (n14.toNat * 3)) = some (.bool b78) /\
 Br (!b78) (
 Br b13 (
 ∃ a5, l10.a = some a5 /\ 0 <= n14 /\ n14 < (l10.len : Int) /\
 ∃ n100, w.cell? (a5.add (n14.toNat * 1)) = some (.int .u8 n100) /\
 ∃ a6, l11.a = some a6 /\ 0 <= n14 /\ n14 < (l11.len : Int) /\
 stA prog 116 (a6.add (n14.toNat * 3)) #[.bool true, .bool false, .int .u8 n100] w fun w7 =>
 F77_3 R J1 J2 p0 n1 s2 n3 n4 l10 l11 n12 b13 n14 ds w7) (
 Br (decide (n14 ≥ n3)) (
 Br (decide (n14 < (IntKind.i64.wrap (n3 + n4)))) (
 ∃ a8, l10.a = some a8 /\ 0 <= n14 /\ n14 < (l10.len : Int) /\
 ∃ n100, w.cell? (a8.add (n14.toNat * 1)) = some (.int .u8 n100) /\
 ∃ a9, l11.a = some a9 /\ 0 <= n14 /\ n14 < (l11.len : Int) /\
 stA prog 116 (a9.add (n14.toNat * 3)) #[.bool true, .bool false, .int .u8 n100] w fun w10 =>
 F77_3 R J1 J2 p0 n1 s2 n3 n4 l10 l11 n12 b13 n14 ds w10) (
 F77_3 R J1 J2 p0 n1 s2 n3 n4 l10 l11 n12 b13 n14 ds w)) (
 F77_3 R J1 J2 p0 n1 s2 n3 n4 l10 l11 n12 b13 n14 ds w))) (
 F77_3 R J1 J2 p0 n1 s2 n3 n4 l10 l11 n12 b13 n14 ds w)
def F77_5 (R : Rt) (J1 : (Int) -> World -> Prop) (J2 : (Int) -> World -> Prop) (p0 : Option Addr) (n1 : Int) (s2 : ByteArray) (n3 n4 : Int) (l10 l11 : SV) (n12 : Int) (b13 : Bool) (n14 : Int) (ds : Ds) (w : World) : Prop :=
 Br (decide (n14 < (IntKind.i64.wrap ((IntKind.i64.wrap (n12 + 1)) * 32)))) (
 Br (decide (n14 < (l10.len : Int))) (
 F77_4 R J1 J2 p0 n1 s2 n3 n4 l10 l11 n12 b13 n14 ds w) (
 F77_2 R J1 p0 n1 s2 n3 n4 l10 l11 n12 ds w)) (
 F77_2 R J1 p0 n1 s2 n3 n4 l10 l11 n12 ds w)
def F77_6 (R : Rt) (J1 : (Int) -> World -> Prop) (p0 : Option Addr) (n1 : Int) (s2 : ByteArray) (n3 n4 : Int) (l10 l11 : SV) (n12 : Int) (b13 : Bool) (n14 : Int) (ds : Ds) (w : World) : Prop :=
 loopT (fun (J2 : (Int) -> World -> Prop) (s : Int) (w : World) => F77_5 R J1 J2 p0 n1 s2 n3 n4 l10 l11 n12 b13 s ds w) n14 w
def F77_8 (R : Rt) (J1 : (Int) -> World -> Prop) (p0 : Option Addr) (n1 : Int) (s2 : ByteArray) (n3 n4 : Int) (l10 l11 : SV) (n12 : Int) (ds : Ds) (w : World) : Prop :=
 Calls prog 84 #[.slice l11.a l11.len l11.cap, .int .i64 n12] w fun e w11 =>
 ∃ b57 : Bool, e = .returned (.bool b57) /\
 F77_6 R J1 p0 n1 s2 n3 n4 l10 l11 n12 (!b57) (IntKind.i64.wrap (n12 * 32)) ds w11
def F77_10 (R : Rt) (J1 : (Int) -> World -> Prop) (p0 : Option Addr) (n1 : Int) (s2 : ByteArray) (n3 n4 : Int) (l10 l11 : SV) (n12 : Int) (ds : Ds) (w : World) : Prop :=
 IntKind.i64 = IntKind.i64 /\ (32 : Int) ≠ 0 /\
 Br (decide (n12 <= (IntKind.i64.wrap ((IntKind.i64.wrap ((IntKind.i64.wrap (n3 + n4)) - 1)).tdiv 32)))) (
 F77_8 R J1 p0 n1 s2 n3 n4 l10 l11 n12 ds w) (
 F77_1 R p0 n1 s2 l11 ds w)
def F77_11 (R : Rt) (p0 : Option Addr) (n1 : Int) (s2 : ByteArray) (n3 n4 : Int) (l10 l11 : SV) (n12 : Int) (ds : Ds) (w : World) : Prop :=
 loopT (fun (J1 : (Int) -> World -> Prop) (s : Int) (w : World) => F77_10 R J1 p0 n1 s2 n3 n4 l10 l11 s ds w) n12 w
def F77_13 (R : Rt) (p0 : Option Addr) (n1 : Int) (s2 : ByteArray) (n3 n4 : Int) (l10 l11 : SV) (ds : Ds) (w : World) : Prop :=
 IntKind.i64 = IntKind.i64 /\ (32 : Int) ≠ 0 /\
 F77_11 R p0 n1 s2 n3 n4 l10 l11 (IntKind.i64.wrap (n3.tdiv 32)) ds w
def F77_14 (R : Rt) (J1 : (SV) -> World -> Prop) (p0 : Option Addr) (n1 : Int) (s2 : ByteArray) (n3 n4 : Int) (l10 l11 : SV) (ds : Ds) (w : World) : Prop :=
 Br (decide ((l11.len : Int) < (l10.len : Int))) (
 alE (.cells #[.bool false, .bool false, .int .u8 0] 116) w fun r42 w12 =>
 ∃ l43 : SV, ∃ w13, (Builtin.append_ #[114, 114] 114 #[.slice l11.a l11.len l11.cap, .slice (some ⟨r42, 0, none⟩) 1 1]).run prog w12 = .ok (.slice l43.a l43.len l43.cap) w13 /\
 J1 l43 w13) (
 F77_13 R p0 n1 s2 n3 n4 l10 l11 ds w)
def F77_15 (R : Rt) (p0 : Option Addr) (n1 : Int) (s2 : ByteArray) (n3 n4 : Int) (l10 l11 : SV) (ds : Ds) (w : World) : Prop :=
 loopT (fun (J1 : (SV) -> World -> Prop) (s : SV) (w : World) => F77_14 R J1 p0 n1 s2 n3 n4 l10 s ds w) l11 w
def F77_17 (R : Rt) (p0 : Option Addr) (n1 : Int) (s2 : ByteArray) (n3 n4 : Int) (ds : Ds) (w : World) : Prop :=
 Br (n4 == 0) (
 runD prog ds w fun w14 =>
 R (.returned (.tuple #[])) w14) (
 dwE w fun w15 =>
 ∃ S1 : World -> Prop, S1 w15 /\
 ptrE p0 fun a16 =>
 ∃ l20 : SV, (∀ w', S1 w' -> w'.cell? a16 = some (.slice l20.a l20.len l20.cap)) /\
 Calls prog 42 #[.pointer p0, .string s2] w15 fun e w17 =>
 ∃ n23 : Int, e = .returned (.int .i64 n23) /\
 S1 w17 /\
 ∃ a18, l20.a = some a18 /\ 0 <= n23 /\ n23 < (l20.len : Int) /\
 ∃ l26 : SV, (∀ w', S1 w' -> w'.cell? ((a18.add (n23.toNat * 2)).add 1) = some (.slice l26.a l26.len l26.cap)) /\
 ptrE p0 fun a19 =>
 0 <= n1 /\ n1 < (4 : Int) /\
 ∃ m32, w17.cell? ((a19.add 1).add (n1.toNat * 1)) = some (.map m32) /\
 ∃ l34 : SV, ∃ w20, (Instr.lookup 69 (.map m32) (.string s2) false).run prog w17 = .ok (.slice l34.a l34.len l34.cap) w20 /\
 F77_15 R p0 n1 s2 n3 n4 l26 l34 ds w20)
theorem F77_p : Pl prog f77 [pS 0, iS 1, sS 2, iS 3, iS 4] F77_17 := fun R =>
  pc 4 (rest [pS 0, iS 1, sS 2, iS 3, iS 4, lS 10, lS 11] (F77_15 R) (bk 0 (rest [pS 0, iS 1, sS 2, iS 3, iS 4, lS 10, lS 11] (F77_13 R) (pc 1 (rest [pS 0, iS 1, sS 2, iS 3, iS 4, lS 10, lS 11, iS 12] (F77_11 R) (bk 2 (rest [pS 0, iS 1, sS 2, lS 11] (F77_1 R) lf) (lp [iS 12] [pS 0, iS 1, sS 2, iS 3, iS 4, lS 10, lS 11, iS 12] (F77_10 R) rnil fun J1 => pc 2 (rest [pS 0, iS 1, sS 2, iS 3, iS 4, lS 10, lS 11, iS 12] (F77_8 R J1) (bk 3 (rest [pS 0, iS 1, sS 2, iS 3, iS 4, lS 10, lS 11, iS 12] (F77_2 R J1) lf) (pc 2 (rest [pS 0, iS 1, sS 2, iS 3, iS 4, lS 10, lS 11, iS 12, bS 13, iS 14] (F77_6 R J1) (bk 4 rnil (lp [iS 14] [pS 0, iS 1, sS 2, iS 3, iS 4, lS 10, lS 11, iS 12, bS 13, iS 14] (F77_5 R J1) rnil fun J2 => pc 2 (rest [pS 0, iS 1, sS 2, iS 3, iS 4, lS 10, lS 11, iS 12, bS 13, iS 14] (F77_4 R J1 J2) (pc 1 (rest [pS 0, iS 1, sS 2, iS 3, iS 4, lS 10, lS 11, iS 12, bS 13, iS 14] (F77_3 R J1 J2) lf)))))))))))))) (lp [lS 11] [pS 0, iS 1, sS 2, iS 3, iS 4, lS 10, lS 11] (F77_14 R) rnil fun J1 => lf)))
theorem F77_calls (p0 : Option Addr) (n1 : Int) (s2 : ByteArray) (n3 n4 : Int) (w : World) (R : Rt) (h : F77_17 R p0 n1 s2 n3 n4 [] w) : Calls prog 77 #[.pointer p0, .int .i64 n1, .string s2, .int .i64 n3, .int .i64 n4] w R :=
  plC F77_p func77 h
def F78_1 (R : Rt) (n0_0 : Int) (s0_1 : ByteArray) (n0_2 n0_3 : Int) (s1 : ByteArray) (n2 n3 : Int) (ds : Ds) (w : World) : Prop :=
 alE (.cells #[.int .i64 n0_0, .string s0_1, .int .i64 n0_2, .int .i64 n0_3] 127) w fun r4 w1 =>
 ∃ s10, w1.cell? ((⟨r4, 0, none⟩ : Addr).add 1) = some (.string s10) /\
 Br (s10.toList == s1.toList) (
 ∃ n15, w1.cell? ((⟨r4, 0, none⟩ : Addr).add 2) = some (.int .i64 n15) /\
 Br (decide (n15 < (IntKind.i64.wrap (n2 + n3)))) (
 ∃ n24, w1.cell? ((⟨r4, 0, none⟩ : Addr).add 2) = some (.int .i64 n24) /\
 ∃ n26, w1.cell? ((⟨r4, 0, none⟩ : Addr).add 3) = some (.int .i64 n26) /\
 runD prog ds w1 fun w2 =>
 R (.returned (.bool (decide (n2 < (IntKind.i64.wrap (n24 + n26)))))) w2) (
 runD prog ds w1 fun w3 =>
 R (.returned (.bool false)) w3)) (
 runD prog ds w1 fun w4 =>
 R (.returned (.bool false)) w4)
theorem F78_p : Pl prog f78 [aS 0 [.int .i64, .str, .int .i64, .int .i64], sS 1, iS 2, iS 3] F78_1 := fun R =>
  lf
theorem F78_calls (n0_0 : Int) (s0_1 : ByteArray) (n0_2 n0_3 : Int) (s1 : ByteArray) (n2 n3 : Int) (w : World) (R : Rt) (h : F78_1 R n0_0 s0_1 n0_2 n0_3 s1 n2 n3 [] w) : Calls prog 78 #[.agg #[.int .i64 n0_0, .string s0_1, .int .i64 n0_2, .int .i64 n0_3], .string s1, .int .i64 n2, .int .i64 n3] w R :=
  plC F78_p func78 h
def F79_1 (R : Rt) (l0 : SV) (n1 n2 n3 : Int) (ds : Ds) (w : World) : Prop :=
 IntKind.i64 = IntKind.i64 /\ (32 : Int) ≠ 0 /\
 ∃ a1, l0.a = some a1 /\ 0 <= n1 /\ n1 < (l0.len : Int) /\
 ∃ b16, w.cell? (a1.add (n1.toNat * 3)) = some (.bool b16) /\
 Br b16 (
 IntKind.i64 = IntKind.i64 /\ (32 : Int) ≠ 0 /\
 Br (decide ((IntKind.i64.wrap (n1.tdiv 32)) ≥ (IntKind.i64.wrap (n2.tdiv 32)))) (
 IntKind.i64 = IntKind.i64 /\ (32 : Int) ≠ 0 /\
 runD prog ds w fun w2 =>
 R (.returned (.bool (decide ((IntKind.i64.wrap (n1.tdiv 32)) <= (IntKind.i64.wrap ((IntKind.i64.wrap ((IntKind.i64.wrap (n2 + n3)) - 1)).tdiv 32)))))) w2) (
 runD prog ds w fun w3 =>
 R (.returned (.bool false)) w3)) (
 runD prog ds w fun w4 =>
 R (.returned (.bool false)) w4)
theorem F79_p : Pl prog f79 [lS 0, iS 1, iS 2, iS 3] F79_1 := fun R =>
  lf
theorem F79_calls (l0 : SV) (n1 n2 n3 : Int) (w : World) (R : Rt) (h : F79_1 R l0 n1 n2 n3 [] w) : Calls prog 79 #[.slice l0.a l0.len l0.cap, .int .i64 n1, .int .i64 n2, .int .i64 n3] w R :=
  plC F79_p func79 h
def F82_1 (R : Rt) (p0 : Option Addr) (s1 : ByteArray) (n2 : Int) (l3 : SV) (ds : Ds) (w : World) : Prop :=
 ∃ a1, l3.a = some a1 /\ 0 <= n2 /\ n2 < (l3.len : Int) /\
 ∃ b12, w.cell? ((a1.add (n2.toNat * 3)).add 1) = some (.bool b12) /\
 Br b12 (
 dwE w fun w2 =>
 ∃ S1 : World -> Prop, S1 w2 /\
 ptrE p0 fun a3 =>
 ∃ l16 : SV, (∀ w', S1 w' -> w'.cell? a3 = some (.slice l16.a l16.len l16.cap)) /\
 ∃ a4, l3.a = some a4 /\ 0 <= n2 /\ n2 < (l3.len : Int) /\
 ∃ n28, (∀ w', S1 w' -> w'.cell? ((a4.add (n2.toNat * 3)).add 2) = some (.int .u8 n28)) /\
 Calls prog 42 #[.pointer p0, .string s1] w2 fun e w5 =>
 ∃ n19 : Int, e = .returned (.int .i64 n19) /\
 S1 w5 /\
 ∃ a6, l16.a = some a6 /\ 0 <= n19 /\ n19 < (l16.len : Int) /\
 ∃ l22 : SV, (∀ w', S1 w' -> w'.cell? ((a6.add (n19.toNat * 2)).add 1) = some (.slice l22.a l22.len l22.cap)) /\
 ∃ a7, l22.a = some a7 /\ 0 <= n2 /\ n2 < (l22.len : Int) /\
 st1 (a7.add (n2.toNat * 1)) (.int .u8 n28) w5 fun w8 =>
 ∃ a9, l3.a = some a9 /\ 0 <= n2 /\ n2 < (l3.len : Int) /\
 st1 ((a9.add (n2.toNat * 3)).add 1) (.bool false) w8 fun w10 =>
 runD prog ds w10 fun w11 =>
 R (.returned (.tuple #[])) w11) (
 runD prog ds w fun w12 =>
 R (.returned (.tuple #[])) w12)
theorem F82_p : Pl prog f82 [pS 0, sS 1, iS 2, lS 3] F82_1 := fun R =>
  lf
theorem F82_calls (p0 : Option Addr) (s1 : ByteArray) (n2 : Int) (l3 : SV) (w : World) (R : Rt) (h : F82_1 R p0 s1 n2 l3 [] w) : Calls prog 82 #[.pointer p0, .string s1, .int .i64 n2, .slice l3.a l3.len l3.cap] w R :=
  plC F82_p func82 h
def F84_1 (R : Rt) (ds : Ds) (w : World) : Prop :=
 runD prog ds w fun w1 =>
 R (.returned (.bool false)) w1
def F84_2 (R : Rt) (J1 : (Int) -> World -> Prop) (l0 : SV) (n1 n5 : Int) (ds : Ds) (w : World) : Prop :=
 Br (decide (n5 < (IntKind.i64.wrap ((IntKind.i64.wrap (n1 + 1)) * 32)))) (
 Br (decide (n5 < (l0.len : Int))) (
 ∃ a2, l0.a = some a2 /\ 0 <= n5 /\ n5 < (l0.len : Int) /\
 ∃ b25, w.cell? (a2.add (n5.toNat * 3)) = some (.bool b25) /\
 Br b25 (
 runD prog ds w fun w3 =>
 R (.returned (.bool true)) w3) (
 J1 (IntKind.i64.wrap (n5 + 1)) w)) (
 F84_1 R ds w)) (
 F84_1 R ds w)
def F84_3 (R : Rt) (l0 : SV) (n1 n5 : Int) (ds : Ds) (w : World) : Prop :=
 loopT (fun (J1 : (Int) -> World -> Prop) (s : Int) (w : World) => F84_2 R J1 l0 n1 s ds w) n5 w
def F84_5 (R : Rt) (l0 : SV) (n1 : Int) (ds : Ds) (w : World) : Prop :=
 F84_3 R l0 n1 (IntKind.i64.wrap (n1 * 32)) ds w
theorem F84_p : Pl prog f84 [lS 0, iS 1] F84_5 := fun R =>
  pc 2 (rest [lS 0, iS 1, iS 5] (F84_3 R) (bk 0 (rest [] (F84_1 R) lf) (lp [iS 5] [lS 0, iS 1, iS 5] (F84_2 R) rnil fun J1 => lf)))
theorem F84_calls (l0 : SV) (n1 : Int) (w : World) (R : Rt) (h : F84_5 R l0 n1 [] w) : Calls prog 84 #[.slice l0.a l0.len l0.cap, .int .i64 n1] w R :=
  plC F84_p func84 h
def F86_1 (R : Rt) (p0 : Option Addr) (s1 : ByteArray) (l5 : SV) (b6 : Bool) (ds : Ds) (w : World) : Prop :=
 Br (!b6) (
 alE (.cells #[.string s1, .slice none 0 0] 80) w fun r64 w1 =>
 ∃ l65 : SV, ∃ w2, (Builtin.append_ #[68, 68] 68 #[.slice l5.a l5.len l5.cap, .slice (some ⟨r64, 0, none⟩) 1 1]).run prog w1 = .ok (.slice l65.a l65.len l65.cap) w2 /\
 ptrE p0 fun a3 =>
 st1 a3 (.slice l65.a l65.len l65.cap) w2 fun w4 =>
 runD prog ds w4 fun w5 =>
 R (.returned (.int .i64 0)) w5) (
 ptrE p0 fun a6 =>
 st1 a6 (.slice l5.a l5.len l5.cap) w fun w7 =>
 runD prog ds w7 fun w8 =>
 R (.returned (.int .i64 0)) w8)
def F86_2 (R : Rt) (J1 : (SV × Bool × Int) -> World -> Prop) (p0 : Option Addr) (s1 : ByteArray) (l5 : SV) (b6 : Bool) (n7 : Int) (ds : Ds) (w : World) : Prop :=
 ptrE p0 fun a9 =>
 ∃ l25 : SV, w.cell? a9 = some (.slice l25.a l25.len l25.cap) /\
 Br (decide (n7 < (l25.len : Int))) (
 Br (!b6) (
 ptrE p0 fun a10 =>
 ∃ l37 : SV, w.cell? a10 = some (.slice l37.a l37.len l37.cap) /\
 ∃ a11, l37.a = some a11 /\ 0 <= n7 /\ n7 < (l37.len : Int) /\
 ∃ s41, w.cell? (a11.add (n7.toNat * 2)) = some (.string s41) /\
 Br (Op.bytesLess s1.toList s41.toList) (
 alE (.cells #[.string s1, .slice none 0 0] 80) w fun r47 w12 =>
 ∃ l48 : SV, ∃ w13, (Builtin.append_ #[68, 68] 68 #[.slice l5.a l5.len l5.cap, .slice (some ⟨r47, 0, none⟩) 1 1]).run prog w12 = .ok (.slice l48.a l48.len l48.cap) w13 /\
 ptrE p0 fun a14 =>
 ∃ l53 : SV, w13.cell? a14 = some (.slice l53.a l53.len l53.cap) /\
 ∃ a15, l53.a = some a15 /\ 0 <= n7 /\ n7 < (l53.len : Int) /\
 ∃ s56_0, w13.cell? ((a15.add (n7.toNat * 2)).add 0) = some (.string s56_0) /\
 ∃ l56_1 : SV, w13.cell? ((a15.add (n7.toNat * 2)).add 1) = some (.slice l56_1.a l56_1.len l56_1.cap) /\
 alE (.cells #[.string s56_0, .slice l56_1.a l56_1.len l56_1.cap] 80) w13 fun r57 w16 =>
 ∃ l58 : SV, ∃ w17, (Builtin.append_ #[68, 68] 68 #[.slice l48.a l48.len l48.cap, .slice (some ⟨r57, 0, none⟩) 1 1]).run prog w16 = .ok (.slice l58.a l58.len l58.cap) w17 /\
 J1 (l58, true, (IntKind.i64.wrap (n7 + 1))) w17) (
 ptrE p0 fun a18 =>
 ∃ l53 : SV, w.cell? a18 = some (.slice l53.a l53.len l53.cap) /\
 ∃ a19, l53.a = some a19 /\ 0 <= n7 /\ n7 < (l53.len : Int) /\
 ∃ s56_0, w.cell? ((a19.add (n7.toNat * 2)).add 0) = some (.string s56_0) /\
 ∃ l56_1 : SV, w.cell? ((a19.add (n7.toNat * 2)).add 1) = some (.slice l56_1.a l56_1.len l56_1.cap) /\
 alE (.cells #[.string s56_0, .slice l56_1.a l56_1.len l56_1.cap] 80) w fun r57 w20 =>
 ∃ l58 : SV, ∃ w21, (Builtin.append_ #[68, 68] 68 #[.slice l5.a l5.len l5.cap, .slice (some ⟨r57, 0, none⟩) 1 1]).run prog w20 = .ok (.slice l58.a l58.len l58.cap) w21 /\
 J1 (l58, b6, (IntKind.i64.wrap (n7 + 1))) w21)) (
 ptrE p0 fun a22 =>
 ∃ l53 : SV, w.cell? a22 = some (.slice l53.a l53.len l53.cap) /\
 ∃ a23, l53.a = some a23 /\ 0 <= n7 /\ n7 < (l53.len : Int) /\
 ∃ s56_0, w.cell? ((a23.add (n7.toNat * 2)).add 0) = some (.string s56_0) /\
 ∃ l56_1 : SV, w.cell? ((a23.add (n7.toNat * 2)).add 1) = some (.slice l56_1.a l56_1.len l56_1.cap) /\
 alE (.cells #[.string s56_0, .slice l56_1.a l56_1.len l56_1.cap] 80) w fun r57 w24 =>
 ∃ l58 : SV, ∃ w25, (Builtin.append_ #[68, 68] 68 #[.slice l5.a l5.len l5.cap, .slice (some ⟨r57, 0, none⟩) 1 1]).run prog w24 = .ok (.slice l58.a l58.len l58.cap) w25 /\
 J1 (l58, b6, (IntKind.i64.wrap (n7 + 1))) w25)) (
 F86_1 R p0 s1 l5 b6 ds w)
def F86_3 (R : Rt) (p0 : Option Addr) (s1 : ByteArray) (l5 : SV) (b6 : Bool) (n7 : Int) (ds : Ds) (w : World) : Prop :=
 loopT (fun (J1 : (SV × Bool × Int) -> World -> Prop) (s : SV × Bool × Int) (w : World) => F86_2 R J1 p0 s1 s.1 s.2.1 s.2.2 ds w) (l5, b6, n7) w
def F86_5 (R : Rt) (p0 : Option Addr) (s1 : ByteArray) (ds : Ds) (w : World) : Prop :=
 Calls prog 92 #[.string s1] w fun e w26 =>
 ∃ b9 : Bool, e = .returned (.bool b9) /\
 Br (!b9) (
 runD prog ds w26 fun w27 =>
 R (.returned (.int .i64 1)) w27) (
 Calls prog 42 #[.pointer p0, .string s1] w26 fun e w28 =>
 ∃ n13 : Int, e = .returned (.int .i64 n13) /\
 Br (decide (n13 ≥ 0)) (
 runD prog ds w28 fun w29 =>
 R (.returned (.int .i64 5)) w29) (
 ptrE p0 fun a30 =>
 ∃ l18 : SV, w28.cell? a30 = some (.slice l18.a l18.len l18.cap) /\
 Br (decide ((l18.len : Int) ≥ 8)) (
 runD prog ds w28 fun w31 =>
 R (.returned (.int .i64 3)) w31) (
 F86_3 R p0 s1 ⟨none, 0, 0⟩ false 0 ds w28)))
theorem F86_p : Pl prog f86 [pS 0, sS 1] F86_5 := fun R =>
  pc 10 (rest [pS 0, sS 1, lS 5, bS 6, iS 7] (F86_3 R) (bk 0 (rest [pS 0, sS 1, lS 5, bS 6] (F86_1 R) lf) (lp [lS 5, bS 6, iS 7] [pS 0, sS 1, lS 5, bS 6, iS 7] (F86_2 R) rnil fun J1 => lf)))
theorem F86_calls (p0 : Option Addr) (s1 : ByteArray) (w : World) (R : Rt) (h : F86_5 R p0 s1 [] w) : Calls prog 86 #[.pointer p0, .string s1] w R :=
  plC F86_p func86 h
def F88_1 (R : Rt) (ds : Ds) (w : World) : Prop :=
 runD prog ds w fun w1 =>
 R (.returned (.int .i64 0)) w1
def F88_2 (R : Rt) (J1 : (Int) -> World -> Prop) (p0 : Option Addr) (s1 : ByteArray) (n8 : Int) (ds : Ds) (w : World) : Prop :=
 Br (decide (n8 < 4)) (
 ptrE p0 fun a2 =>
 0 <= n8 /\ n8 < (4 : Int) /\
 ∃ m64, w.cell? ((a2.add 1).add (n8.toNat * 1)) = some (.map m64) /\
 ∃ w3, (Builtin.delete_ #[69, 9] 0 #[.map m64, .string s1]).run prog w = .ok (.tuple #[]) w3 /\
 J1 (IntKind.i64.wrap (n8 + 1)) w3) (
 F88_1 R ds w)
def F88_3 (R : Rt) (p0 : Option Addr) (s1 : ByteArray) (n8 : Int) (ds : Ds) (w : World) : Prop :=
 loopT (fun (J1 : (Int) -> World -> Prop) (s : Int) (w : World) => F88_2 R J1 p0 s1 s ds w) n8 w
def F88_5 (R : Rt) (p0 : Option Addr) (s1 : ByteArray) (ds : Ds) (w : World) : Prop :=
 Calls prog 42 #[.pointer p0, .string s1] w fun e w4 =>
 ∃ n36 : Int, e = .returned (.int .i64 n36) /\
 dwE w4 fun w5 =>
 ∃ S1 : World -> Prop, S1 w5 /\
 ptrE p0 fun a6 =>
 ∃ l41 : SV, (∀ w', S1 w' -> w'.cell? a6 = some (.slice l41.a l41.len l41.cap)) /\
 0 <= n36 /\ n36.toNat <= l41.cap /\ 0 <= n36.toNat /\
 ptrE p0 fun a7 =>
 ∃ l48 : SV, (∀ w', S1 w' -> w'.cell? a7 = some (.slice l48.a l48.len l48.cap)) /\
 l48.len <= l48.cap /\ 0 <= (IntKind.i64.wrap (n36 + 1)) /\ (IntKind.i64.wrap (n36 + 1)).toNat <= l48.len /\
 ∃ l44 : SV, ∃ w8, (Builtin.append_ #[68, 68] 68 #[.slice none 0 0, .slice (if l41.cap = 0 then l41.a else l41.a.map (fun x => x.add (0 * 2))) (n36.toNat - 0) (l41.cap - 0)]).run prog w5 = .ok (.slice l44.a l44.len l44.cap) w8 /\
 S1 w8 /\
 ∃ l52 : SV, ∃ w9, (Builtin.append_ #[68, 68] 68 #[.slice l44.a l44.len l44.cap, .slice (if l48.cap = (IntKind.i64.wrap (n36 + 1)).toNat then l48.a else l48.a.map (fun x => x.add ((IntKind.i64.wrap (n36 + 1)).toNat * 2))) (l48.len - (IntKind.i64.wrap (n36 + 1)).toNat) (l48.cap - (IntKind.i64.wrap (n36 + 1)).toNat)]).run prog w8 = .ok (.slice l52.a l52.len l52.cap) w9 /\
 ptrE p0 fun a10 =>
 st1 a10 (.slice l52.a l52.len l52.cap) w9 fun w11 =>
 F88_3 R p0 s1 0 ds w11
def F88_6 (R : Rt) (J1 : (Int) -> World -> Prop) (p0 : Option Addr) (s1 : ByteArray) (n6 : Int) (ds : Ds) (w : World) : Prop :=
 ptrE p0 fun a12 =>
 ∃ l19 : SV, w.cell? (a12.add 5) = some (.slice l19.a l19.len l19.cap) /\
 Br (decide (n6 < (l19.len : Int))) (
 ptrE p0 fun a13 =>
 ∃ l27 : SV, w.cell? (a13.add 5) = some (.slice l27.a l27.len l27.cap) /\
 ∃ a14, l27.a = some a14 /\ 0 <= n6 /\ n6 < (l27.len : Int) /\
 ∃ s31, w.cell? ((a14.add (n6.toNat * 4)).add 1) = some (.string s31) /\
 Br (s31.toList == s1.toList) (
 runD prog ds w fun w15 =>
 R (.returned (.int .i64 12)) w15) (
 J1 (IntKind.i64.wrap (n6 + 1)) w)) (
 F88_5 R p0 s1 ds w)
def F88_7 (R : Rt) (p0 : Option Addr) (s1 : ByteArray) (n6 : Int) (ds : Ds) (w : World) : Prop :=
 loopT (fun (J1 : (Int) -> World -> Prop) (s : Int) (w : World) => F88_6 R J1 p0 s1 s ds w) n6 w
def F88_9 (R : Rt) (p0 : Option Addr) (s1 : ByteArray) (ds : Ds) (w : World) : Prop :=
 Calls prog 41 #[.pointer p0, .string s1] w fun e w16 =>
 ∃ n11 : Int, e = .returned (.int .i64 n11) /\
 Br (n11 != 0) (
 runD prog ds w16 fun w17 =>
 R (.returned (.int .i64 n11)) w17) (
 F88_7 R p0 s1 0 ds w16)
theorem F88_p : Pl prog f88 [pS 0, sS 1] F88_9 := fun R =>
  pc 5 (rest [pS 0, sS 1, iS 6] (F88_7 R) (bk 0 (rest [pS 0, sS 1] (F88_5 R) (pc 3 (rest [pS 0, sS 1, iS 8] (F88_3 R) (bk 2 (rest [] (F88_1 R) lf) (lp [iS 8] [pS 0, sS 1, iS 8] (F88_2 R) rnil fun J1 => lf))))) (lp [iS 6] [pS 0, sS 1, iS 6] (F88_6 R) rnil fun J1 => lf)))
theorem F88_calls (p0 : Option Addr) (s1 : ByteArray) (w : World) (R : Rt) (h : F88_9 R p0 s1 [] w) : Calls prog 88 #[.pointer p0, .string s1] w R :=
  plC F88_p func88 h
def F89_1 (R : Rt) (ds : Ds) (w : World) : Prop :=
 runD prog ds w fun w1 =>
 R (.returned (.int .i64 0)) w1
def F89_2 (R : Rt) (J1 : (Int) -> World -> Prop) (p0 : Option Addr) (s1 : ByteArray) (n2 n10 : Int) (ds : Ds) (w : World) : Prop :=
 Br (decide (n10 < 4)) (
 ptrE p0 fun a2 =>
 0 <= n10 /\ n10 < (4 : Int) /\
 ∃ m53, w.cell? ((a2.add 1).add (n10.toNat * 1)) = some (.map m53) /\
 ∃ l55 : SV, ∃ w3, (Instr.lookup 69 (.map m53) (.string s1) false).run prog w = .ok (.slice l55.a l55.len l55.cap) w3 /\
 Br (decide ((l55.len : Int) > n2)) (
 dwE w3 fun w4 =>
 ∃ S1 : World -> Prop, S1 w4 /\
 ptrE p0 fun a5 =>
 0 <= n10 /\ n10 < (4 : Int) /\
 ∃ m65, (∀ w', S1 w' -> w'.cell? ((a5.add 1).add (n10.toNat * 1)) = some (.map m65)) /\
 0 <= n2 /\ n2.toNat <= l55.cap /\ 0 <= n2.toNat /\
 ∃ l70 : SV, ∃ w6, (Builtin.append_ #[114, 114] 114 #[.slice none 0 0, .slice (if l55.cap = 0 then l55.a else l55.a.map (fun x => x.add (0 * 3))) (n2.toNat - 0) (l55.cap - 0)]).run prog w4 = .ok (.slice l70.a l70.len l70.cap) w6 /\
 S1 w6 /\
 doE prog (Instr.mapUpdate 69 (.map m65) (.string s1) (.slice l70.a l70.len l70.cap)) w6 fun w7 =>
 J1 (IntKind.i64.wrap (n10 + 1)) w7) (
 J1 (IntKind.i64.wrap (n10 + 1)) w3)) (
 F89_1 R ds w)
def F89_3 (R : Rt) (p0 : Option Addr) (s1 : ByteArray) (n2 n10 : Int) (ds : Ds) (w : World) : Prop :=
 loopT (fun (J1 : (Int) -> World -> Prop) (s : Int) (w : World) => F89_2 R J1 p0 s1 n2 s ds w) n10 w
def F89_5 (R : Rt) (p0 : Option Addr) (s1 : ByteArray) (n2 : Int) (ds : Ds) (w : World) : Prop :=
 Calls prog 41 #[.pointer p0, .string s1] w fun e w8 =>
 ∃ n14 : Int, e = .returned (.int .i64 n14) /\
 Br (n14 != 0) (
 runD prog ds w8 fun w9 =>
 R (.returned (.int .i64 n14)) w9) (
 Br (decide (n2 < 0)) (
 runD prog ds w8 fun w10 =>
 R (.returned (.int .i64 1)) w10) (
 Br (decide (n2 > 65536)) (
 runD prog ds w8 fun w11 =>
 R (.returned (.int .i64 1)) w11) (
 dwE w8 fun w12 =>
 ∃ S2 : World -> Prop, S2 w12 /\
 ptrE p0 fun a13 =>
 ∃ l27 : SV, (∀ w', S2 w' -> w'.cell? a13 = some (.slice l27.a l27.len l27.cap)) /\
 Calls prog 42 #[.pointer p0, .string s1] w12 fun e w14 =>
 ∃ n30 : Int, e = .returned (.int .i64 n30) /\
 S2 w14 /\
 ∃ a15, l27.a = some a15 /\ 0 <= n30 /\ n30 < (l27.len : Int) /\
 ∃ l33 : SV, ∃ w16, (Instr.makeSlice 36 (.int .i64 n2) (.int .i64 n2)).run prog w14 = .ok (.slice l33.a l33.len l33.cap) w16 /\
 ∃ l38 : SV, w16.cell? ((a15.add (n30.toNat * 2)).add 1) = some (.slice l38.a l38.len l38.cap) /\
 ∃ n39 : Int, ∃ w17, (Builtin.copy_ #[36, 36] 3 #[.slice l33.a l33.len l33.cap, .slice l38.a l38.len l38.cap]).run prog w16 = .ok (.int .i64 n39) w17 /\
 st1 ((a15.add (n30.toNat * 2)).add 1) (.slice l33.a l33.len l33.cap) w17 fun w18 =>
 F89_3 R p0 s1 n2 0 ds w18)))
theorem F89_p : Pl prog f89 [pS 0, sS 1, iS 2] F89_5 := fun R =>
  pc 11 (rest [pS 0, sS 1, iS 2, iS 10] (F89_3 R) (bk 0 (rest [] (F89_1 R) lf) (lp [iS 10] [pS 0, sS 1, iS 2, iS 10] (F89_2 R) rnil fun J1 => lf)))
theorem F89_calls (p0 : Option Addr) (s1 : ByteArray) (n2 : Int) (w : World) (R : Rt) (h : F89_5 R p0 s1 n2 [] w) : Calls prog 89 #[.pointer p0, .string s1, .int .i64 n2] w R :=
  plC F89_p func89 h
def F91_1 (R : Rt) (p0 : Option Addr) (s1 : ByteArray) (ds : Ds) (w : World) : Prop :=
 Calls prog 41 #[.pointer p0, .string s1] w fun e w1 =>
 ∃ n9 : Int, e = .returned (.int .i64 n9) /\
 Br (n9 != 0) (
 runD prog ds w1 fun w2 =>
 R (.returned (.tuple #[.slice none 0 0, .int .i64 n9])) w2) (
 dwE w1 fun w3 =>
 ∃ S1 : World -> Prop, S1 w3 /\
 ptrE p0 fun a4 =>
 ∃ l16 : SV, (∀ w', S1 w' -> w'.cell? a4 = some (.slice l16.a l16.len l16.cap)) /\
 Calls prog 42 #[.pointer p0, .string s1] w3 fun e w5 =>
 ∃ n19 : Int, e = .returned (.int .i64 n19) /\
 S1 w5 /\
 ∃ a6, l16.a = some a6 /\ 0 <= n19 /\ n19 < (l16.len : Int) /\
 ∃ l22 : SV, (∀ w', S1 w' -> w'.cell? ((a6.add (n19.toNat * 2)).add 1) = some (.slice l22.a l22.len l22.cap)) /\
 ∃ l23 : SV, ∃ w7, (Builtin.append_ #[36, 36] 36 #[.slice none 0 0, .slice l22.a l22.len l22.cap]).run prog w5 = .ok (.slice l23.a l23.len l23.cap) w7 /\
 runD prog ds w7 fun w8 =>
 R (.returned (.tuple #[.slice l23.a l23.len l23.cap, .int .i64 0])) w8)
theorem F91_p : Pl prog f91 [pS 0, sS 1] F91_1 := fun R =>
  lf
theorem F91_calls (p0 : Option Addr) (s1 : ByteArray) (w : World) (R : Rt) (h : F91_1 R p0 s1 [] w) : Calls prog 91 #[.pointer p0, .string s1] w R :=
  plC F91_p func91 h
def F92_1 (R : Rt) (ds : Ds) (w : World) : Prop :=
 runD prog ds w fun w1 =>
 R (.returned (.bool true)) w1
def F92_2 (R : Rt) (J1 : (Int) -> World -> Prop) (s0 : ByteArray) (n3 : Int) (ds : Ds) (w : World) : Prop :=
 J1 (IntKind.i64.wrap (n3 + 1)) w
def F92_3 (R : Rt) (J1 : (Int) -> World -> Prop) (s0 : ByteArray) (n3 : Int) (ds : Ds) (w : World) : Prop :=
 ∃ b21 : UInt8, 0 <= n3 /\ s0[n3.toNat]? = some b21 /\
 Br (decide ((b21.toNat : Int) ≥ 97)) (
 Br (decide ((b21.toNat : Int) <= 122)) (
 F92_2 R J1 s0 n3 ds w) (
 Br (decide ((b21.toNat : Int) ≥ 65)) (
 Br (decide ((b21.toNat : Int) <= 90)) (
 F92_2 R J1 s0 n3 ds w) (
 Calls prog 112 #[.int .u8 (b21.toNat : Int)] w fun e w2 =>
 ∃ b38 : Bool, e = .returned (.bool b38) /\
 Br b38 (
 F92_2 R J1 s0 n3 ds w2) (
 Br (!((b21.toNat : Int) == 46)) (
 runD prog ds w2 fun w3 =>
 R (.returned (.bool false)) w3) (
 F92_2 R J1 s0 n3 ds w2)))) (
 Calls prog 112 #[.int .u8 (b21.toNat : Int)] w fun e w4 =>
 ∃ b38 : Bool, e = .returned (.bool b38) /\
 Br b38 (
 F92_2 R J1 s0 n3 ds w4) (
 Br (!((b21.toNat : Int) == 46)) (
 runD prog ds w4 fun w5 =>
 R (.returned (.bool false)) w5) (
 F92_2 R J1 s0 n3 ds w4))))) (
 Br (decide ((b21.toNat : Int) ≥ 65)) (
 Br (decide ((b21.toNat : Int) <= 90)) (
 F92_2 R J1 s0 n3 ds w) (
 Calls prog 112 #[.int .u8 (b21.toNat : Int)] w fun e w6 =>
 ∃ b38 : Bool, e = .returned (.bool b38) /\
 Br b38 (
 F92_2 R J1 s0 n3 ds w6) (
 Br (!((b21.toNat : Int) == 46)) (
 runD prog ds w6 fun w7 =>
 R (.returned (.bool false)) w7) (
 F92_2 R J1 s0 n3 ds w6)))) (
 Calls prog 112 #[.int .u8 (b21.toNat : Int)] w fun e w8 =>
 ∃ b38 : Bool, e = .returned (.bool b38) /\
 Br b38 (
 F92_2 R J1 s0 n3 ds w8) (
 Br (!((b21.toNat : Int) == 46)) (
 runD prog ds w8 fun w9 =>
 R (.returned (.bool false)) w9) (
 F92_2 R J1 s0 n3 ds w8))))
def F92_4 (R : Rt) (J1 : (Int) -> World -> Prop) (s0 : ByteArray) (n3 : Int) (ds : Ds) (w : World) : Prop :=
 Br (decide (n3 < (s0.size : Int))) (
 F92_3 R J1 s0 n3 ds w) (
 F92_1 R ds w)
def F92_5 (R : Rt) (s0 : ByteArray) (n3 : Int) (ds : Ds) (w : World) : Prop :=
 loopT (fun (J1 : (Int) -> World -> Prop) (s : Int) (w : World) => F92_4 R J1 s0 s ds w) n3 w
def F92_7 (R : Rt) (s0 : ByteArray) (ds : Ds) (w : World) : Prop :=
 Br (decide ((s0.size : Int) < 1)) (
 runD prog ds w fun w10 =>
 R (.returned (.bool false)) w10) (
 Br (decide ((s0.size : Int) > 10)) (
 runD prog ds w fun w11 =>
 R (.returned (.bool false)) w11) (
 F92_5 R s0 0 ds w))
theorem F92_p : Pl prog f92 [sS 0] F92_7 := fun R =>
  pc 4 (rest [sS 0, iS 3] (F92_5 R) (bk 0 (rest [] (F92_1 R) lf) (lp [iS 3] [sS 0, iS 3] (F92_4 R) rnil fun J1 => pc 2 (rest [sS 0, iS 3] (F92_3 R J1) (pc 1 (rest [sS 0, iS 3] (F92_2 R J1) lf))))))
theorem F92_calls (s0 : ByteArray) (w : World) (R : Rt) (h : F92_7 R s0 [] w) : Calls prog 92 #[.string s0] w R :=
  plC F92_p func92 h
def F112_1 (R : Rt) (n0 : Int) (ds : Ds) (w : World) : Prop :=
 Br (decide (n0 ≥ 48)) (
 runD prog ds w fun w1 =>
 R (.returned (.bool (decide (n0 <= 57)))) w1) (
 runD prog ds w fun w2 =>
 R (.returned (.bool false)) w2)
theorem F112_p : Pl prog f112 [kS .u8 0] F112_1 := fun R =>
  lf
theorem F112_calls (n0 : Int) (w : World) (R : Rt) (h : F112_1 R n0 [] w) : Calls prog 112 #[.int .u8 n0] w R :=
  plC F112_p func112 h
def F39_1 (R : Rt) (ds : Ds) (w : World) : Prop :=
 runD prog ds w fun w1 =>
 R (.returned (.bool true)) w1
def F39_2 (R : Rt) (J1 : (Int) -> World -> Prop) (l0 l1 : SV) (n5 : Int) (ds : Ds) (w : World) : Prop :=
 Br (decide (n5 < (l0.len : Int))) (
 dwE w fun w2 =>
 ∃ a3, l0.a = some a3 /\ 0 <= n5 /\ n5 < (l0.len : Int) /\
 ∃ n20, w2.cell? (a3.add (n5.toNat * 1)) = some (.int .i64 n20) /\
 ∃ a4, l1.a = some a4 /\ 0 <= n5 /\ n5 < (l1.len : Int) /\
 ∃ n24, w2.cell? (a4.add (n5.toNat * 1)) = some (.int .i64 n24) /\
 Br (n20 != n24) (
 runD prog ds w2 fun w5 =>
 R (.returned (.bool false)) w5) (
 J1 (IntKind.i64.wrap (n5 + 1)) w2)) (
 F39_1 R ds w)
def F39_3 (R : Rt) (l0 l1 : SV) (n5 : Int) (ds : Ds) (w : World) : Prop :=
 loopT (fun (J1 : (Int) -> World -> Prop) (s : Int) (w : World) => F39_2 R J1 l0 l1 s ds w) n5 w
def F39_5 (R : Rt) (l0 l1 : SV) (ds : Ds) (w : World) : Prop :=
 Br ((l0.len : Int) != (l1.len : Int)) (
 runD prog ds w fun w6 =>
 R (.returned (.bool false)) w6) (
 F39_3 R l0 l1 0 ds w)
theorem F39_p : Pl prog f39 [lS 0, lS 1] F39_5 := fun R =>
  pc 4 (rest [lS 0, lS 1, iS 5] (F39_3 R) (bk 0 (rest [] (F39_1 R) lf) (lp [iS 5] [lS 0, lS 1, iS 5] (F39_2 R) rnil fun J1 => lf)))
theorem F39_calls (l0 l1 : SV) (w : World) (R : Rt) (h : F39_5 R l0 l1 [] w) : Calls prog 39 #[.slice l0.a l0.len l0.cap, .slice l1.a l1.len l1.cap] w R :=
  plC F39_p func39 h
end Go.Proofs.YtnigfiljenfgjaaGreat

/- Shallow texts of functions, printed by program, each checked by the kernel against the loaded code. No condition. -/
set_option maxRecDepth 100000
set_option linter.unusedVariables false
namespace Go.Proofs.YtnigfiljenfgjaaGreat
open Go.Sh Tryz
def F21_1 (R : Rt) (ds : Ds) (w : World) : Prop :=
 runD prog ds w fun w1 =>
 R (.returned (.bool true)) w1
def F21_2 (R : Rt) (J1 : (Int) -> World -> Prop) (l8 l9 : SV) (n10 : Int) (ds : Ds) (w : World) : Prop :=
 Br (decide (n10 < (l8.len : Int))) (
 dwE w fun w2 =>
 ∃ a3, l8.a = some a3 /\ 0 <= n10 /\ n10 < (l8.len : Int) /\
 ∃ n65_0, w2.cell? ((a3.add (n10.toNat * 4)).add 0) = some (.int .i64 n65_0) /\
 ∃ n65_1, w2.cell? ((a3.add (n10.toNat * 4)).add 1) = some (.int .i64 n65_1) /\
 ∃ n65_2, w2.cell? ((a3.add (n10.toNat * 4)).add 2) = some (.int .i64 n65_2) /\
 ∃ n65_3, w2.cell? ((a3.add (n10.toNat * 4)).add 3) = some (.int .i64 n65_3) /\
 ∃ a4, l9.a = some a4 /\ 0 <= n10 /\ n10 < (l9.len : Int) /\
 ∃ n69_0, w2.cell? ((a4.add (n10.toNat * 4)).add 0) = some (.int .i64 n69_0) /\
 ∃ n69_1, w2.cell? ((a4.add (n10.toNat * 4)).add 1) = some (.int .i64 n69_1) /\
 ∃ n69_2, w2.cell? ((a4.add (n10.toNat * 4)).add 2) = some (.int .i64 n69_2) /\
 ∃ n69_3, w2.cell? ((a4.add (n10.toNat * 4)).add 3) = some (.int .i64 n69_3) /\
 ∃ b70 : Bool, (∀ w, (eqS .neq 103 (.tmp 65) (.tmp 69) (.agg #[.int .i64 n65_0, .int .i64 n65_1, .int .i64 n65_2, .int .i64 n65_3]) (.agg #[.int .i64 n69_0, .int .i64 n69_1, .int .i64 n69_2, .int .i64 n69_3])).run prog w = .ok (.bool b70) w) /\
 Br b70 (
 runD prog ds w2 fun w5 =>
 R (.returned (.bool false)) w5) (
 J1 (IntKind.i64.wrap (n10 + 1)) w2)) (
 F21_1 R ds w)
def F21_3 (R : Rt) (l8 l9 : SV) (n10 : Int) (ds : Ds) (w : World) : Prop :=
 loopT (fun (J1 : (Int) -> World -> Prop) (s : Int) (w : World) => F21_2 R J1 l8 l9 s ds w) n10 w
def F21_5 (R : Rt) (p0 p1 : Option Addr) (ds : Ds) (w : World) : Prop :=
 Calls prog 18 #[.pointer p0] w fun e w6 =>
 ∃ l48 : SV, e = .returned (.slice l48.a l48.len l48.cap) /\
 Calls prog 65 #[.pointer p1] w6 fun e w7 =>
 ∃ l50 : SV, e = .returned (.slice l50.a l50.len l50.cap) /\
 Br ((l48.len : Int) != (l50.len : Int)) (
 runD prog ds w7 fun w8 =>
 R (.returned (.bool false)) w8) (
 F21_3 R l48 l50 0 ds w7)
def F21_6 (R : Rt) (J1 : (Int) -> World -> Prop) (p0 p1 : Option Addr) (l5 : SV) (n6 : Int) (ds : Ds) (w : World) : Prop :=
 J1 (IntKind.i64.wrap (n6 + 1)) w
def F21_7 (R : Rt) (J1 : (Int) -> World -> Prop) (p0 p1 : Option Addr) (l5 : SV) (n6 : Int) (ds : Ds) (w : World) : Prop :=
 ∃ a9, l5.a = some a9 /\ 0 <= n6 /\ n6 < (l5.len : Int) /\
 ∃ s43, w.cell? (a9.add (n6.toNat * 1)) = some (.string s43) /\
 Calls prog 40 #[.pointer p0, .pointer p1, .int .i64 4, .agg #[.int .i64 0, .int .i64 0, .int .i64 0, .int .i64 0, .string s43, .string (⟨#[]⟩ : ByteArray)]] w fun e w10 =>
 ∃ b45 : Bool, e = .returned (.bool b45) /\
 Br (!b45) (
 runD prog ds w10 fun w11 =>
 R (.returned (.bool false)) w11) (
 F21_6 R J1 p0 p1 l5 n6 ds w10)
def F21_8 (R : Rt) (J1 : (Int) -> World -> Prop) (J2 : (Int) -> World -> Prop) (p0 p1 : Option Addr) (l5 : SV) (n6 n7 : Int) (ds : Ds) (w : World) : Prop :=
 Br (decide (n7 < 4)) (
 ∃ a12, l5.a = some a12 /\ 0 <= n6 /\ n6 < (l5.len : Int) /\
 ∃ s34, w.cell? (a12.add (n6.toNat * 1)) = some (.string s34) /\
 Calls prog 11 #[.pointer p0, .pointer p1, .agg #[.int .i64 12, .int .i64 n7, .int .i64 0, .int .i64 0, .string s34, .string (⟨#[]⟩ : ByteArray)]] w fun e w13 =>
 ∃ b36 : Bool, e = .returned (.bool b36) /\
 Br (!b36) (
 runD prog ds w13 fun w14 =>
 R (.returned (.bool false)) w14) (
 J2 (IntKind.i64.wrap (n7 + 1)) w13)) (
 F21_7 R J1 p0 p1 l5 n6 ds w)
def F21_9 (R : Rt) (J1 : (Int) -> World -> Prop) (p0 p1 : Option Addr) (l5 : SV) (n6 n7 : Int) (ds : Ds) (w : World) : Prop :=
 loopT (fun (J2 : (Int) -> World -> Prop) (s : Int) (w : World) => F21_8 R J1 J2 p0 p1 l5 n6 s ds w) n7 w
def F21_11 (R : Rt) (J1 : (Int) -> World -> Prop) (p0 p1 : Option Addr) (l5 : SV) (n6 : Int) (ds : Ds) (w : World) : Prop :=
 F21_9 R J1 p0 p1 l5 n6 0 ds w
def F21_13 (R : Rt) (J1 : (Int) -> World -> Prop) (p0 p1 : Option Addr) (l5 : SV) (n6 : Int) (ds : Ds) (w : World) : Prop :=
 Br (decide (n6 < (l5.len : Int))) (
 F21_11 R J1 p0 p1 l5 n6 ds w) (
 F21_5 R p0 p1 ds w)
def F21_14 (R : Rt) (p0 p1 : Option Addr) (l5 : SV) (n6 : Int) (ds : Ds) (w : World) : Prop :=
 loopT (fun (J1 : (Int) -> World -> Prop) (s : Int) (w : World) => F21_13 R J1 p0 p1 l5 s ds w) n6 w
def F21_16 (R : Rt) (p0 p1 : Option Addr) (ds : Ds) (w : World) : Prop :=
 Calls prog 63 #[.pointer p1] w fun e w15 =>
 ∃ l12 : SV, e = .returned (.slice l12.a l12.len l12.cap) /\
 Calls prog 17 #[.pointer p0] w15 fun e w16 =>
 ∃ l14 : SV, e = .returned (.slice l14.a l14.len l14.cap) /\
 Calls prog 64 #[.slice l14.a l14.len l14.cap, .slice l12.a l12.len l12.cap] w16 fun e w17 =>
 ∃ b16 : Bool, e = .returned (.bool b16) /\
 Br (!b16) (
 runD prog ds w17 fun w18 =>
 R (.returned (.bool false)) w18) (
 F21_14 R p0 p1 l12 0 ds w17)
theorem F21_p : Pl prog f21 [pS 0, pS 1] F21_16 := fun R =>
  pc 5 (rest [pS 0, pS 1, lS 5, iS 6] (F21_14 R) (bk 0 (rest [pS 0, pS 1] (F21_5 R) (pc 4 (rest [lS 8, lS 9, iS 10] (F21_3 R) (bk 4 (rest [] (F21_1 R) lf) (lp [iS 10] [lS 8, lS 9, iS 10] (F21_2 R) rnil fun J1 => lf))))) (lp [iS 6] [pS 0, pS 1, lS 5, iS 6] (F21_13 R) rnil fun J1 => pc 2 (rest [pS 0, pS 1, lS 5, iS 6] (F21_11 R J1) (bk 1 (rest [pS 0, pS 1, lS 5, iS 6] (F21_6 R J1) lf) (pc 1 (rest [pS 0, pS 1, lS 5, iS 6, iS 7] (F21_9 R J1) (bk 2 (rest [pS 0, pS 1, lS 5, iS 6] (F21_7 R J1) lf) (lp [iS 7] [pS 0, pS 1, lS 5, iS 6, iS 7] (F21_8 R J1) rnil fun J2 => lf)))))))))
theorem F21_calls (p0 p1 : Option Addr) (w : World) (R : Rt) (h : F21_16 R p0 p1 [] w) : Calls prog 21 #[.pointer p0, .pointer p1] w R :=
  plC F21_p func21 h
def F17_1 (R : Rt) (p0 : Option Addr) (ds : Ds) (w : World) : Prop :=
 ∃ b4 : Bool, ∃ w1, (eqS .eql 25 (.tmp 3) (.const (.pointer none)) (.pointer p0) (.pointer none)).run prog w = .ok (.bool b4) w1 /\
 Br b4 (
 runD prog ds w1 fun w2 =>
 R (.returned (.slice none 0 0)) w2) (
 ptrE p0 fun a3 =>
 Calls prog 46 #[.pointer (some a3)] w1 fun e w4 =>
 e = .returned (.tuple #[]) /\
 ptrE p0 fun a5 =>
 ptrE p0 fun a6 =>
 ∃ m15, w4.cell? (a6.add 2) = some (.map m15) /\
 Calls prog 52 #[.map m15] w4 fun e w7 =>
 ∃ v16 : Value, e = .returned (v16) /\
 Calls prog 51 #[v16] w7 fun e w8 =>
 ∃ l17 : SV, e = .returned (.slice l17.a l17.len l17.cap) /\
 runD prog ({ target := .fn (.func 47) #[], args := #[.pointer (some a5)] } :: ds) w8 fun w9 =>
 R (.returned (.slice l17.a l17.len l17.cap)) w9)
theorem F17_p : Pl prog f17 [pS 0] F17_1 := fun R =>
  lf
theorem F17_calls (p0 : Option Addr) (w : World) (R : Rt) (h : F17_1 R p0 [] w) : Calls prog 17 #[.pointer p0] w R :=
  plC F17_p func17 h
def F18_1 (R : Rt) (l4 : SV) (ds : Ds) (w : World) : Prop :=
 Calls prog 54 #[.slice l4.a l4.len l4.cap, .func (.func 55) #[] #[]] w fun e w1 =>
 e = .returned (.tuple #[]) /\
 runD prog ds w1 fun w2 =>
 R (.returned (.slice l4.a l4.len l4.cap)) w2
def F18_2 (R : Rt) (J1 : (SV × Int) -> World -> Prop) (l3 l4 l21 : SV) (n22 n23 : Int) (ds : Ds) (w : World) : Prop :=
 Br (decide (n23 < n22)) (
 ∃ a3, l21.a = some a3 /\ 0 <= n23 /\ n23 < (l21.len : Int) /\
 ∃ n26_0, w.cell? ((a3.add (n23.toNat * 4)).add 0) = some (.int .i64 n26_0) /\
 ∃ s26_1, w.cell? ((a3.add (n23.toNat * 4)).add 1) = some (.string s26_1) /\
 ∃ n26_2, w.cell? ((a3.add (n23.toNat * 4)).add 2) = some (.int .i64 n26_2) /\
 ∃ n26_3, w.cell? ((a3.add (n23.toNat * 4)).add 3) = some (.int .i64 n26_3) /\
 alE (.cells #[.int .i64 0, .string (⟨#[]⟩ : ByteArray), .int .i64 0, .int .i64 0] 95) w fun r6 w4 =>
 stA prog 95 (⟨r6, 0, none⟩ : Addr) #[.int .i64 n26_0, .string s26_1, .int .i64 n26_2, .int .i64 n26_3] w4 fun w5 =>
 dwE w5 fun w6 =>
 ∃ S1 : World -> Prop, S1 w6 /\
 ∃ n29, (∀ w', S1 w' -> w'.cell? (⟨r6, 0, none⟩ : Addr) = some (.int .i64 n29)) /\
 ∃ s32, (∀ w', S1 w' -> w'.cell? ((⟨r6, 0, none⟩ : Addr).add 1) = some (.string s32)) /\
 ∃ n35, (∀ w', S1 w' -> w'.cell? ((⟨r6, 0, none⟩ : Addr).add 2) = some (.int .i64 n35)) /\
 ∃ n37, (∀ w', S1 w' -> w'.cell? ((⟨r6, 0, none⟩ : Addr).add 3) = some (.int .i64 n37)) /\
 Calls prog 53 #[.slice l3.a l3.len l3.cap, .string s32] w6 fun e w7 =>
 ∃ n33 : Int, e = .returned (.int .i64 n33) /\
 S1 w7 /\
 alE (.cells #[.int .i64 n29, .int .i64 n33, .int .i64 n35, .int .i64 n37] 103) w7 fun r39 w8 =>
 ∃ l40 : SV, ∃ w9, (Builtin.append_ #[44, 44] 44 #[.slice l4.a l4.len l4.cap, .slice (some ⟨r39, 0, none⟩) 1 1]).run prog w8 = .ok (.slice l40.a l40.len l40.cap) w9 /\
 J1 (l40, (IntKind.i64.wrap (n23 + 1))) w9) (
 F18_1 R l4 ds w)
def F18_3 (R : Rt) (l3 l4 l21 : SV) (n22 n23 : Int) (ds : Ds) (w : World) : Prop :=
 loopT (fun (J1 : (SV × Int) -> World -> Prop) (s : SV × Int) (w : World) => F18_2 R J1 l3 s.1 l21 n22 s.2 ds w) (l4, n23) w
def F18_5 (R : Rt) (p0 : Option Addr) (ds : Ds) (w : World) : Prop :=
 Calls prog 17 #[.pointer p0] w fun e w10 =>
 ∃ l8 : SV, e = .returned (.slice l8.a l8.len l8.cap) /\
 ∃ b10 : Bool, ∃ w11, (eqS .eql 25 (.tmp 9) (.const (.pointer none)) (.pointer p0) (.pointer none)).run prog w10 = .ok (.bool b10) w11 /\
 Br b10 (
 runD prog ds w11 fun w12 =>
 R (.returned (.slice none 0 0)) w12) (
 ptrE p0 fun a13 =>
 Calls prog 46 #[.pointer (some a13)] w11 fun e w14 =>
 e = .returned (.tuple #[]) /\
 ptrE p0 fun a15 =>
 ptrE p0 fun a16 =>
 ∃ l21 : SV, w14.cell? (a16.add 7) = some (.slice l21.a l21.len l21.cap) /\
 F18_3 R l8 ⟨none, 0, 0⟩ l21 (l21.len : Int) 0 ({ target := .fn (.func 47) #[], args := #[.pointer (some a15)] } :: ds) w14)
theorem F18_p : Pl prog f18 [pS 0] F18_5 := fun R =>
  pc 8 (rest [lS 3, lS 4, lS 21, iS 22, iS 23] (F18_3 R) (bk 0 (rest [lS 4] (F18_1 R) lf) (lp [lS 4, iS 23] [lS 3, lS 4, lS 21, iS 22, iS 23] (F18_2 R) rnil fun J1 => lf)))
theorem F18_calls (p0 : Option Addr) (w : World) (R : Rt) (h : F18_5 R p0 [] w) : Calls prog 18 #[.pointer p0] w R :=
  plC F18_p func18 h
def F55_1 (R : Rt) (n0_0 n0_1 n0_2 n0_3 n1_0 n1_1 n1_2 n1_3 : Int) (ds : Ds) (w : World) : Prop :=
 alE (.cells #[.int .i64 n0_0, .int .i64 n0_1, .int .i64 n0_2, .int .i64 n0_3] 103) w fun r2 w1 =>
 alE (.cells #[.int .i64 n1_0, .int .i64 n1_1, .int .i64 n1_2, .int .i64 n1_3] 103) w1 fun r3 w2 =>
 dwE w2 fun w3 =>
 4 <= 4 /\ 0 <= 4 /\
 4 <= 4 /\ 0 <= 4 /\
 Calls prog 56 #[.slice (some (if 4 = 0 then (⟨r2, 0, none⟩ : Addr) else (⟨r2, 0, none⟩ : Addr).add (0 * 1))) (4 - 0) (4 - 0), .slice (some (if 4 = 0 then (⟨r3, 0, none⟩ : Addr) else (⟨r3, 0, none⟩ : Addr).add (0 * 1))) (4 - 0) (4 - 0)] w3 fun e w4 =>
 ∃ n7 : Int, e = .returned (.int .i64 n7) /\
 runD prog ds w4 fun w5 =>
 R (.returned (.int .i64 n7)) w5
theorem F55_p : Pl prog f55 [aS 0 [.int .i64, .int .i64, .int .i64, .int .i64], aS 1 [.int .i64, .int .i64, .int .i64, .int .i64]] F55_1 := fun R =>
  lf
theorem F55_calls (n0_0 n0_1 n0_2 n0_3 n1_0 n1_1 n1_2 n1_3 : Int) (w : World) (R : Rt) (h : F55_1 R n0_0 n0_1 n0_2 n0_3 n1_0 n1_1 n1_2 n1_3 [] w) : Calls prog 55 #[.agg #[.int .i64 n0_0, .int .i64 n0_1, .int .i64 n0_2, .int .i64 n0_3], .agg #[.int .i64 n1_0, .int .i64 n1_1, .int .i64 n1_2, .int .i64 n1_3]] w R :=
  plC F55_p func55 h
def F56_1 (R : Rt) (l0 l1 : SV) (ds : Ds) (w : World) : Prop :=
 Br (decide ((l0.len : Int) < (l1.len : Int))) (
 runD prog ds w fun w1 =>
 R (.returned (.int .i64 (-1))) w1) (
 runD prog ds w fun w2 =>
 R (.returned (.int .i64 0)) w2)
def F56_2 (R : Rt) (J1 : (Int) -> World -> Prop) (l0 l1 l9 : SV) (n10 n11 : Int) (ds : Ds) (w : World) : Prop :=
 Br (decide (n11 < n10)) (
 ∃ a3, l9.a = some a3 /\ 0 <= n11 /\ n11 < (l9.len : Int) /\
 ∃ n15, w.cell? (a3.add (n11.toNat * 1)) = some (.int .i64 n15) /\
 Br (decide (n11 ≥ (l1.len : Int))) (
 runD prog ds w fun w4 =>
 R (.returned (.int .i64 1)) w4) (
 ∃ a5, l1.a = some a5 /\ 0 <= n11 /\ n11 < (l1.len : Int) /\
 ∃ n23, w.cell? (a5.add (n11.toNat * 1)) = some (.int .i64 n23) /\
 Calls prog 104 #[.int .i64 n15, .int .i64 n23] w fun e w6 =>
 ∃ n26 : Int, e = .returned (.int .i64 n26) /\
 Br (n26 != 0) (
 runD prog ds w6 fun w7 =>
 R (.returned (.int .i64 n26)) w7) (
 J1 (IntKind.i64.wrap (n11 + 1)) w6))) (
 F56_1 R l0 l1 ds w)
def F56_3 (R : Rt) (l0 l1 l9 : SV) (n10 n11 : Int) (ds : Ds) (w : World) : Prop :=
 loopT (fun (J1 : (Int) -> World -> Prop) (s : Int) (w : World) => F56_2 R J1 l0 l1 l9 n10 s ds w) n11 w
def F56_5 (R : Rt) (l0 l1 : SV) (ds : Ds) (w : World) : Prop :=
 F56_3 R l0 l1 l0 (l0.len : Int) 0 ds w
theorem F56_p : Pl prog f56 [lS 0, lS 1] F56_5 := fun R =>
  pc 2 (rest [lS 0, lS 1, lS 9, iS 10, iS 11] (F56_3 R) (bk 0 (rest [lS 0, lS 1] (F56_1 R) lf) (lp [iS 11] [lS 0, lS 1, lS 9, iS 10, iS 11] (F56_2 R) rnil fun J1 => lf)))
theorem F56_calls (l0 l1 : SV) (w : World) (R : Rt) (h : F56_5 R l0 l1 [] w) : Calls prog 56 #[.slice l0.a l0.len l0.cap, .slice l1.a l1.len l1.cap] w R :=
  plC F56_p func56 h
def F63_1 (R : Rt) (l3 : SV) (ds : Ds) (w : World) : Prop :=
 runD prog ds w fun w1 =>
 R (.returned (.slice l3.a l3.len l3.cap)) w1
def F63_2 (R : Rt) (J1 : (SV × Int) -> World -> Prop) (p0 : Option Addr) (l3 : SV) (n4 : Int) (ds : Ds) (w : World) : Prop :=
 ptrE p0 fun a2 =>
 ∃ l9 : SV, w.cell? a2 = some (.slice l9.a l9.len l9.cap) /\
 Br (decide (n4 < (l9.len : Int))) (
 ptrE p0 fun a3 =>
 ∃ l18 : SV, w.cell? a3 = some (.slice l18.a l18.len l18.cap) /\
 ∃ a4, l18.a = some a4 /\ 0 <= n4 /\ n4 < (l18.len : Int) /\
 ∃ s22, w.cell? (a4.add (n4.toNat * 2)) = some (.string s22) /\
 alE (.cells #[.string s22] 9) w fun r23 w5 =>
 ∃ l24 : SV, ∃ w6, (Builtin.append_ #[42, 42] 42 #[.slice l3.a l3.len l3.cap, .slice (some ⟨r23, 0, none⟩) 1 1]).run prog w5 = .ok (.slice l24.a l24.len l24.cap) w6 /\
 J1 (l24, (IntKind.i64.wrap (n4 + 1))) w6) (
 F63_1 R l3 ds w)
def F63_3 (R : Rt) (p0 : Option Addr) (l3 : SV) (n4 : Int) (ds : Ds) (w : World) : Prop :=
 loopT (fun (J1 : (SV × Int) -> World -> Prop) (s : SV × Int) (w : World) => F63_2 R J1 p0 s.1 s.2 ds w) (l3, n4) w
def F63_5 (R : Rt) (p0 : Option Addr) (ds : Ds) (w : World) : Prop :=
 F63_3 R p0 ⟨none, 0, 0⟩ 0 ds w
theorem F63_p : Pl prog f63 [pS 0] F63_5 := fun R =>
  pc 3 (rest [pS 0, lS 3, iS 4] (F63_3 R) (bk 0 (rest [lS 3] (F63_1 R) lf) (lp [lS 3, iS 4] [pS 0, lS 3, iS 4] (F63_2 R) rnil fun J1 => lf)))
theorem F63_calls (p0 : Option Addr) (w : World) (R : Rt) (h : F63_5 R p0 [] w) : Calls prog 63 #[.pointer p0] w R :=
  plC F63_p func63 h
def F64_1 (R : Rt) (ds : Ds) (w : World) : Prop :=
 runD prog ds w fun w1 =>
 R (.returned (.bool true)) w1
def F64_2 (R : Rt) (J1 : (Int) -> World -> Prop) (l0 l1 : SV) (n5 : Int) (ds : Ds) (w : World) : Prop :=
 Br (decide (n5 < (l0.len : Int))) (
 dwE w fun w2 =>
 ∃ a3, l0.a = some a3 /\ 0 <= n5 /\ n5 < (l0.len : Int) /\
 ∃ s20, w2.cell? (a3.add (n5.toNat * 1)) = some (.string s20) /\
 ∃ a4, l1.a = some a4 /\ 0 <= n5 /\ n5 < (l1.len : Int) /\
 ∃ s24, w2.cell? (a4.add (n5.toNat * 1)) = some (.string s24) /\
 Br (!(s20.toList == s24.toList)) (
 runD prog ds w2 fun w5 =>
 R (.returned (.bool false)) w5) (
 J1 (IntKind.i64.wrap (n5 + 1)) w2)) (
 F64_1 R ds w)
def F64_3 (R : Rt) (l0 l1 : SV) (n5 : Int) (ds : Ds) (w : World) : Prop :=
 loopT (fun (J1 : (Int) -> World -> Prop) (s : Int) (w : World) => F64_2 R J1 l0 l1 s ds w) n5 w
def F64_5 (R : Rt) (l0 l1 : SV) (ds : Ds) (w : World) : Prop :=
 Br ((l0.len : Int) != (l1.len : Int)) (
 runD prog ds w fun w6 =>
 R (.returned (.bool false)) w6) (
 F64_3 R l0 l1 0 ds w)
theorem F64_p : Pl prog f64 [lS 0, lS 1] F64_5 := fun R =>
  pc 4 (rest [lS 0, lS 1, iS 5] (F64_3 R) (bk 0 (rest [] (F64_1 R) lf) (lp [iS 5] [lS 0, lS 1, iS 5] (F64_2 R) rnil fun J1 => lf)))
theorem F64_calls (l0 l1 : SV) (w : World) (R : Rt) (h : F64_5 R l0 l1 [] w) : Calls prog 64 #[.slice l0.a l0.len l0.cap, .slice l1.a l1.len l1.cap] w R :=
  plC F64_p func64 h
def F65_1 (R : Rt) (l3 : SV) (ds : Ds) (w : World) : Prop :=
 runD prog ds w fun w1 =>
 R (.returned (.slice l3.a l3.len l3.cap)) w1
def F65_2 (R : Rt) (J1 : (SV × Int) -> World -> Prop) (p0 : Option Addr) (l3 : SV) (n4 : Int) (ds : Ds) (w : World) : Prop :=
 J1 (l3, (IntKind.i64.wrap (n4 + 1))) w
def F65_3 (R : Rt) (J1 : (SV × Int) -> World -> Prop) (J2 : (Int) -> World -> Prop) (p0 : Option Addr) (l3 : SV) (n4 n6 : Int) (ds : Ds) (w : World) : Prop :=
 dwE w fun w2 =>
 Br (decide (n6 > 0)) (
 ∃ a3, l3.a = some a3 /\ 0 <= n6 /\ n6 < (l3.len : Int) /\
 ∃ n46_0, w2.cell? ((a3.add (n6.toNat * 4)).add 0) = some (.int .i64 n46_0) /\
 ∃ n46_1, w2.cell? ((a3.add (n6.toNat * 4)).add 1) = some (.int .i64 n46_1) /\
 ∃ n46_2, w2.cell? ((a3.add (n6.toNat * 4)).add 2) = some (.int .i64 n46_2) /\
 ∃ n46_3, w2.cell? ((a3.add (n6.toNat * 4)).add 3) = some (.int .i64 n46_3) /\
 ∃ a4, l3.a = some a4 /\ 0 <= (IntKind.i64.wrap (n6 - 1)) /\ (IntKind.i64.wrap (n6 - 1)) < (l3.len : Int) /\
 ∃ n51_0, w2.cell? ((a4.add ((IntKind.i64.wrap (n6 - 1)).toNat * 4)).add 0) = some (.int .i64 n51_0) /\
 ∃ n51_1, w2.cell? ((a4.add ((IntKind.i64.wrap (n6 - 1)).toNat * 4)).add 1) = some (.int .i64 n51_1) /\
 ∃ n51_2, w2.cell? ((a4.add ((IntKind.i64.wrap (n6 - 1)).toNat * 4)).add 2) = some (.int .i64 n51_2) /\
 ∃ n51_3, w2.cell? ((a4.add ((IntKind.i64.wrap (n6 - 1)).toNat * 4)).add 3) = some (.int .i64 n51_3) /\
 Calls prog 106 #[.agg #[.int .i64 n46_0, .int .i64 n46_1, .int .i64 n46_2, .int .i64 n46_3], .agg #[.int .i64 n51_0, .int .i64 n51_1, .int .i64 n51_2, .int .i64 n51_3]] w2 fun e w5 =>
 ∃ b52 : Bool, e = .returned (.bool b52) /\
 Br b52 (
 dwE w5 fun w6 =>
 ∃ a7, l3.a = some a7 /\ 0 <= (IntKind.i64.wrap (n6 - 1)) /\ (IntKind.i64.wrap (n6 - 1)) < (l3.len : Int) /\
 ∃ n65_0, w6.cell? ((a7.add ((IntKind.i64.wrap (n6 - 1)).toNat * 4)).add 0) = some (.int .i64 n65_0) /\
 ∃ n65_1, w6.cell? ((a7.add ((IntKind.i64.wrap (n6 - 1)).toNat * 4)).add 1) = some (.int .i64 n65_1) /\
 ∃ n65_2, w6.cell? ((a7.add ((IntKind.i64.wrap (n6 - 1)).toNat * 4)).add 2) = some (.int .i64 n65_2) /\
 ∃ n65_3, w6.cell? ((a7.add ((IntKind.i64.wrap (n6 - 1)).toNat * 4)).add 3) = some (.int .i64 n65_3) /\
 ∃ a8, l3.a = some a8 /\ 0 <= n6 /\ n6 < (l3.len : Int) /\
 ∃ n69_0, w6.cell? ((a8.add (n6.toNat * 4)).add 0) = some (.int .i64 n69_0) /\
 ∃ n69_1, w6.cell? ((a8.add (n6.toNat * 4)).add 1) = some (.int .i64 n69_1) /\
 ∃ n69_2, w6.cell? ((a8.add (n6.toNat * 4)).add 2) = some (.int .i64 n69_2) /\
 ∃ n69_3, w6.cell? ((a8.add (n6.toNat * 4)).add 3) = some (.int .i64 n69_3) /\
 ∃ a9, l3.a = some a9 /\ 0 <= n6 /\ n6 < (l3.len : Int) /\
 stA prog 103 (a9.add (n6.toNat * 4)) #[.int .i64 n65_0, .int .i64 n65_1, .int .i64 n65_2, .int .i64 n65_3] w6 fun w10 =>
 ∃ a11, l3.a = some a11 /\ 0 <= (IntKind.i64.wrap (n6 - 1)) /\ (IntKind.i64.wrap (n6 - 1)) < (l3.len : Int) /\
 stA prog 103 (a11.add ((IntKind.i64.wrap (n6 - 1)).toNat * 4)) #[.int .i64 n69_0, .int .i64 n69_1, .int .i64 n69_2, .int .i64 n69_3] w10 fun w12 =>
 J2 (IntKind.i64.wrap (n6 - 1)) w12) (
 F65_2 R J1 p0 l3 n4 ds w5)) (
 F65_2 R J1 p0 l3 n4 ds w2)
def F65_4 (R : Rt) (J1 : (SV × Int) -> World -> Prop) (p0 : Option Addr) (l3 : SV) (n4 n6 : Int) (ds : Ds) (w : World) : Prop :=
 loopT (fun (J2 : (Int) -> World -> Prop) (s : Int) (w : World) => F65_3 R J1 J2 p0 l3 n4 s ds w) n6 w
def F65_6 (R : Rt) (J1 : (SV × Int) -> World -> Prop) (p0 : Option Addr) (l3 : SV) (n4 : Int) (ds : Ds) (w : World) : Prop :=
 ptrE p0 fun a13 =>
 ∃ l19 : SV, w.cell? (a13.add 5) = some (.slice l19.a l19.len l19.cap) /\
 ∃ a14, l19.a = some a14 /\ 0 <= n4 /\ n4 < (l19.len : Int) /\
 ∃ n22_0, w.cell? ((a14.add (n4.toNat * 4)).add 0) = some (.int .i64 n22_0) /\
 ∃ s22_1, w.cell? ((a14.add (n4.toNat * 4)).add 1) = some (.string s22_1) /\
 ∃ n22_2, w.cell? ((a14.add (n4.toNat * 4)).add 2) = some (.int .i64 n22_2) /\
 ∃ n22_3, w.cell? ((a14.add (n4.toNat * 4)).add 3) = some (.int .i64 n22_3) /\
 alE (.cells #[.int .i64 0, .string (⟨#[]⟩ : ByteArray), .int .i64 0, .int .i64 0] 127) w fun r5 w15 =>
 stA prog 127 (⟨r5, 0, none⟩ : Addr) #[.int .i64 n22_0, .string s22_1, .int .i64 n22_2, .int .i64 n22_3] w15 fun w16 =>
 dwE w16 fun w17 =>
 ∃ S3 : World -> Prop, S3 w17 /\
 ∃ n25, (∀ w', S3 w' -> w'.cell? (⟨r5, 0, none⟩ : Addr) = some (.int .i64 n25)) /\
 ∃ s28, (∀ w', S3 w' -> w'.cell? ((⟨r5, 0, none⟩ : Addr).add 1) = some (.string s28)) /\
 ∃ n31, (∀ w', S3 w' -> w'.cell? ((⟨r5, 0, none⟩ : Addr).add 2) = some (.int .i64 n31)) /\
 ∃ n33, (∀ w', S3 w' -> w'.cell? ((⟨r5, 0, none⟩ : Addr).add 3) = some (.int .i64 n33)) /\
 Calls prog 42 #[.pointer p0, .string s28] w17 fun e w18 =>
 ∃ n29 : Int, e = .returned (.int .i64 n29) /\
 S3 w18 /\
 alE (.cells #[.int .i64 n25, .int .i64 n29, .int .i64 n31, .int .i64 n33] 103) w18 fun r35 w19 =>
 ∃ l36 : SV, ∃ w20, (Builtin.append_ #[44, 44] 44 #[.slice l3.a l3.len l3.cap, .slice (some ⟨r35, 0, none⟩) 1 1]).run prog w19 = .ok (.slice l36.a l36.len l36.cap) w20 /\
 F65_4 R J1 p0 l36 n4 (IntKind.i64.wrap ((l36.len : Int) - 1)) ds w20
def F65_8 (R : Rt) (J1 : (SV × Int) -> World -> Prop) (p0 : Option Addr) (l3 : SV) (n4 : Int) (ds : Ds) (w : World) : Prop :=
 ptrE p0 fun a21 =>
 ∃ l11 : SV, w.cell? (a21.add 5) = some (.slice l11.a l11.len l11.cap) /\
 Br (decide (n4 < (l11.len : Int))) (
 F65_6 R J1 p0 l3 n4 ds w) (
 F65_1 R l3 ds w)
def F65_9 (R : Rt) (p0 : Option Addr) (l3 : SV) (n4 : Int) (ds : Ds) (w : World) : Prop :=
 loopT (fun (J1 : (SV × Int) -> World -> Prop) (s : SV × Int) (w : World) => F65_8 R J1 p0 s.1 s.2 ds w) (l3, n4) w
def F65_11 (R : Rt) (p0 : Option Addr) (ds : Ds) (w : World) : Prop :=
 F65_9 R p0 ⟨none, 0, 0⟩ 0 ds w
theorem F65_p : Pl prog f65 [pS 0] F65_11 := fun R =>
  pc 3 (rest [pS 0, lS 3, iS 4] (F65_9 R) (bk 0 (rest [lS 3] (F65_1 R) lf) (lp [lS 3, iS 4] [pS 0, lS 3, iS 4] (F65_8 R) rnil fun J1 => pc 2 (rest [pS 0, lS 3, iS 4] (F65_6 R J1) (bk 1 (rest [pS 0, lS 3, iS 4] (F65_2 R J1) lf) (pc 3 (rest [pS 0, lS 3, iS 4, iS 6] (F65_4 R J1) (bk 2 rnil (lp [iS 6] [pS 0, lS 3, iS 4, iS 6] (F65_3 R J1) rnil fun J2 => lf)))))))))
theorem F65_calls (p0 : Option Addr) (w : World) (R : Rt) (h : F65_11 R p0 [] w) : Calls prog 65 #[.pointer p0] w R :=
  plC F65_p func65 h
def F106_1 (R : Rt) (ds : Ds) (w : World) : Prop :=
 runD prog ds w fun w1 =>
 R (.returned (.bool false)) w1
def F106_2 (R : Rt) (J1 : (Int) -> World -> Prop) (p2 p3 : Option Addr) (n5 : Int) (ds : Ds) (w : World) : Prop :=
 Br (decide (n5 < 4)) (
 dwE w fun w2 =>
 ptrE p2 fun a3 =>
 0 <= n5 /\ n5 < (4 : Int) /\
 ∃ n12, w2.cell? (a3.add (n5.toNat * 1)) = some (.int .i64 n12) /\
 ptrE p3 fun a4 =>
 0 <= n5 /\ n5 < (4 : Int) /\
 ∃ n15, w2.cell? (a4.add (n5.toNat * 1)) = some (.int .i64 n15) /\
 Br (n12 != n15) (
 dwE w2 fun w5 =>
 ptrE p2 fun a6 =>
 0 <= n5 /\ n5 < (4 : Int) /\
 ∃ n19, w5.cell? (a6.add (n5.toNat * 1)) = some (.int .i64 n19) /\
 ptrE p3 fun a7 =>
 0 <= n5 /\ n5 < (4 : Int) /\
 ∃ n22, w5.cell? (a7.add (n5.toNat * 1)) = some (.int .i64 n22) /\
 runD prog ds w5 fun w8 =>
 R (.returned (.bool (decide (n19 < n22)))) w8) (
 J1 (IntKind.i64.wrap (n5 + 1)) w2)) (
 F106_1 R ds w)
def F106_3 (R : Rt) (p2 p3 : Option Addr) (n5 : Int) (ds : Ds) (w : World) : Prop :=
 loopT (fun (J1 : (Int) -> World -> Prop) (s : Int) (w : World) => F106_2 R J1 p2 p3 s ds w) n5 w
def F106_5 (R : Rt) (n0_0 n0_1 n0_2 n0_3 n1_0 n1_1 n1_2 n1_3 : Int) (ds : Ds) (w : World) : Prop :=
 alE (.cells #[.int .i64 n0_0, .int .i64 n0_1, .int .i64 n0_2, .int .i64 n0_3] 103) w fun r2 w9 =>
 alE (.cells #[.int .i64 n1_0, .int .i64 n1_1, .int .i64 n1_2, .int .i64 n1_3] 103) w9 fun r3 w10 =>
 F106_3 R (some (⟨r2, 0, none⟩ : Addr)) (some (⟨r3, 0, none⟩ : Addr)) 0 ds w10
theorem F106_p : Pl prog f106 [aS 0 [.int .i64, .int .i64, .int .i64, .int .i64], aS 1 [.int .i64, .int .i64, .int .i64, .int .i64]] F106_5 := fun R =>
  pc 2 (rest [pS 2, pS 3, iS 5] (F106_3 R) (bk 0 (rest [] (F106_1 R) lf) (lp [iS 5] [pS 2, pS 3, iS 5] (F106_2 R) rnil fun J1 => lf)))
theorem F106_calls (n0_0 n0_1 n0_2 n0_3 n1_0 n1_1 n1_2 n1_3 : Int) (w : World) (R : Rt) (h : F106_5 R n0_0 n0_1 n0_2 n0_3 n1_0 n1_1 n1_2 n1_3 [] w) : Calls prog 106 #[.agg #[.int .i64 n0_0, .int .i64 n0_1, .int .i64 n0_2, .int .i64 n0_3], .agg #[.int .i64 n1_0, .int .i64 n1_1, .int .i64 n1_2, .int .i64 n1_3]] w R :=
  plC F106_p func106 h
def F104_1 (R : Rt) (n0 n1 : Int) (ds : Ds) (w : World) : Prop :=
 Calls prog 134 #[.int .i64 n0] w fun e w1 =>
 ∃ b8 : Bool, e = .returned (.bool b8) /\
 Calls prog 134 #[.int .i64 n1] w1 fun e w2 =>
 ∃ b10 : Bool, e = .returned (.bool b10) /\
 Br b8 (
 Br b10 (
 runD prog ds w2 fun w3 =>
 R (.returned (.int .i64 0)) w3) (
 runD prog ds w2 fun w4 =>
 R (.returned (.int .i64 (-1))) w4)) (
 Br b10 (
 runD prog ds w2 fun w5 =>
 R (.returned (.int .i64 1)) w5) (
 Br (decide (n0 < n1)) (
 runD prog ds w2 fun w6 =>
 R (.returned (.int .i64 (-1))) w6) (
 Br (decide (n0 > n1)) (
 runD prog ds w2 fun w7 =>
 R (.returned (.int .i64 1)) w7) (
 runD prog ds w2 fun w8 =>
 R (.returned (.int .i64 0)) w8))))
theorem F104_p : Pl prog f104 [iS 0, iS 1] F104_1 := fun R =>
  lf
theorem F104_calls (n0 n1 : Int) (w : World) (R : Rt) (h : F104_1 R n0 n1 [] w) : Calls prog 104 #[.int .i64 n0, .int .i64 n1] w R :=
  plC F104_p func104 h
end Go.Proofs.YtnigfiljenfgjaaGreat

/- Shallow texts of functions, printed by program, each checked by the kernel against the loaded code. No condition. -/
set_option maxRecDepth 100000
set_option linter.unusedVariables false
namespace Go.Proofs.YtnigfiljenfgjaaGreat
open Go.Sh Tryz
def F51_1 (R : Rt) (v0 : Value) (ds : Ds) (w : World) : Prop :=
 Calls prog 99 #[v0] w fun e w1 =>
 ∃ l5 : SV, e = .returned (.slice l5.a l5.len l5.cap) /\
 Calls prog 100 #[.slice l5.a l5.len l5.cap] w1 fun e w2 =>
 e = .returned (.tuple #[]) /\
 runD prog ds w2 fun w3 =>
 R (.returned (.slice l5.a l5.len l5.cap)) w3
theorem F51_p : Pl prog f51 [vS 0] F51_1 := fun R =>
  lf
theorem F51_calls (v0 : Value) (w : World) (R : Rt) (h : F51_1 R v0 [] w) : Calls prog 51 #[v0] w R :=
  plC F51_p func51 h
def F99_1 (R : Rt) (v0 : Value) (ds : Ds) (w : World) : Prop :=
 Calls prog 122 #[.slice none 0 0, v0] w fun e w1 =>
 ∃ l4 : SV, e = .returned (.slice l4.a l4.len l4.cap) /\
 runD prog ds w1 fun w2 =>
 R (.returned (.slice l4.a l4.len l4.cap)) w2
theorem F99_p : Pl prog f99 [vS 0] F99_1 := fun R =>
  lf
theorem F99_calls (v0 : Value) (w : World) (R : Rt) (h : F99_1 R v0 [] w) : Calls prog 99 #[v0] w R :=
  plC F99_p func99 h
def F52_1 (R : Rt) (m0 : Option Nat) (ds : Ds) (w : World) : Prop :=
 alE (.cells #[.map m0] 55) w fun r1 w1 =>
 runD prog ds w1 fun w2 =>
 R (.returned (.func (.func 101) #[] #[.pointer (some (⟨r1, 0, none⟩ : Addr))])) w2
theorem F52_p : Pl prog f52 [mS 0] F52_1 := fun R =>
  lf
theorem F52_calls (m0 : Option Nat) (w : World) (R : Rt) (h : F52_1 R m0 [] w) : Calls prog 52 #[.map m0] w R :=
  plC F52_p func52 h
end Go.Proofs.YtnigfiljenfgjaaGreat

/- Shallow texts of functions, printed by program, each checked by the kernel against the loaded code. No condition. -/
set_option maxRecDepth 100000
set_option linter.unusedVariables false
namespace Go.Proofs.YtnigfiljenfgjaaGreat
open Go.Sh Tryz
def F90_1 (R : Rt) (p0 : Option Addr) (s1 : ByteArray) (ds : Ds) (w : World) : Prop :=
 Calls prog 43 #[.pointer p0, .int .i64 0, .string s1] w fun e w1 =>
 ∃ v11_0 : Value, ∃ n11_1 : Int, e = .returned (.tuple #[v11_0, .int .i64 n11_1]) /\
 fnE v11_0 fun fx firstx capx =>
 Br (n11_1 != 0) (
 runD prog ({ target := .fn (.func fx) capx, args := (firstx.toList ++ ([] : List Value)).toArray } :: ds) w1 fun w2 =>
 R (.returned (.tuple #[.int .i64 0, .int .i64 n11_1])) w2) (
 ptrE p0 fun a3 =>
 ∃ m21, w1.cell? (a3.add 2) = some (.map m21) /\
 ∃ l23 : SV, ∃ w4, (Instr.lookup 55 (.map m21) (.string s1) false).run prog w1 = .ok (.slice l23.a l23.len l23.cap) w4 /\
 runD prog ({ target := .fn (.func fx) capx, args := (firstx.toList ++ ([] : List Value)).toArray } :: ds) w4 fun w5 =>
 R (.returned (.tuple #[.int .i64 (l23.len : Int), .int .i64 0])) w5)
theorem F90_p : Pl prog f90 [pS 0, sS 1] F90_1 := fun R =>
  lf
theorem F90_calls (p0 : Option Addr) (s1 : ByteArray) (w : World) (R : Rt) (h : F90_1 R p0 s1 [] w) : Calls prog 90 #[.pointer p0, .string s1] w R :=
  plC F90_p func90 h
def F87_1 (R : Rt) (ds : Ds) (w : World) : Prop :=
 runD prog ds w fun w1 =>
 R (.returned (.int .i64 0)) w1
def F87_2 (R : Rt) (J1 : (Int) -> World -> Prop) (p0 p3 : Option Addr) (n29 : Int) (ds : Ds) (w : World) : Prop :=
 Br (decide (n29 < 4)) (
 ptrE p0 fun a2 =>
 0 <= n29 /\ n29 < (4 : Int) /\
 ∃ m37, w.cell? ((a2.add 3).add (n29.toNat * 1)) = some (.map m37) /\
 Calls prog 110 #[.map m37, .func (.func 111) #[] #[.pointer p3]] w fun e w3 =>
 e = .returned (.tuple #[]) /\
 J1 (IntKind.i64.wrap (n29 + 1)) w3) (
 F87_1 R ds w)
def F87_3 (R : Rt) (p0 p3 : Option Addr) (n29 : Int) (ds : Ds) (w : World) : Prop :=
 loopT (fun (J1 : (Int) -> World -> Prop) (s : Int) (w : World) => F87_2 R J1 p0 p3 s ds w) n29 w
def F87_5 (R : Rt) (p0 : Option Addr) (s1 : ByteArray) (ds : Ds) (w : World) : Prop :=
 alE (.cells #[.string s1] 9) w fun r3 w4 =>
 ∃ s10, w4.cell? (⟨r3, 0, none⟩ : Addr) = some (.string s10) /\
 Calls prog 43 #[.pointer p0, .int .i64 0, .string s10] w4 fun e w5 =>
 ∃ v11_0 : Value, ∃ n11_1 : Int, e = .returned (.tuple #[v11_0, .int .i64 n11_1]) /\
 fnE v11_0 fun fx firstx capx =>
 Br (n11_1 != 0) (
 runD prog ({ target := .fn (.func fx) capx, args := (firstx.toList ++ ([] : List Value)).toArray } :: ds) w5 fun w6 =>
 R (.returned (.int .i64 n11_1)) w6) (
 ptrE p0 fun a7 =>
 ∃ l21 : SV, w5.cell? (a7.add 7) = some (.slice l21.a l21.len l21.cap) /\
 Calls prog 73 #[.slice l21.a l21.len l21.cap, .func (.func 109) #[] #[.pointer (some (⟨r3, 0, none⟩ : Addr))]] w5 fun e w8 =>
 ∃ b23 : Bool, e = .returned (.bool b23) /\
 Br b23 (
 runD prog ({ target := .fn (.func fx) capx, args := (firstx.toList ++ ([] : List Value)).toArray } :: ds) w8 fun w9 =>
 R (.returned (.int .i64 12)) w9) (
 dwE w8 fun w10 =>
 ptrE p0 fun a11 =>
 ∃ m27, w10.cell? (a11.add 2) = some (.map m27) /\
 ∃ s28, w10.cell? (⟨r3, 0, none⟩ : Addr) = some (.string s28) /\
 ∃ w12, (Builtin.delete_ #[55, 9] 0 #[.map m27, .string s28]).run prog w10 = .ok (.tuple #[]) w12 /\
 F87_3 R p0 (some (⟨r3, 0, none⟩ : Addr)) 0 ({ target := .fn (.func fx) capx, args := (firstx.toList ++ ([] : List Value)).toArray } :: ds) w12))
theorem F87_p : Pl prog f87 [pS 0, sS 1] F87_5 := fun R =>
  pc 9 (rest [pS 0, pS 3, iS 29] (F87_3 R) (bk 0 (rest [] (F87_1 R) lf) (lp [iS 29] [pS 0, pS 3, iS 29] (F87_2 R) rnil fun J1 => lf)))
theorem F87_calls (p0 : Option Addr) (s1 : ByteArray) (w : World) (R : Rt) (h : F87_5 R p0 s1 [] w) : Calls prog 87 #[.pointer p0, .string s1] w R :=
  plC F87_p func87 h
def F109_1 (R : Rt) (n0_0 : Int) (s0_1 : ByteArray) (n0_2 n0_3 : Int) (v1 : Value) (ds : Ds) (w : World) : Prop :=
 alE (.cells #[.int .i64 n0_0, .string s0_1, .int .i64 n0_2, .int .i64 n0_3] 95) w fun r2 w1 =>
 ∃ s5, w1.cell? ((⟨r2, 0, none⟩ : Addr).add 1) = some (.string s5) /\
 addrE v1 fun a2 =>
 ∃ s6, w1.cell? a2 = some (.string s6) /\
 runD prog ds w1 fun w3 =>
 R (.returned (.bool (s5.toList == s6.toList))) w3
theorem F109_p : Pl prog f109 [aS 0 [.int .i64, .str, .int .i64, .int .i64], vS 1] F109_1 := fun R =>
  lf
theorem F109_calls (n0_0 : Int) (s0_1 : ByteArray) (n0_2 n0_3 : Int) (v1 : Value) (w : World) (R : Rt) (h : F109_1 R n0_0 s0_1 n0_2 n0_3 v1 [] w) : Calls prog 109 #[.agg #[.int .i64 n0_0, .string s0_1, .int .i64 n0_2, .int .i64 n0_3], v1] w R :=
  plC F109_p func109 h
def F110_1 (R : Rt) (J1 : (Unit) -> World -> Prop) (m0 : Option Nat) (v1 : Value) (p7 : Option Addr) (ds : Ds) (w : World) : Prop :=
 (∃ w1, (Instr.next (.pointer p7) false 0).run prog w = .ok (.tuple #[.bool false]) w1 /\
 runD prog ds w1 fun w3 =>
 R (.returned (.tuple #[])) w3) ∨ (∃ k8 v8 : Value, ∃ w2, (Instr.next (.pointer p7) false 0).run prog w = .ok (.tuple #[.bool true, k8, v8]) w2 /\
 ∃ k10 v10 : Value, ∃ w4, (Instr.entry (.pointer p7)).run prog w2 = .ok (.tuple #[k10, v10]) w4 /\
 dAgg k10 fun q11 =>
 dHd q11 fun x11_0 q11_0 =>
 dStr x11_0 fun s11_0 =>
 dHd q11_0 fun x11_1 q11_1 =>
 dInt .i64 x11_1 fun n11_1 =>
 dNil q11_1 (
 dRow v10 fun c12 =>
 alE (.cells #[.string (⟨#[]⟩ : ByteArray), .int .i64 0] 92) w4 fun r4 w5 =>
 alE (.cells (zc prog 89) 89) w5 fun r5 w6 =>
 stA prog 92 (⟨r4, 0, none⟩ : Addr) #[.string s11_0, .int .i64 n11_1] w6 fun w7 =>
 stA prog 89 (⟨r5, 0, none⟩ : Addr) c12 w7 fun w8 =>
 ∃ s14_0, w8.cell? ((⟨r4, 0, none⟩ : Addr).add 0) = some (.string s14_0) /\
 ∃ n14_1, w8.cell? ((⟨r4, 0, none⟩ : Addr).add 1) = some (.int .i64 n14_1) /\
 ∃ c15 : Array Value, c15.size = 96 /\ (∀ i, i < 96 -> w8.cell? ((⟨r5, 0, none⟩ : Addr).add i) = c15[i]?) /\
 fnE v1 fun f16 first16 cap16 =>
 hasBody prog f16 = true /\ Calls prog f16 (first16.toList ++ (([.agg #[.string s14_0, .int .i64 n14_1], .agg c15] : List Value) ++ cap16.toList)).toArray w8 fun e w9 =>
 ∃ b16 : Bool, e = .returned (.bool b16) /\
 Br b16 (
 ∃ s18_0, w9.cell? ((⟨r4, 0, none⟩ : Addr).add 0) = some (.string s18_0) /\
 ∃ n18_1, w9.cell? ((⟨r4, 0, none⟩ : Addr).add 1) = some (.int .i64 n18_1) /\
 ∃ w10, (Builtin.delete_ #[63, 92] 0 #[.map m0, .agg #[.string s18_0, .int .i64 n18_1]]).run prog w9 = .ok (.tuple #[]) w10 /\
 J1 () w10) (
 J1 () w9)))
def F110_2 (R : Rt) (m0 : Option Nat) (v1 : Value) (p7 : Option Addr) (ds : Ds) (w : World) : Prop :=
 loopT (fun (J1 : (Unit) -> World -> Prop) (_ : Unit) (w : World) => F110_1 R J1 m0 v1 p7 ds w) () w
def F110_4 (R : Rt) (m0 : Option Nat) (v1 : Value) (ds : Ds) (w : World) : Prop :=
 ∃ p7 : Option Addr, ∃ w11, (Instr.range 63 (.map m0)).run prog w = .ok (.pointer p7) w11 /\
 F110_2 R m0 (v1) p7 ds w11
theorem F110_p : Pl prog f110 [mS 0, vS 1] F110_4 := fun R =>
  pc 1 (rest [mS 0, vS 1, pS 7] (F110_2 R) (bk 0 rnil (lp [] [mS 0, vS 1, pS 7] (F110_1 R) rnil fun J1 => lf)))
theorem F110_calls (m0 : Option Nat) (v1 : Value) (w : World) (R : Rt) (h : F110_4 R m0 v1 [] w) : Calls prog 110 #[.map m0, v1] w R :=
  plC F110_p func110 h
def F111_1 (R : Rt) (s0_0 : ByteArray) (n0_1 : Int) (c1 : Array Value) (v2 : Value) (ds : Ds) (w : World) : Prop :=
 alE (.cells #[.string s0_0, .int .i64 n0_1] 92) w fun r3 w1 =>
 alE (.cells c1 89) w1 fun r4 w2 =>
 ∃ s7, w2.cell? (⟨r3, 0, none⟩ : Addr) = some (.string s7) /\
 addrE v2 fun a3 =>
 ∃ s8, w2.cell? a3 = some (.string s8) /\
 runD prog ds w2 fun w4 =>
 R (.returned (.bool (s7.toList == s8.toList))) w4
theorem F111_p : Pl prog f111 [aS 0 [.str, .int .i64], rS 96 1, vS 2] F111_1 := fun R =>
  lf
theorem F111_calls (s0_0 : ByteArray) (n0_1 : Int) (c1 : Array Value) (v2 : Value) (w : World) (R : Rt) (h : F111_1 R s0_0 n0_1 c1 v2 [] w) : Calls prog 111 #[.agg #[.string s0_0, .int .i64 n0_1], .agg c1, v2] w R :=
  plC F111_p func111 h
def F34_1 (R : Rt) (n10 : Int) (ds : Ds) (w : World) : Prop :=
 runD prog ds w fun w1 =>
 R (.returned (.tuple #[.int .i64 n10, .int .i64 0])) w1
def F34_2 (R : Rt) (J1 : (Int × Int) -> World -> Prop) (p0 : Option Addr) (n1 n10 : Int) (l28 : SV) (n29 n30 : Int) (ds : Ds) (w : World) : Prop :=
 Br (decide (n30 < n29)) (
 ∃ a2, l28.a = some a2 /\ 0 <= n30 /\ n30 < (l28.len : Int) /\
 ∃ s33_0, w.cell? ((a2.add (n30.toNat * 2)).add 0) = some (.string s33_0) /\
 ∃ n33_1, w.cell? ((a2.add (n30.toNat * 2)).add 1) = some (.int .i64 n33_1) /\
 alE (.cells #[.string (⟨#[]⟩ : ByteArray), .int .i64 0] 92) w fun r12 w3 =>
 stA prog 92 (⟨r12, 0, none⟩ : Addr) #[.string s33_0, .int .i64 n33_1] w3 fun w4 =>
 dwE w4 fun w5 =>
 ∃ S1 : World -> Prop, S1 w5 /\
 ptrE p0 fun a6 =>
 0 <= n1 /\ n1 < (4 : Int) /\
 ∃ m39, (∀ w', S1 w' -> w'.cell? ((a6.add 3).add (n1.toNat * 1)) = some (.map m39)) /\
 ∃ s40_0, (∀ w', S1 w' -> w'.cell? ((⟨r12, 0, none⟩ : Addr).add 0) = some (.string s40_0)) /\
 ∃ n40_1, (∀ w', S1 w' -> w'.cell? ((⟨r12, 0, none⟩ : Addr).add 1) = some (.int .i64 n40_1)) /\
 ∃ c41 : Array Value, c41.size = 96 /\ (∀ w', S1 w' -> (Instr.lookup 63 (.map m39) (.agg #[.string s40_0, .int .i64 n40_1]) false).run prog w' = .ok (.agg c41) w') /\
 alE (.cells (zc prog 89) 89) w5 fun r13 w7 =>
 S1 w7 /\
 stA prog 89 (⟨r13, 0, none⟩ : Addr) c41 w7 fun w8 =>
 32 <= 32 /\ 0 <= 32 /\
 Calls prog 83 #[.slice (some (if 32 = 0 then ((⟨r13, 0, none⟩ : Addr).add 64) else ((⟨r13, 0, none⟩ : Addr).add 64).add (0 * 1))) (32 - 0) (32 - 0), .bool true] w8 fun e w9 =>
 ∃ b44 : Bool, e = .returned (.bool b44) /\
 Br (!b44) (
 dwE w9 fun w10 =>
 ptrE p0 fun a11 =>
 0 <= n1 /\ n1 < (4 : Int) /\
 ∃ m51, w10.cell? ((a11.add 3).add (n1.toNat * 1)) = some (.map m51) /\
 ∃ s52_0, w10.cell? ((⟨r12, 0, none⟩ : Addr).add 0) = some (.string s52_0) /\
 ∃ n52_1, w10.cell? ((⟨r12, 0, none⟩ : Addr).add 1) = some (.int .i64 n52_1) /\
 ∃ w12, (Builtin.delete_ #[63, 92] 0 #[.map m51, .agg #[.string s52_0, .int .i64 n52_1]]).run prog w10 = .ok (.tuple #[]) w12 /\
 J1 ((IntKind.i64.wrap (n10 + 1)), (IntKind.i64.wrap (n30 + 1))) w12) (
 J1 (n10, (IntKind.i64.wrap (n30 + 1))) w9)) (
 F34_1 R n10 ds w)
def F34_3 (R : Rt) (p0 : Option Addr) (n1 n10 : Int) (l28 : SV) (n29 n30 : Int) (ds : Ds) (w : World) : Prop :=
 loopT (fun (J1 : (Int × Int) -> World -> Prop) (s : Int × Int) (w : World) => F34_2 R J1 p0 n1 s.1 l28 n29 s.2 ds w) (n10, n30) w
def F34_5 (R : Rt) (p0 : Option Addr) (n1 : Int) (s2 : ByteArray) (ds : Ds) (w : World) : Prop :=
 Calls prog 43 #[.pointer p0, .int .i64 n1, .string s2] w fun e w13 =>
 ∃ v18_0 : Value, ∃ n18_1 : Int, e = .returned (.tuple #[v18_0, .int .i64 n18_1]) /\
 fnE v18_0 fun fx firstx capx =>
 Br (n18_1 != 0) (
 runD prog ({ target := .fn (.func fx) capx, args := (firstx.toList ++ ([] : List Value)).toArray } :: ds) w13 fun w14 =>
 R (.returned (.tuple #[.int .i64 0, .int .i64 n18_1])) w14) (
 Calls prog 69 #[.pointer p0, .int .i64 n1, .string s2, .int .i64 0, .int .i64 65536] w13 fun e w15 =>
 ∃ l28 : SV, e = .returned (.slice l28.a l28.len l28.cap) /\
 F34_3 R p0 n1 0 l28 (l28.len : Int) 0 ({ target := .fn (.func fx) capx, args := (firstx.toList ++ ([] : List Value)).toArray } :: ds) w15)
theorem F34_p : Pl prog f34 [pS 0, iS 1, sS 2] F34_5 := fun R =>
  pc 7 (rest [pS 0, iS 1, iS 10, lS 28, iS 29, iS 30] (F34_3 R) (bk 0 (rest [iS 10] (F34_1 R) lf) (lp [iS 10, iS 30] [pS 0, iS 1, iS 10, lS 28, iS 29, iS 30] (F34_2 R) rnil fun J1 => lf)))
theorem F34_calls (p0 : Option Addr) (n1 : Int) (s2 : ByteArray) (w : World) (R : Rt) (h : F34_5 R p0 n1 s2 [] w) : Calls prog 34 #[.pointer p0, .int .i64 n1, .string s2] w R :=
  plC F34_p func34 h
def F83_1 (R : Rt) (l0 : SV) (b1 : Bool) (ds : Ds) (w : World) : Prop :=
 Calls prog 107 #[.slice l0.a l0.len l0.cap, .bool b1] w fun e w1 =>
 ∃ n7 : Int, e = .returned (.int .i64 n7) /\
 runD prog ds w1 fun w2 =>
 R (.returned (.bool (decide (n7 ≥ 0)))) w2
theorem F83_p : Pl prog f83 [lS 0, bS 1] F83_1 := fun R =>
  lf
theorem F83_calls (l0 : SV) (b1 : Bool) (w : World) (R : Rt) (h : F83_1 R l0 b1 [] w) : Calls prog 83 #[.slice l0.a l0.len l0.cap, .bool b1] w R :=
  plC F83_p func83 h
def F107_1 (R : Rt) (ds : Ds) (w : World) : Prop :=
 runD prog ds w fun w1 =>
 R (.returned (.int .i64 (-1))) w1
def F107_2 (R : Rt) (J1 : (Int) -> World -> Prop) (l0 : SV) (b1 : Bool) (n7 n8 : Int) (ds : Ds) (w : World) : Prop :=
 Br (decide (n8 < n7)) (
 ∃ a2, l0.a = some a2 /\ 0 <= n8 /\ n8 < (l0.len : Int) /\
 ∃ b15, w.cell? (a2.add (n8.toNat * 1)) = some (.bool b15) /\
 Br (b1 == b15) (
 runD prog ds w fun w3 =>
 R (.returned (.int .i64 n8)) w3) (
 J1 (IntKind.i64.wrap (n8 + 1)) w)) (
 F107_1 R ds w)
def F107_3 (R : Rt) (l0 : SV) (b1 : Bool) (n7 n8 : Int) (ds : Ds) (w : World) : Prop :=
 loopT (fun (J1 : (Int) -> World -> Prop) (s : Int) (w : World) => F107_2 R J1 l0 b1 n7 s ds w) n8 w
def F107_5 (R : Rt) (l0 : SV) (b1 : Bool) (ds : Ds) (w : World) : Prop :=
 F107_3 R l0 b1 (l0.len : Int) 0 ds w
theorem F107_p : Pl prog f107 [lS 0, bS 1] F107_5 := fun R =>
  pc 2 (rest [lS 0, bS 1, iS 7, iS 8] (F107_3 R) (bk 0 (rest [] (F107_1 R) lf) (lp [iS 8] [lS 0, bS 1, iS 7, iS 8] (F107_2 R) rnil fun J1 => lf)))
theorem F107_calls (l0 : SV) (b1 : Bool) (w : World) (R : Rt) (h : F107_5 R l0 b1 [] w) : Calls prog 107 #[.slice l0.a l0.len l0.cap, .bool b1] w R :=
  plC F107_p func107 h
def F14_1 (R : Rt) (p0 p3 : Option Addr) (n6 : Int) (ds : Ds) (w : World) : Prop :=
 dwE w fun w1 =>
 ∃ S1 : World -> Prop, S1 w1 /\
 ptrE p3 fun a2 =>
 ∃ n47, (∀ w', S1 w' -> w'.cell? a2 = some (.int .i64 n47)) /\
 ptrE p0 fun a3 =>
 alE (.map #[] 0) w1 fun r48 w4 =>
 S1 w4 /\
 0 <= n47 /\ n47 < (4 : Int) /\
 st1 ((a3.add 3).add (n47.toNat * 1)) (.map (some r48)) w4 fun w5 =>
 ptrE p0 fun a6 =>
 ∃ l56 : SV, w5.cell? (a6.add 7) = some (.slice l56.a l56.len l56.cap) /\
 Calls prog 48 #[.slice l56.a l56.len l56.cap, .func (.func 49) #[] #[.pointer p3]] w5 fun e w7 =>
 ∃ l58 : SV, e = .returned (.slice l58.a l58.len l58.cap) /\
 ptrE p0 fun a8 =>
 st1 (a8.add 7) (.slice l58.a l58.len l58.cap) w7 fun w9 =>
 runD prog ds w9 fun w10 =>
 R (.returned (.tuple #[.int .i64 n6, .int .i64 0])) w10
def F14_2 (R : Rt) (J1 : (Int) -> World -> Prop) (J2 : (Int × Int) -> World -> Prop) (p0 p3 : Option Addr) (n6 : Int) (p32 : Option Addr) (c38 : Array Value) (n39 : Int) (ds : Ds) (w : World) : Prop :=
 Br (decide (n39 < 32)) (
 ∃ b41 : Bool, ∃ w11, (Instr.index 87 (.agg c38) (.int .i64 n39)).run prog w = .ok (.bool b41) w11 /\
 Br b41 (
 J2 ((IntKind.i64.wrap (n6 + 1)), (IntKind.i64.wrap (n39 + 1))) w11) (
 J2 (n6, (IntKind.i64.wrap (n39 + 1))) w11)) (
 J1 n6 w)
def F14_3 (R : Rt) (J1 : (Int) -> World -> Prop) (p0 p3 : Option Addr) (n6 : Int) (p32 : Option Addr) (c38 : Array Value) (n39 : Int) (ds : Ds) (w : World) : Prop :=
 loopT (fun (J2 : (Int × Int) -> World -> Prop) (s : Int × Int) (w : World) => F14_2 R J1 J2 p0 p3 s.1 p32 c38 s.2 ds w) (n6, n39) w
def F14_5 (R : Rt) (J1 : (Int) -> World -> Prop) (p0 p3 : Option Addr) (n6 : Int) (p32 : Option Addr) (ds : Ds) (w : World) : Prop :=
 ∃ k35 v35 : Value, ∃ w12, (Instr.entry (.pointer p32)).run prog w = .ok (.tuple #[k35, v35]) w12 /\
 dRow v35 fun c36 =>
 alE (.cells (zc prog 89) 89) w12 fun r8 w13 =>
 stA prog 89 (⟨r8, 0, none⟩ : Addr) c36 w13 fun w14 =>
 ∃ c38 : Array Value, c38.size = 32 /\ (∀ i, i < 32 -> w14.cell? (((⟨r8, 0, none⟩ : Addr).add 64).add i) = c38[i]?) /\
 F14_3 R J1 p0 p3 n6 p32 c38 0 ds w14
def F14_7 (R : Rt) (J1 : (Int) -> World -> Prop) (p0 p3 : Option Addr) (n6 : Int) (p32 : Option Addr) (ds : Ds) (w : World) : Prop :=
 (∃ w15, (Instr.next (.pointer p32) false 0).run prog w = .ok (.tuple #[.bool false]) w15 /\
 F14_1 R p0 p3 n6 ds w15) ∨ (∃ k33 v33 : Value, ∃ w16, (Instr.next (.pointer p32) false 0).run prog w = .ok (.tuple #[.bool true, k33, v33]) w16 /\
 F14_5 R J1 p0 p3 n6 p32 ds w16)
def F14_8 (R : Rt) (p0 p3 : Option Addr) (n6 : Int) (p32 : Option Addr) (ds : Ds) (w : World) : Prop :=
 loopT (fun (J1 : (Int) -> World -> Prop) (s : Int) (w : World) => F14_7 R J1 p0 p3 s p32 ds w) n6 w
def F14_10 (R : Rt) (p0 : Option Addr) (n1 : Int) (ds : Ds) (w : World) : Prop :=
 alE (.cells #[.int .i64 n1] 3) w fun r3 w17 =>
 ∃ b12 : Bool, ∃ w18, (eqS .eql 25 (.tmp 11) (.const (.pointer none)) (.pointer p0) (.pointer none)).run prog w17 = .ok (.bool b12) w18 /\
 Br b12 (
 runD prog ds w18 fun w19 =>
 R (.returned (.tuple #[.int .i64 0, .int .i64 9])) w19) (
 ptrE p0 fun a20 =>
 Calls prog 46 #[.pointer (some a20)] w18 fun e w21 =>
 e = .returned (.tuple #[]) /\
 ptrE p0 fun a22 =>
 ∃ n20, w21.cell? (⟨r3, 0, none⟩ : Addr) = some (.int .i64 n20) /\
 Br (decide (n20 < 0)) (
 runD prog ({ target := .fn (.func 47) #[], args := #[.pointer (some a22)] } :: ds) w21 fun w23 =>
 R (.returned (.tuple #[.int .i64 0, .int .i64 1])) w23) (
 ∃ n23, w21.cell? (⟨r3, 0, none⟩ : Addr) = some (.int .i64 n23) /\
 Br (decide (n23 ≥ 4)) (
 runD prog ({ target := .fn (.func 47) #[], args := #[.pointer (some a22)] } :: ds) w21 fun w24 =>
 R (.returned (.tuple #[.int .i64 0, .int .i64 1])) w24) (
 dwE w21 fun w25 =>
 ∃ n27, w25.cell? (⟨r3, 0, none⟩ : Addr) = some (.int .i64 n27) /\
 ptrE p0 fun a26 =>
 0 <= n27 /\ n27 < (4 : Int) /\
 ∃ m31, w25.cell? ((a26.add 3).add (n27.toNat * 1)) = some (.map m31) /\
 ∃ p32 : Option Addr, ∃ w27, (Instr.range 63 (.map m31)).run prog w25 = .ok (.pointer p32) w27 /\
 F14_8 R p0 (some (⟨r3, 0, none⟩ : Addr)) 0 p32 ({ target := .fn (.func 47) #[], args := #[.pointer (some a22)] } :: ds) w27)))
theorem F14_p : Pl prog f14 [pS 0, iS 1] F14_10 := fun R =>
  pc 9 (rest [pS 0, pS 3, iS 6, pS 32] (F14_8 R) (bk 0 (rest [pS 0, pS 3, iS 6] (F14_1 R) lf) (lp [iS 6] [pS 0, pS 3, iS 6, pS 32] (F14_7 R) rnil fun J1 => pc 2 (rest [pS 0, pS 3, iS 6, pS 32] (F14_5 R J1) (bk 1 rnil (pc 2 (rest [pS 0, pS 3, iS 6, pS 32, rS 32 38, iS 39] (F14_3 R J1) (bk 2 rnil (lp [iS 6, iS 39] [pS 0, pS 3, iS 6, pS 32, rS 32 38, iS 39] (F14_2 R J1) rnil fun J2 => lf)))))))))
theorem F14_calls (p0 : Option Addr) (n1 : Int) (w : World) (R : Rt) (h : F14_10 R p0 n1 [] w) : Calls prog 14 #[.pointer p0, .int .i64 n1] w R :=
  plC F14_p func14 h
def F48_1 (R : Rt) (l0 : SV) (n5 : Int) (ds : Ds) (w : World) : Prop :=
 l0.len <= l0.cap /\ 0 <= n5 /\ n5.toNat <= l0.len /\
 ∃ w1, (Builtin.clear_ #[65] 0 #[.slice (if l0.cap = n5.toNat then l0.a else l0.a.map (fun x => x.add (n5.toNat * 4))) (l0.len - n5.toNat) (l0.cap - n5.toNat)]).run prog w = .ok (.tuple #[]) w1 /\
 0 <= n5 /\ n5.toNat <= l0.cap /\ 0 <= n5.toNat /\
 runD prog ds w1 fun w2 =>
 R (.returned (.slice (if l0.cap = 0 then l0.a else l0.a.map (fun x => x.add (0 * 4))) (n5.toNat - 0) (l0.cap - 0))) w2
def F48_2 (R : Rt) (J1 : (Int × Int) -> World -> Prop) (l0 : SV) (v1 : Value) (n5 n6 : Int) (ds : Ds) (w : World) : Prop :=
 Br (decide (n6 < (l0.len : Int))) (
 ∃ a3, l0.a = some a3 /\ 0 <= n6 /\ n6 < (l0.len : Int) /\
 ∃ n25_0, w.cell? ((a3.add (n6.toNat * 4)).add 0) = some (.int .i64 n25_0) /\
 ∃ s25_1, w.cell? ((a3.add (n6.toNat * 4)).add 1) = some (.string s25_1) /\
 ∃ n25_2, w.cell? ((a3.add (n6.toNat * 4)).add 2) = some (.int .i64 n25_2) /\
 ∃ n25_3, w.cell? ((a3.add (n6.toNat * 4)).add 3) = some (.int .i64 n25_3) /\
 alE (.cells #[.int .i64 0, .string (⟨#[]⟩ : ByteArray), .int .i64 0, .int .i64 0] 95) w fun r7 w4 =>
 stA prog 95 (⟨r7, 0, none⟩ : Addr) #[.int .i64 n25_0, .string s25_1, .int .i64 n25_2, .int .i64 n25_3] w4 fun w5 =>
 ∃ n27_0, w5.cell? ((⟨r7, 0, none⟩ : Addr).add 0) = some (.int .i64 n27_0) /\
 ∃ s27_1, w5.cell? ((⟨r7, 0, none⟩ : Addr).add 1) = some (.string s27_1) /\
 ∃ n27_2, w5.cell? ((⟨r7, 0, none⟩ : Addr).add 2) = some (.int .i64 n27_2) /\
 ∃ n27_3, w5.cell? ((⟨r7, 0, none⟩ : Addr).add 3) = some (.int .i64 n27_3) /\
 fnE v1 fun f28 first28 cap28 =>
 hasBody prog f28 = true /\ Calls prog f28 (first28.toList ++ (([.agg #[.int .i64 n27_0, .string s27_1, .int .i64 n27_2, .int .i64 n27_3]] : List Value) ++ cap28.toList)).toArray w5 fun e w6 =>
 ∃ b28 : Bool, e = .returned (.bool b28) /\
 Br (!b28) (
 ∃ n32_0, w6.cell? ((⟨r7, 0, none⟩ : Addr).add 0) = some (.int .i64 n32_0) /\
 ∃ s32_1, w6.cell? ((⟨r7, 0, none⟩ : Addr).add 1) = some (.string s32_1) /\
 ∃ n32_2, w6.cell? ((⟨r7, 0, none⟩ : Addr).add 2) = some (.int .i64 n32_2) /\
 ∃ n32_3, w6.cell? ((⟨r7, 0, none⟩ : Addr).add 3) = some (.int .i64 n32_3) /\
 ∃ a7, l0.a = some a7 /\ 0 <= n5 /\ n5 < (l0.len : Int) /\
 stA prog 95 (a7.add (n5.toNat * 4)) #[.int .i64 n32_0, .string s32_1, .int .i64 n32_2, .int .i64 n32_3] w6 fun w8 =>
 J1 ((IntKind.i64.wrap (n5 + 1)), (IntKind.i64.wrap (n6 + 1))) w8) (
 J1 (n5, (IntKind.i64.wrap (n6 + 1))) w6)) (
 F48_1 R l0 n5 ds w)
def F48_3 (R : Rt) (l0 : SV) (v1 : Value) (n5 n6 : Int) (ds : Ds) (w : World) : Prop :=
 loopT (fun (J1 : (Int × Int) -> World -> Prop) (s : Int × Int) (w : World) => F48_2 R J1 l0 v1 s.1 s.2 ds w) (n5, n6) w
def F48_5 (R : Rt) (l0 : SV) (v1 : Value) (ds : Ds) (w : World) : Prop :=
 Calls prog 98 #[.slice l0.a l0.len l0.cap, v1] w fun e w9 =>
 ∃ n10 : Int, e = .returned (.int .i64 n10) /\
 Br (n10 == (-1)) (
 runD prog ds w9 fun w10 =>
 R (.returned (.slice l0.a l0.len l0.cap)) w10) (
 F48_3 R l0 (v1) n10 (IntKind.i64.wrap (n10 + 1)) ds w9)
theorem F48_p : Pl prog f48 [lS 0, vS 1] F48_5 := fun R =>
  pc 5 (rest [lS 0, vS 1, iS 5, iS 6] (F48_3 R) (bk 0 (rest [lS 0, iS 5] (F48_1 R) lf) (lp [iS 5, iS 6] [lS 0, vS 1, iS 5, iS 6] (F48_2 R) rnil fun J1 => lf)))
theorem F48_calls (l0 : SV) (v1 : Value) (w : World) (R : Rt) (h : F48_5 R l0 v1 [] w) : Calls prog 48 #[.slice l0.a l0.len l0.cap, v1] w R :=
  plC F48_p func48 h
def F49_1 (R : Rt) (n0_0 : Int) (s0_1 : ByteArray) (n0_2 n0_3 : Int) (v1 : Value) (ds : Ds) (w : World) : Prop :=
 alE (.cells #[.int .i64 n0_0, .string s0_1, .int .i64 n0_2, .int .i64 n0_3] 95) w fun r2 w1 =>
 ∃ n5, w1.cell? (⟨r2, 0, none⟩ : Addr) = some (.int .i64 n5) /\
 addrE v1 fun a2 =>
 ∃ n6, w1.cell? a2 = some (.int .i64 n6) /\
 runD prog ds w1 fun w3 =>
 R (.returned (.bool (n5 == n6))) w3
theorem F49_p : Pl prog f49 [aS 0 [.int .i64, .str, .int .i64, .int .i64], vS 1] F49_1 := fun R =>
  lf
theorem F49_calls (n0_0 : Int) (s0_1 : ByteArray) (n0_2 n0_3 : Int) (v1 : Value) (w : World) (R : Rt) (h : F49_1 R n0_0 s0_1 n0_2 n0_3 v1 [] w) : Calls prog 49 #[.agg #[.int .i64 n0_0, .string s0_1, .int .i64 n0_2, .int .i64 n0_3], v1] w R :=
  plC F49_p func49 h
def F37_1 (R : Rt) (l10 : SV) (ds : Ds) (w : World) : Prop :=
 Calls prog 85 #[.slice l10.a l10.len l10.cap] w fun e w1 =>
 e = .returned (.tuple #[]) /\
 runD prog ds w1 fun w2 =>
 R (.returned (.tuple #[.slice l10.a l10.len l10.cap, .int .i64 0])) w2
def F37_2 (R : Rt) (J1 : (SV × Int) -> World -> Prop) (p0 : Option Addr) (n1 : Int) (l10 l29 : SV) (n30 n31 : Int) (ds : Ds) (w : World) : Prop :=
 J1 (l10, (IntKind.i64.wrap (n31 + 1))) w
def F37_3 (R : Rt) (J1 : (SV × Int) -> World -> Prop) (J2 : (SV × Int) -> World -> Prop) (p0 : Option Addr) (n1 : Int) (l10 : SV) (p12 : Option Addr) (l29 : SV) (n30 n31 : Int) (c43 : Array Value) (n44 : Int) (ds : Ds) (w : World) : Prop :=
 Br (decide (n44 < 32)) (
 ∃ b47 : Bool, ∃ w3, (Instr.index 87 (.agg c43) (.int .i64 n44)).run prog w = .ok (.bool b47) w3 /\
 Br b47 (
 ptrE p12 fun a4 =>
 ∃ n51, w3.cell? (a4.add 1) = some (.int .i64 n51) /\
 alE (.cells #[.int .i64 (IntKind.i64.wrap ((IntKind.i64.wrap (n51 * 32)) + n44))] 3) w3 fun r55 w5 =>
 ∃ l56 : SV, ∃ w6, (Builtin.append_ #[74, 74] 74 #[.slice l10.a l10.len l10.cap, .slice (some ⟨r55, 0, none⟩) 1 1]).run prog w5 = .ok (.slice l56.a l56.len l56.cap) w6 /\
 J2 (l56, (IntKind.i64.wrap (n44 + 1))) w6) (
 J2 (l10, (IntKind.i64.wrap (n44 + 1))) w3)) (
 F37_2 R J1 p0 n1 l10 l29 n30 n31 ds w)
def F37_4 (R : Rt) (J1 : (SV × Int) -> World -> Prop) (p0 : Option Addr) (n1 : Int) (l10 : SV) (p12 : Option Addr) (l29 : SV) (n30 n31 : Int) (c43 : Array Value) (n44 : Int) (ds : Ds) (w : World) : Prop :=
 loopT (fun (J2 : (SV × Int) -> World -> Prop) (s : SV × Int) (w : World) => F37_3 R J1 J2 p0 n1 s.1 p12 l29 n30 n31 c43 s.2 ds w) (l10, n44) w
def F37_6 (R : Rt) (J1 : (SV × Int) -> World -> Prop) (p0 : Option Addr) (n1 : Int) (l10 l29 : SV) (n30 n31 : Int) (ds : Ds) (w : World) : Prop :=
 ∃ a7, l29.a = some a7 /\ 0 <= n31 /\ n31 < (l29.len : Int) /\
 ∃ s34_0, w.cell? ((a7.add (n31.toNat * 2)).add 0) = some (.string s34_0) /\
 ∃ n34_1, w.cell? ((a7.add (n31.toNat * 2)).add 1) = some (.int .i64 n34_1) /\
 alE (.cells #[.string (⟨#[]⟩ : ByteArray), .int .i64 0] 92) w fun r12 w8 =>
 stA prog 92 (⟨r12, 0, none⟩ : Addr) #[.string s34_0, .int .i64 n34_1] w8 fun w9 =>
 dwE w9 fun w10 =>
 ptrE p0 fun a11 =>
 0 <= n1 /\ n1 < (4 : Int) /\
 ∃ m40, w10.cell? ((a11.add 3).add (n1.toNat * 1)) = some (.map m40) /\
 ∃ s41_0, w10.cell? ((⟨r12, 0, none⟩ : Addr).add 0) = some (.string s41_0) /\
 ∃ n41_1, w10.cell? ((⟨r12, 0, none⟩ : Addr).add 1) = some (.int .i64 n41_1) /\
 ∃ c42 : Array Value, c42.size = 96 /\ (Instr.lookup 63 (.map m40) (.agg #[.string s41_0, .int .i64 n41_1]) false).run prog w10 = .ok (.agg c42) w10 /\
 F37_4 R J1 p0 n1 l10 (some (⟨r12, 0, none⟩ : Addr)) l29 n30 n31 (c42.extract 64 (64 + 32)) 0 ds w10
def F37_8 (R : Rt) (J1 : (SV × Int) -> World -> Prop) (p0 : Option Addr) (n1 : Int) (l10 l29 : SV) (n30 n31 : Int) (ds : Ds) (w : World) : Prop :=
 Br (decide (n31 < n30)) (
 F37_6 R J1 p0 n1 l10 l29 n30 n31 ds w) (
 F37_1 R l10 ds w)
def F37_9 (R : Rt) (p0 : Option Addr) (n1 : Int) (l10 l29 : SV) (n30 n31 : Int) (ds : Ds) (w : World) : Prop :=
 loopT (fun (J1 : (SV × Int) -> World -> Prop) (s : SV × Int) (w : World) => F37_8 R J1 p0 n1 s.1 l29 n30 s.2 ds w) (l10, n31) w
def F37_11 (R : Rt) (p0 : Option Addr) (n1 : Int) (s2 : ByteArray) (ds : Ds) (w : World) : Prop :=
 Calls prog 43 #[.pointer p0, .int .i64 n1, .string s2] w fun e w12 =>
 ∃ v19_0 : Value, ∃ n19_1 : Int, e = .returned (.tuple #[v19_0, .int .i64 n19_1]) /\
 fnE v19_0 fun fx firstx capx =>
 Br (n19_1 != 0) (
 runD prog ({ target := .fn (.func fx) capx, args := (firstx.toList ++ ([] : List Value)).toArray } :: ds) w12 fun w13 =>
 R (.returned (.tuple #[.slice none 0 0, .int .i64 n19_1])) w13) (
 Calls prog 69 #[.pointer p0, .int .i64 n1, .string s2, .int .i64 0, .int .i64 65536] w12 fun e w14 =>
 ∃ l29 : SV, e = .returned (.slice l29.a l29.len l29.cap) /\
 F37_9 R p0 n1 ⟨none, 0, 0⟩ l29 (l29.len : Int) 0 ({ target := .fn (.func fx) capx, args := (firstx.toList ++ ([] : List Value)).toArray } :: ds) w14)
theorem F37_p : Pl prog f37 [pS 0, iS 1, sS 2] F37_11 := fun R =>
  pc 7 (rest [pS 0, iS 1, lS 10, lS 29, iS 30, iS 31] (F37_9 R) (bk 0 (rest [lS 10] (F37_1 R) lf) (lp [lS 10, iS 31] [pS 0, iS 1, lS 10, lS 29, iS 30, iS 31] (F37_8 R) rnil fun J1 => pc 2 (rest [pS 0, iS 1, lS 10, lS 29, iS 30, iS 31] (F37_6 R J1) (bk 1 (rest [pS 0, iS 1, lS 10, lS 29, iS 30, iS 31] (F37_2 R J1) lf) (pc 2 (rest [pS 0, iS 1, lS 10, pS 12, lS 29, iS 30, iS 31, rS 32 43, iS 44] (F37_4 R J1) (bk 2 rnil (lp [lS 10, iS 44] [pS 0, iS 1, lS 10, pS 12, lS 29, iS 30, iS 31, rS 32 43, iS 44] (F37_3 R J1) rnil fun J2 => lf)))))))))
theorem F37_calls (p0 : Option Addr) (n1 : Int) (s2 : ByteArray) (w : World) (R : Rt) (h : F37_11 R p0 n1 s2 [] w) : Calls prog 37 #[.pointer p0, .int .i64 n1, .string s2] w R :=
  plC F37_p func37 h
end Go.Proofs.YtnigfiljenfgjaaGreat

/- Shallow texts of functions, printed by program, each checked by the kernel against the loaded code. No condition. -/
set_option maxRecDepth 100000
set_option linter.unusedVariables false
namespace Go.Proofs.YtnigfiljenfgjaaGreat
open Go.Sh Tryz
def F53_1 (R : Rt) (ds : Ds) (w : World) : Prop :=
 runD prog ds w fun w1 =>
 R (.returned (.int .i64 (-1))) w1
def F53_2 (R : Rt) (J1 : (Int) -> World -> Prop) (l0 : SV) (s1 : ByteArray) (n7 n8 : Int) (ds : Ds) (w : World) : Prop :=
 Br (decide (n8 < n7)) (
 ∃ a2, l0.a = some a2 /\ 0 <= n8 /\ n8 < (l0.len : Int) /\
 ∃ s15, w.cell? (a2.add (n8.toNat * 1)) = some (.string s15) /\
 Br (s1.toList == s15.toList) (
 runD prog ds w fun w3 =>
 R (.returned (.int .i64 n8)) w3) (
 J1 (IntKind.i64.wrap (n8 + 1)) w)) (
 F53_1 R ds w)
def F53_3 (R : Rt) (l0 : SV) (s1 : ByteArray) (n7 n8 : Int) (ds : Ds) (w : World) : Prop :=
 loopT (fun (J1 : (Int) -> World -> Prop) (s : Int) (w : World) => F53_2 R J1 l0 s1 n7 s ds w) n8 w
def F53_5 (R : Rt) (l0 : SV) (s1 : ByteArray) (ds : Ds) (w : World) : Prop :=
 F53_3 R l0 s1 (l0.len : Int) 0 ds w
theorem F53_p : Pl prog f53 [lS 0, sS 1] F53_5 := fun R =>
  pc 2 (rest [lS 0, sS 1, iS 7, iS 8] (F53_3 R) (bk 0 (rest [] (F53_1 R) lf) (lp [iS 8] [lS 0, sS 1, iS 7, iS 8] (F53_2 R) rnil fun J1 => lf)))
theorem F53_calls (l0 : SV) (s1 : ByteArray) (w : World) (R : Rt) (h : F53_5 R l0 s1 [] w) : Calls prog 53 #[.slice l0.a l0.len l0.cap, .string s1] w R :=
  plC F53_p func53 h
def F134_1 (R : Rt) (n0 : Int) (ds : Ds) (w : World) : Prop :=
 runD prog ds w fun w1 =>
 R (.returned (.bool (n0 != n0))) w1
theorem F134_p : Pl prog f134 [iS 0] F134_1 := fun R =>
  lf
theorem F134_calls (n0 : Int) (w : World) (R : Rt) (h : F134_1 R n0 [] w) : Calls prog 134 #[.int .i64 n0] w R :=
  plC F134_p func134 h
end Go.Proofs.YtnigfiljenfgjaaGreat

/- Shallow texts of functions, printed by program, each checked by the kernel against the loaded code. No condition. -/
set_option maxRecDepth 100000
set_option linter.unusedVariables false
namespace Go.Proofs.YtnigfiljenfgjaaGreat
open Go.Sh Tryz
def F20_1 (R : Rt) (p0 p3 : Option Addr) (ds : Ds) (w : World) : Prop :=
 ptrE p0 fun a1 =>
 ∃ l54 : SV, w.cell? (a1.add 7) = some (.slice l54.a l54.len l54.cap) /\
 Calls prog 62 #[.slice l54.a l54.len l54.cap] w fun e w2 =>
 ∃ l55 : SV, e = .returned (.slice l55.a l55.len l55.cap) /\
 ptrE p3 fun a3 =>
 st1 (a3.add 7) (.slice l55.a l55.len l55.cap) w2 fun w4 =>
 runD prog ds w4 fun w5 =>
 R (.returned (.pointer p3)) w5
def F20_2 (R : Rt) (J1 : (Int) -> World -> Prop) (p0 p3 : Option Addr) (n34 : Int) (ds : Ds) (w : World) : Prop :=
 Br (decide (n34 < 4)) (
 dwE w fun w6 =>
 ptrE p0 fun a7 =>
 0 <= n34 /\ n34 < (4 : Int) /\
 ∃ m44, w6.cell? ((a7.add 3).add (n34.toNat * 1)) = some (.map m44) /\
 ptrE p3 fun a8 =>
 Calls prog 61 #[.map m44] w6 fun e w9 =>
 ∃ m45 : Option Nat, e = .returned (.map m45) /\
 0 <= n34 /\ n34 < (4 : Int) /\
 st1 ((a8.add 3).add (n34.toNat * 1)) (.map m45) w9 fun w10 =>
 J1 (IntKind.i64.wrap (n34 + 1)) w10) (
 F20_1 R p0 p3 ds w)
def F20_3 (R : Rt) (p0 p3 : Option Addr) (n34 : Int) (ds : Ds) (w : World) : Prop :=
 loopT (fun (J1 : (Int) -> World -> Prop) (s : Int) (w : World) => F20_2 R J1 p0 p3 s ds w) n34 w
def F20_5 (R : Rt) (p0 p3 : Option Addr) (ds : Ds) (w : World) : Prop :=
 F20_3 R p0 p3 0 ds w
def F20_6 (R : Rt) (J1 : (Unit) -> World -> Prop) (p0 p3 p21 : Option Addr) (ds : Ds) (w : World) : Prop :=
 (∃ w11, (Instr.next (.pointer p21) false 0).run prog w = .ok (.tuple #[.bool false]) w11 /\
 F20_5 R p0 p3 ds w11) ∨ (∃ k22 v22 : Value, ∃ w12, (Instr.next (.pointer p21) false 0).run prog w = .ok (.tuple #[.bool true, k22, v22]) w12 /\
 ∃ k24 v24 : Value, ∃ w13, (Instr.entry (.pointer p21)).run prog w12 = .ok (.tuple #[k24, v24]) w13 /\
 dStr k24 fun s25 =>
 dSl v24 fun l26 =>
 dwE w13 fun w14 =>
 ∃ S2 : World -> Prop, S2 w14 /\
 ptrE p3 fun a15 =>
 ∃ m30, (∀ w', S2 w' -> w'.cell? (a15.add 2) = some (.map m30)) /\
 Calls prog 50 #[.slice l26.a l26.len l26.cap] w14 fun e w16 =>
 ∃ l33 : SV, e = .returned (.slice l33.a l33.len l33.cap) /\
 S2 w16 /\
 doE prog (Instr.mapUpdate 55 (.map m30) (.string s25) (.slice l33.a l33.len l33.cap)) w16 fun w17 =>
 J1 () w17)
def F20_7 (R : Rt) (p0 p3 p21 : Option Addr) (ds : Ds) (w : World) : Prop :=
 loopT (fun (J1 : (Unit) -> World -> Prop) (_ : Unit) (w : World) => F20_6 R J1 p0 p3 p21 ds w) () w
def F20_9 (R : Rt) (p0 : Option Addr) (ds : Ds) (w : World) : Prop :=
 ∃ b8 : Bool, ∃ w18, (eqS .eql 25 (.tmp 7) (.const (.pointer none)) (.pointer p0) (.pointer none)).run prog w = .ok (.bool b8) w18 /\
 Br b8 (
 runD prog ds w18 fun w19 =>
 R (.returned (.pointer none)) w19) (
 ptrE p0 fun a20 =>
 Calls prog 46 #[.pointer (some a20)] w18 fun e w21 =>
 e = .returned (.tuple #[]) /\
 ptrE p0 fun a22 =>
 Calls prog 9 #[] w21 fun e w23 =>
 ∃ p16 : Option Addr, e = .returned (.pointer p16) /\
 ptrE p0 fun a24 =>
 ∃ m20, w23.cell? (a24.add 2) = some (.map m20) /\
 ∃ p21 : Option Addr, ∃ w25, (Instr.range 55 (.map m20)).run prog w23 = .ok (.pointer p21) w25 /\
 F20_7 R p0 p16 p21 ({ target := .fn (.func 47) #[], args := #[.pointer (some a22)] } :: ds) w25)
theorem F20_p : Pl prog f20 [pS 0] F20_9 := fun R =>
  pc 7 (rest [pS 0, pS 3, pS 21] (F20_7 R) (bk 0 (rest [pS 0, pS 3] (F20_5 R) (pc 1 (rest [pS 0, pS 3, iS 34] (F20_3 R) (bk 2 (rest [pS 0, pS 3] (F20_1 R) lf) (lp [iS 34] [pS 0, pS 3, iS 34] (F20_2 R) rnil fun J1 => lf))))) (lp [] [pS 0, pS 3, pS 21] (F20_6 R) rnil fun J1 => lf)))
theorem F20_calls (p0 : Option Addr) (w : World) (R : Rt) (h : F20_9 R p0 [] w) : Calls prog 20 #[.pointer p0] w R :=
  plC F20_p func20 h
def F19_1 (R : Rt) (p0 p1 p5 p6 : Option Addr) (ds : Ds) (w : World) : Prop :=
 dwE w fun w1 =>
 ptrE p5 fun a2 =>
 ∃ m47, w1.cell? (a2.add 2) = some (.map m47) /\
 ptrE p6 fun a3 =>
 ∃ m51, w1.cell? (a3.add 2) = some (.map m51) /\
 Calls prog 58 #[.map m47, .map m51, .func (.func 59) #[] #[]] w1 fun e w4 =>
 ∃ b52 : Bool, e = .returned (.bool b52) /\
 Br b52 (
 Calls prog 18 #[.pointer p0] w4 fun e w5 =>
 ∃ l55 : SV, e = .returned (.slice l55.a l55.len l55.cap) /\
 Calls prog 18 #[.pointer p1] w5 fun e w6 =>
 ∃ l57 : SV, e = .returned (.slice l57.a l57.len l57.cap) /\
 Calls prog 60 #[.slice l55.a l55.len l55.cap, .slice l57.a l57.len l57.cap] w6 fun e w7 =>
 ∃ b58 : Bool, e = .returned (.bool b58) /\
 runD prog ds w7 fun w8 =>
 R (.returned (.bool b58)) w8) (
 runD prog ds w4 fun w9 =>
 R (.returned (.bool false)) w9)
def F19_2 (R : Rt) (J1 : (Int) -> World -> Prop) (p0 p1 p5 p6 : Option Addr) (n26 : Int) (ds : Ds) (w : World) : Prop :=
 Br (decide (n26 < 4)) (
 dwE w fun w10 =>
 ptrE p5 fun a11 =>
 0 <= n26 /\ n26 < (4 : Int) /\
 ∃ m34, w10.cell? ((a11.add 3).add (n26.toNat * 1)) = some (.map m34) /\
 ptrE p6 fun a12 =>
 0 <= n26 /\ n26 < (4 : Int) /\
 ∃ m40, w10.cell? ((a12.add 3).add (n26.toNat * 1)) = some (.map m40) /\
 Calls prog 57 #[.map m34, .map m40] w10 fun e w13 =>
 ∃ b41 : Bool, e = .returned (.bool b41) /\
 Br (!b41) (
 runD prog ds w13 fun w14 =>
 R (.returned (.bool false)) w14) (
 J1 (IntKind.i64.wrap (n26 + 1)) w13)) (
 F19_1 R p0 p1 p5 p6 ds w)
def F19_3 (R : Rt) (p0 p1 p5 p6 : Option Addr) (n26 : Int) (ds : Ds) (w : World) : Prop :=
 loopT (fun (J1 : (Int) -> World -> Prop) (s : Int) (w : World) => F19_2 R J1 p0 p1 p5 p6 s ds w) n26 w
def F19_5 (R : Rt) (p0 p1 : Option Addr) (ds : Ds) (w : World) : Prop :=
 ∃ b9 : Bool, ∃ w15, (eqS .eql 25 (.tmp 8) (.const (.pointer none)) (.pointer p0) (.pointer none)).run prog w = .ok (.bool b9) w15 /\
 Br b9 (
 ∃ b21 : Bool, ∃ w16, (eqS .eql 25 (.tmp 19) (.tmp 20) (.pointer p0) (.pointer p1)).run prog w15 = .ok (.bool b21) w16 /\
 runD prog ds w16 fun w17 =>
 R (.returned (.bool b21)) w17) (
 ∃ b12 : Bool, ∃ w18, (eqS .eql 25 (.tmp 11) (.const (.pointer none)) (.pointer p1) (.pointer none)).run prog w15 = .ok (.bool b12) w18 /\
 Br b12 (
 ∃ b21 : Bool, ∃ w19, (eqS .eql 25 (.tmp 19) (.tmp 20) (.pointer p0) (.pointer p1)).run prog w18 = .ok (.bool b21) w19 /\
 runD prog ds w19 fun w20 =>
 R (.returned (.bool b21)) w20) (
 ∃ b17 : Bool, ∃ w21, (eqS .eql 25 (.tmp 15) (.tmp 16) (.pointer p0) (.pointer p1)).run prog w18 = .ok (.bool b17) w21 /\
 Br b17 (
 ∃ b21 : Bool, ∃ w22, (eqS .eql 25 (.tmp 19) (.tmp 20) (.pointer p0) (.pointer p1)).run prog w21 = .ok (.bool b21) w22 /\
 runD prog ds w22 fun w23 =>
 R (.returned (.bool b21)) w23) (
 Calls prog 20 #[.pointer p0] w21 fun e w24 =>
 ∃ p23 : Option Addr, e = .returned (.pointer p23) /\
 Calls prog 20 #[.pointer p1] w24 fun e w25 =>
 ∃ p25 : Option Addr, e = .returned (.pointer p25) /\
 F19_3 R p0 p1 p23 p25 0 ds w25)))
theorem F19_p : Pl prog f19 [pS 0, pS 1] F19_5 := fun R =>
  pc 5 (rest [pS 0, pS 1, pS 5, pS 6, iS 26] (F19_3 R) (bk 0 (rest [pS 0, pS 1, pS 5, pS 6] (F19_1 R) lf) (lp [iS 26] [pS 0, pS 1, pS 5, pS 6, iS 26] (F19_2 R) rnil fun J1 => lf)))
theorem F19_calls (p0 p1 : Option Addr) (w : World) (R : Rt) (h : F19_5 R p0 p1 [] w) : Calls prog 19 #[.pointer p0, .pointer p1] w R :=
  plC F19_p func19 h
def F57_1 (R : Rt) (ds : Ds) (w : World) : Prop :=
 runD prog ds w fun w1 =>
 R (.returned (.bool true)) w1
def F57_2 (R : Rt) (J1 : (Unit) -> World -> Prop) (m1 : Option Nat) (p15 : Option Addr) (ds : Ds) (w : World) : Prop :=
 (∃ w2, (Instr.next (.pointer p15) false 0).run prog w = .ok (.tuple #[.bool false]) w2 /\
 F57_1 R ds w2) ∨ (∃ k16 v16 : Value, ∃ w3, (Instr.next (.pointer p15) false 0).run prog w = .ok (.tuple #[.bool true, k16, v16]) w3 /\
 ∃ k18 v18 : Value, ∃ w4, (Instr.entry (.pointer p15)).run prog w3 = .ok (.tuple #[k18, v18]) w4 /\
 dAgg k18 fun q19 =>
 dHd q19 fun x19_0 q19_0 =>
 dStr x19_0 fun s19_0 =>
 dHd q19_0 fun x19_1 q19_1 =>
 dInt .i64 x19_1 fun n19_1 =>
 dNil q19_1 (
 dRow v18 fun c20 =>
 alE (.cells #[.string (⟨#[]⟩ : ByteArray), .int .i64 0] 92) w4 fun r5 w5 =>
 alE (.cells (zc prog 89) 89) w5 fun r6 w6 =>
 stA prog 92 (⟨r5, 0, none⟩ : Addr) #[.string s19_0, .int .i64 n19_1] w6 fun w7 =>
 stA prog 89 (⟨r6, 0, none⟩ : Addr) c20 w7 fun w8 =>
 ∃ s23_0, w8.cell? ((⟨r5, 0, none⟩ : Addr).add 0) = some (.string s23_0) /\
 ∃ n23_1, w8.cell? ((⟨r5, 0, none⟩ : Addr).add 1) = some (.int .i64 n23_1) /\
 ∃ c24_0 : Array Value, c24_0.size = 96 /\ ∃ b24_1 : Bool, ∃ w9, (Instr.lookup 63 (.map m1) (.agg #[.string s23_0, .int .i64 n23_1]) true).run prog w8 = .ok (.tuple #[.agg c24_0, .bool b24_1]) w9 /\
 alE (.cells (zc prog 89) 89) w9 fun r7 w10 =>
 stA prog 89 (⟨r7, 0, none⟩ : Addr) c24_0 w10 fun w11 =>
 Br (!b24_1) (
 runD prog ds w11 fun w12 =>
 R (.returned (.bool false)) w12) (
 ∃ c30 : Array Value, c30.size = 96 /\ (∀ i, i < 96 -> w11.cell? ((⟨r6, 0, none⟩ : Addr).add i) = c30[i]?) /\
 ∃ c31 : Array Value, c31.size = 96 /\ (∀ i, i < 96 -> w11.cell? ((⟨r7, 0, none⟩ : Addr).add i) = c31[i]?) /\
 ∃ b32 : Bool, ∃ w13, (eqS .neq 89 (.tmp 30) (.tmp 31) (.agg c30) (.agg c31)).run prog w11 = .ok (.bool b32) w13 /\
 Br b32 (
 runD prog ds w13 fun w14 =>
 R (.returned (.bool false)) w14) (
 J1 () w13))))
def F57_3 (R : Rt) (m1 : Option Nat) (p15 : Option Addr) (ds : Ds) (w : World) : Prop :=
 loopT (fun (J1 : (Unit) -> World -> Prop) (_ : Unit) (w : World) => F57_2 R J1 m1 p15 ds w) () w
def F57_5 (R : Rt) (m0 m1 : Option Nat) (ds : Ds) (w : World) : Prop :=
 ∃ n10 : Int, ∃ w15, (Builtin.len_ #[63] 3 #[.map m0]).run prog w = .ok (.int .i64 n10) w15 /\
 ∃ n12 : Int, ∃ w16, (Builtin.len_ #[63] 3 #[.map m1]).run prog w15 = .ok (.int .i64 n12) w16 /\
 Br (n10 != n12) (
 runD prog ds w16 fun w17 =>
 R (.returned (.bool false)) w17) (
 ∃ p15 : Option Addr, ∃ w18, (Instr.range 63 (.map m0)).run prog w16 = .ok (.pointer p15) w18 /\
 F57_3 R m1 p15 ds w18)
theorem F57_p : Pl prog f57 [mS 0, mS 1] F57_5 := fun R =>
  pc 4 (rest [mS 1, pS 15] (F57_3 R) (bk 0 (rest [] (F57_1 R) lf) (lp [] [mS 1, pS 15] (F57_2 R) rnil fun J1 => lf)))
theorem F57_calls (m0 m1 : Option Nat) (w : World) (R : Rt) (h : F57_5 R m0 m1 [] w) : Calls prog 57 #[.map m0, .map m1] w R :=
  plC F57_p func57 h
def F58_1 (R : Rt) (ds : Ds) (w : World) : Prop :=
 runD prog ds w fun w1 =>
 R (.returned (.bool true)) w1
def F58_2 (R : Rt) (J1 : (Unit) -> World -> Prop) (m1 : Option Nat) (v2 : Value) (p17 : Option Addr) (ds : Ds) (w : World) : Prop :=
 (∃ w2, (Instr.next (.pointer p17) false 0).run prog w = .ok (.tuple #[.bool false]) w2 /\
 F58_1 R ds w2) ∨ (∃ k18 v18 : Value, ∃ w3, (Instr.next (.pointer p17) false 0).run prog w = .ok (.tuple #[.bool true, k18, v18]) w3 /\
 ∃ k20 v20 : Value, ∃ w4, (Instr.entry (.pointer p17)).run prog w3 = .ok (.tuple #[k20, v20]) w4 /\
 dStr k20 fun s21 =>
 dSl v20 fun l22 =>
 ∃ l26_0 : SV, ∃ b26_1 : Bool, ∃ w5, (Instr.lookup 55 (.map m1) (.string s21) true).run prog w4 = .ok (.tuple #[.slice l26_0.a l26_0.len l26_0.cap, .bool b26_1]) w5 /\
 Br (!b26_1) (
 runD prog ds w5 fun w6 =>
 R (.returned (.bool false)) w6) (
 fnE v2 fun f35 first35 cap35 =>
 hasBody prog f35 = true /\ Calls prog f35 (first35.toList ++ (([.slice l22.a l22.len l22.cap, .slice l26_0.a l26_0.len l26_0.cap] : List Value) ++ cap35.toList)).toArray w5 fun e w7 =>
 ∃ b35 : Bool, e = .returned (.bool b35) /\
 Br (!b35) (
 runD prog ds w7 fun w8 =>
 R (.returned (.bool false)) w8) (
 J1 () w7)))
def F58_3 (R : Rt) (m1 : Option Nat) (v2 : Value) (p17 : Option Addr) (ds : Ds) (w : World) : Prop :=
 loopT (fun (J1 : (Unit) -> World -> Prop) (_ : Unit) (w : World) => F58_2 R J1 m1 v2 p17 ds w) () w
def F58_5 (R : Rt) (m0 m1 : Option Nat) (v2 : Value) (ds : Ds) (w : World) : Prop :=
 ∃ n12 : Int, ∃ w9, (Builtin.len_ #[55] 3 #[.map m0]).run prog w = .ok (.int .i64 n12) w9 /\
 ∃ n14 : Int, ∃ w10, (Builtin.len_ #[55] 3 #[.map m1]).run prog w9 = .ok (.int .i64 n14) w10 /\
 Br (n12 != n14) (
 runD prog ds w10 fun w11 =>
 R (.returned (.bool false)) w11) (
 ∃ p17 : Option Addr, ∃ w12, (Instr.range 55 (.map m0)).run prog w10 = .ok (.pointer p17) w12 /\
 F58_3 R m1 (v2) p17 ds w12)
theorem F58_p : Pl prog f58 [mS 0, mS 1, vS 2] F58_5 := fun R =>
  pc 4 (rest [mS 1, vS 2, pS 17] (F58_3 R) (bk 0 (rest [] (F58_1 R) lf) (lp [] [mS 1, vS 2, pS 17] (F58_2 R) rnil fun J1 => lf)))
theorem F58_calls (m0 m1 : Option Nat) (v2 : Value) (w : World) (R : Rt) (h : F58_5 R m0 m1 v2 [] w) : Calls prog 58 #[.map m0, .map m1, v2] w R :=
  plC F58_p func58 h
def F59_1 (R : Rt) (ds : Ds) (w : World) : Prop :=
 runD prog ds w fun w1 =>
 R (.returned (.bool true)) w1
def F59_2 (R : Rt) (J1 : (Int) -> World -> Prop) (l0 l1 : SV) (n12 n13 : Int) (ds : Ds) (w : World) : Prop :=
 Br (decide (n13 < n12)) (
 dwE w fun w2 =>
 ∃ a3, l0.a = some a3 /\ 0 <= n13 /\ n13 < (l0.len : Int) /\
 ∃ n19, w2.cell? (a3.add (n13.toNat * 1)) = some (.int .u8 n19) /\
 ∃ a4, l1.a = some a4 /\ 0 <= n13 /\ n13 < (l1.len : Int) /\
 ∃ n23, w2.cell? (a4.add (n13.toNat * 1)) = some (.int .u8 n23) /\
 Br (n19 != n23) (
 runD prog ds w2 fun w5 =>
 R (.returned (.bool false)) w5) (
 J1 (IntKind.i64.wrap (n13 + 1)) w2)) (
 F59_1 R ds w)
def F59_3 (R : Rt) (l0 l1 : SV) (n12 n13 : Int) (ds : Ds) (w : World) : Prop :=
 loopT (fun (J1 : (Int) -> World -> Prop) (s : Int) (w : World) => F59_2 R J1 l0 l1 n12 s ds w) n13 w
def F59_5 (R : Rt) (l0 l1 : SV) (ds : Ds) (w : World) : Prop :=
 Br ((l0.len : Int) != (l1.len : Int)) (
 runD prog ds w fun w6 =>
 R (.returned (.bool false)) w6) (
 F59_3 R l0 l1 (l0.len : Int) 0 ds w)
theorem F59_p : Pl prog f59 [lS 0, lS 1] F59_5 := fun R =>
  pc 4 (rest [lS 0, lS 1, iS 12, iS 13] (F59_3 R) (bk 0 (rest [] (F59_1 R) lf) (lp [iS 13] [lS 0, lS 1, iS 12, iS 13] (F59_2 R) rnil fun J1 => lf)))
theorem F59_calls (l0 l1 : SV) (w : World) (R : Rt) (h : F59_5 R l0 l1 [] w) : Calls prog 59 #[.slice l0.a l0.len l0.cap, .slice l1.a l1.len l1.cap] w R :=
  plC F59_p func59 h
def F60_1 (R : Rt) (ds : Ds) (w : World) : Prop :=
 runD prog ds w fun w1 =>
 R (.returned (.bool true)) w1
def F60_2 (R : Rt) (J1 : (Int) -> World -> Prop) (l0 l1 : SV) (n12 n13 : Int) (ds : Ds) (w : World) : Prop :=
 Br (decide (n13 < n12)) (
 dwE w fun w2 =>
 ∃ a3, l0.a = some a3 /\ 0 <= n13 /\ n13 < (l0.len : Int) /\
 ∃ n19_0, w2.cell? ((a3.add (n13.toNat * 4)).add 0) = some (.int .i64 n19_0) /\
 ∃ n19_1, w2.cell? ((a3.add (n13.toNat * 4)).add 1) = some (.int .i64 n19_1) /\
 ∃ n19_2, w2.cell? ((a3.add (n13.toNat * 4)).add 2) = some (.int .i64 n19_2) /\
 ∃ n19_3, w2.cell? ((a3.add (n13.toNat * 4)).add 3) = some (.int .i64 n19_3) /\
 ∃ a4, l1.a = some a4 /\ 0 <= n13 /\ n13 < (l1.len : Int) /\
 ∃ n23_0, w2.cell? ((a4.add (n13.toNat * 4)).add 0) = some (.int .i64 n23_0) /\
 ∃ n23_1, w2.cell? ((a4.add (n13.toNat * 4)).add 1) = some (.int .i64 n23_1) /\
 ∃ n23_2, w2.cell? ((a4.add (n13.toNat * 4)).add 2) = some (.int .i64 n23_2) /\
 ∃ n23_3, w2.cell? ((a4.add (n13.toNat * 4)).add 3) = some (.int .i64 n23_3) /\
 ∃ b24 : Bool, (∀ w, (eqS .neq 103 (.tmp 19) (.tmp 23) (.agg #[.int .i64 n19_0, .int .i64 n19_1, .int .i64 n19_2, .int .i64 n19_3]) (.agg #[.int .i64 n23_0, .int .i64 n23_1, .int .i64 n23_2, .int .i64 n23_3])).run prog w = .ok (.bool b24) w) /\
 Br b24 (
 runD prog ds w2 fun w5 =>
 R (.returned (.bool false)) w5) (
 J1 (IntKind.i64.wrap (n13 + 1)) w2)) (
 F60_1 R ds w)
def F60_3 (R : Rt) (l0 l1 : SV) (n12 n13 : Int) (ds : Ds) (w : World) : Prop :=
 loopT (fun (J1 : (Int) -> World -> Prop) (s : Int) (w : World) => F60_2 R J1 l0 l1 n12 s ds w) n13 w
def F60_5 (R : Rt) (l0 l1 : SV) (ds : Ds) (w : World) : Prop :=
 Br ((l0.len : Int) != (l1.len : Int)) (
 runD prog ds w fun w6 =>
 R (.returned (.bool false)) w6) (
 F60_3 R l0 l1 (l0.len : Int) 0 ds w)
theorem F60_p : Pl prog f60 [lS 0, lS 1] F60_5 := fun R =>
  pc 4 (rest [lS 0, lS 1, iS 12, iS 13] (F60_3 R) (bk 0 (rest [] (F60_1 R) lf) (lp [iS 13] [lS 0, lS 1, iS 12, iS 13] (F60_2 R) rnil fun J1 => lf)))
theorem F60_calls (l0 l1 : SV) (w : World) (R : Rt) (h : F60_5 R l0 l1 [] w) : Calls prog 60 #[.slice l0.a l0.len l0.cap, .slice l1.a l1.len l1.cap] w R :=
  plC F60_p func60 h
def F62_1 (R : Rt) (l0 : SV) (ds : Ds) (w : World) : Prop :=
 ∃ b4 : Bool, ∃ w1, (eqS .eql 65 (.tmp 3) (.const (.slice none 0 0)) (.slice l0.a l0.len l0.cap) (.slice none 0 0)).run prog w = .ok (.bool b4) w1 /\
 Br b4 (
 runD prog ds w1 fun w2 =>
 R (.returned (.slice none 0 0)) w2) (
 alE (.cells #[] 95) w1 fun r5 w3 =>
 ∃ l7 : SV, ∃ w4, (Builtin.append_ #[65, 65] 65 #[.slice (some ⟨r5, 0, none⟩) 0 0, .slice l0.a l0.len l0.cap]).run prog w3 = .ok (.slice l7.a l7.len l7.cap) w4 /\
 runD prog ds w4 fun w5 =>
 R (.returned (.slice l7.a l7.len l7.cap)) w5)
theorem F62_p : Pl prog f62 [lS 0] F62_1 := fun R =>
  lf
theorem F62_calls (l0 : SV) (w : World) (R : Rt) (h : F62_1 R l0 [] w) : Calls prog 62 #[.slice l0.a l0.len l0.cap] w R :=
  plC F62_p func62 h
def F6_1 (R : Rt) (p5 p6 p8 p9 : Option Addr) (ds : Ds) (w : World) : Prop :=
 Calls prog 19 #[.pointer p5, .pointer p8] w fun e w1 =>
 ∃ b64 : Bool, e = .returned (.bool b64) /\
 Calls prog 23 #[.pointer p6, .pointer p9] w1 fun e w2 =>
 ∃ b67 : Bool, e = .returned (.bool b67) /\
 Br (b64 == b67) (
 Calls prog 21 #[.pointer p5, .pointer p6] w2 fun e w3 =>
 ∃ b72 : Bool, e = .returned (.bool b72) /\
 Br b72 (
 Calls prog 8 #[] w3 fun e w4 =>
 ∃ b75 : Bool, e = .returned (.bool b75) /\
 runD prog ds w4 fun w5 =>
 R (.returned (.bool b75)) w5) (
 runD prog ds w3 fun w6 =>
 R (.returned (.bool false)) w6)) (
 runD prog ds w2 fun w7 =>
 R (.returned (.bool false)) w7)
def F6_2 (R : Rt) (J1 : (Int) -> World -> Prop) (l1 : SV) (p5 p6 p8 p9 : Option Addr) (n10 : Int) (ds : Ds) (w : World) : Prop :=
 Br (decide (n10 < (l1.len : Int))) (
 ∃ a8, l1.a = some a8 /\ 0 <= n10 /\ n10 < (l1.len : Int) /\
 ∃ n59_0, w.cell? ((a8.add (n10.toNat * 6)).add 0) = some (.int .i64 n59_0) /\
 ∃ n59_1, w.cell? ((a8.add (n10.toNat * 6)).add 1) = some (.int .i64 n59_1) /\
 ∃ n59_2, w.cell? ((a8.add (n10.toNat * 6)).add 2) = some (.int .i64 n59_2) /\
 ∃ n59_3, w.cell? ((a8.add (n10.toNat * 6)).add 3) = some (.int .i64 n59_3) /\
 ∃ s59_4, w.cell? ((a8.add (n10.toNat * 6)).add 4) = some (.string s59_4) /\
 ∃ s59_5, w.cell? ((a8.add (n10.toNat * 6)).add 5) = some (.string s59_5) /\
 Calls prog 11 #[.pointer p8, .pointer p9, .agg #[.int .i64 n59_0, .int .i64 n59_1, .int .i64 n59_2, .int .i64 n59_3, .string s59_4, .string s59_5]] w fun e w9 =>
 ∃ b60 : Bool, e = .returned (.bool b60) /\
 Br (!b60) (
 runD prog ds w9 fun w10 =>
 R (.returned (.bool false)) w10) (
 J1 (IntKind.i64.wrap (n10 + 1)) w9)) (
 F6_1 R p5 p6 p8 p9 ds w)
def F6_3 (R : Rt) (l1 : SV) (p5 p6 p8 p9 : Option Addr) (n10 : Int) (ds : Ds) (w : World) : Prop :=
 loopT (fun (J1 : (Int) -> World -> Prop) (s : Int) (w : World) => F6_2 R J1 l1 p5 p6 p8 p9 s ds w) n10 w
def F6_5 (R : Rt) (l1 : SV) (p5 p6 : Option Addr) (ds : Ds) (w : World) : Prop :=
 Calls prog 20 #[.pointer p5] w fun e w11 =>
 ∃ p37 : Option Addr, e = .returned (.pointer p37) /\
 Calls prog 22 #[.pointer p6] w11 fun e w12 =>
 ∃ p39 : Option Addr, e = .returned (.pointer p39) /\
 ∃ b41 : Bool, ∃ w13, (eqS .eql 25 (.tmp 40) (.const (.pointer none)) (.pointer p37) (.pointer none)).run prog w12 = .ok (.bool b41) w13 /\
 Br b41 (
 runD prog ds w13 fun w14 =>
 R (.returned (.bool false)) w14) (
 Calls prog 19 #[.pointer p5, .pointer p37] w13 fun e w15 =>
 ∃ b45 : Bool, e = .returned (.bool b45) /\
 Br (!b45) (
 runD prog ds w15 fun w16 =>
 R (.returned (.bool false)) w16) (
 F6_3 R l1 p5 p6 p37 p39 0 ds w15))
def F6_6 (R : Rt) (J1 : (Int) -> World -> Prop) (l0 l1 : SV) (p5 p6 : Option Addr) (n7 : Int) (ds : Ds) (w : World) : Prop :=
 Br (decide (n7 < (l0.len : Int))) (
 ∃ a17, l0.a = some a17 /\ 0 <= n7 /\ n7 < (l0.len : Int) /\
 ∃ n33_0, w.cell? ((a17.add (n7.toNat * 6)).add 0) = some (.int .i64 n33_0) /\
 ∃ n33_1, w.cell? ((a17.add (n7.toNat * 6)).add 1) = some (.int .i64 n33_1) /\
 ∃ n33_2, w.cell? ((a17.add (n7.toNat * 6)).add 2) = some (.int .i64 n33_2) /\
 ∃ n33_3, w.cell? ((a17.add (n7.toNat * 6)).add 3) = some (.int .i64 n33_3) /\
 ∃ s33_4, w.cell? ((a17.add (n7.toNat * 6)).add 4) = some (.string s33_4) /\
 ∃ s33_5, w.cell? ((a17.add (n7.toNat * 6)).add 5) = some (.string s33_5) /\
 Calls prog 11 #[.pointer p5, .pointer p6, .agg #[.int .i64 n33_0, .int .i64 n33_1, .int .i64 n33_2, .int .i64 n33_3, .string s33_4, .string s33_5]] w fun e w18 =>
 ∃ b34 : Bool, e = .returned (.bool b34) /\
 Br (!b34) (
 runD prog ds w18 fun w19 =>
 R (.returned (.bool false)) w19) (
 J1 (IntKind.i64.wrap (n7 + 1)) w18)) (
 F6_5 R l1 p5 p6 ds w)
def F6_7 (R : Rt) (l0 l1 : SV) (p5 p6 : Option Addr) (n7 : Int) (ds : Ds) (w : World) : Prop :=
 loopT (fun (J1 : (Int) -> World -> Prop) (s : Int) (w : World) => F6_6 R J1 l0 l1 p5 p6 s ds w) n7 w
def F6_9 (R : Rt) (l0 l1 : SV) (ds : Ds) (w : World) : Prop :=
 Calls prog 7 #[.slice l0.a l0.len l0.cap] w fun e w20 =>
 ∃ b12 : Bool, e = .returned (.bool b12) /\
 Br b12 (
 Calls prog 8 #[] w20 fun e w21 =>
 ∃ b17 : Bool, e = .returned (.bool b17) /\
 runD prog ds w21 fun w22 =>
 R (.returned (.bool b17)) w22) (
 Calls prog 7 #[.slice l1.a l1.len l1.cap] w20 fun e w23 =>
 ∃ b15 : Bool, e = .returned (.bool b15) /\
 Br b15 (
 Calls prog 8 #[] w23 fun e w24 =>
 ∃ b17 : Bool, e = .returned (.bool b17) /\
 runD prog ds w24 fun w25 =>
 R (.returned (.bool b17)) w25) (
 Calls prog 9 #[] w23 fun e w26 =>
 ∃ p18 : Option Addr, e = .returned (.pointer p18) /\
 Calls prog 10 #[] w26 fun e w27 =>
 ∃ p19 : Option Addr, e = .returned (.pointer p19) /\
 ∃ b21 : Bool, ∃ w28, (eqS .eql 25 (.tmp 20) (.const (.pointer none)) (.pointer p18) (.pointer none)).run prog w27 = .ok (.bool b21) w28 /\
 Br b21 (
 runD prog ds w28 fun w29 =>
 R (.returned (.bool false)) w29) (
 F6_7 R l0 l1 p18 p19 0 ds w28)))
theorem F6_p : Pl prog f6 [lS 0, lS 1] F6_9 := fun R =>
  pc 7 (rest [lS 0, lS 1, pS 5, pS 6, iS 7] (F6_7 R) (bk 0 (rest [lS 1, pS 5, pS 6] (F6_5 R) (pc 4 (rest [lS 1, pS 5, pS 6, pS 8, pS 9, iS 10] (F6_3 R) (bk 2 (rest [pS 5, pS 6, pS 8, pS 9] (F6_1 R) lf) (lp [iS 10] [lS 1, pS 5, pS 6, pS 8, pS 9, iS 10] (F6_2 R) rnil fun J1 => lf))))) (lp [iS 7] [lS 0, lS 1, pS 5, pS 6, iS 7] (F6_6 R) rnil fun J1 => lf)))
theorem F6_calls (l0 l1 : SV) (w : World) (R : Rt) (h : F6_9 R l0 l1 [] w) : Calls prog 6 #[.slice l0.a l0.len l0.cap, .slice l1.a l1.len l1.cap] w R :=
  plC F6_p func6 h
end Go.Proofs.YtnigfiljenfgjaaGreat
