import Derived.Test.YtcihcbfcgjepfaaGreatDoorProg
import Derived.Test.YtcihcbfcgjepfaaGreatDoorShTwentyEight
/- Shallow texts of functions, printed by program, each checked by the kernel against the loaded code. No condition. -/
set_option maxRecDepth 100000
set_option linter.unusedVariables false
namespace Go.Proofs.YtcihcbfcgjepfaaGreatDoor
open Go.Sh Tryz
def F55_1 (R : Rt) (p0 : Option Addr) (n1 : Int) (p2 : Option Addr) (l15 : SV) (ds : Ds) (w : World) : Prop :=
 zQi p2 fun a1 =>
 ∃ n105, w.cell? (a1.add 1) = some (.int .i64 n105) /\
 Br (decide (n105 < 0)) (
 zQi p2 fun a2 =>
 ∃ n112, w.cell? (a2.add 1) = some (.int .i64 n112) /\
 ∃ a3, l15.a = some a3 /\ 0 <= (IntKind.i64.wrap ((IntKind.i64.wrap (0 - n112)) - 1)) /\ (IntKind.i64.wrap ((IntKind.i64.wrap (0 - n112)) - 1)) < (l15.len : Int) /\
 ∃ n116, w.cell? (a3.add ((IntKind.i64.wrap ((IntKind.i64.wrap (0 - n112)) - 1)).toNat * 1)) = some (.int .i64 n116) /\
 zQi p2 fun a4 =>
 st1 (a4.add 1) (.int .i64 n116) w fun w5 =>
 Calls prog 116 #[.pointer p0, .int .i64 n1, .pointer p2] w5 fun e w6 =>
 e = .returned (.tuple #[]) /\
 zQd prog ds w6 fun w7 =>
 R (.returned (.tuple #[.slice l15.a l15.len l15.cap, .int .i64 0])) w7) (
 Calls prog 116 #[.pointer p0, .int .i64 n1, .pointer p2] w fun e w8 =>
 e = .returned (.tuple #[]) /\
 zQd prog ds w8 fun w9 =>
 R (.returned (.tuple #[.slice l15.a l15.len l15.cap, .int .i64 0])) w9)
def F55_2 (R : Rt) (J1 : (SV × Int) -> World -> Prop) (p0 : Option Addr) (n1 : Int) (p2 : Option Addr) (l15 l74 : SV) (n75 n76 : Int) (ds : Ds) (w : World) : Prop :=
 Br (decide (n76 < n75)) (
 ∃ a10, l74.a = some a10 /\ 0 <= n76 /\ n76 < (l74.len : Int) /\
 ∃ b79_0, w.cell? ((a10.add (n76.toNat * 2)).add 0) = some (.bool b79_0) /\
 ∃ l79_1 : SV, w.cell? ((a10.add (n76.toNat * 2)).add 1) = some (.slice l79_1.a l79_1.len l79_1.cap) /\
 alE (.cells #[.bool false, .slice none 0 0] 77) w fun r17 w11 =>
 stA prog 77 (⟨r17, 0, none⟩ : Addr) #[.bool b79_0, .slice l79_1.a l79_1.len l79_1.cap] w11 fun w12 =>
 dwE w12 fun w13 =>
 ∃ S1 : World -> Prop, S1 w13 /\
 zQi p0 fun a14 =>
 ∃ l85 : SV, (∀ w', S1 w' -> w'.cell? ((a14.add 2).add 2) = some (.slice l85.a l85.len l85.cap)) /\
 ∃ b86_0, (∀ w', S1 w' -> w'.cell? ((⟨r17, 0, none⟩ : Addr).add 0) = some (.bool b86_0)) /\
 ∃ l86_1 : SV, (∀ w', S1 w' -> w'.cell? ((⟨r17, 0, none⟩ : Addr).add 1) = some (.slice l86_1.a l86_1.len l86_1.cap)) /\
 alE (.cells #[.bool b86_0, .slice l86_1.a l86_1.len l86_1.cap] 77) w13 fun r87 w15 =>
 S1 w15 /\
 ∃ l88 : SV, ∃ w16, (Builtin.append_ #[23, 23] 23 #[.slice l85.a l85.len l85.cap, .slice (some ⟨r87, 0, none⟩) 1 1]).run prog w15 = .ok (.slice l88.a l88.len l88.cap) w16 /\
 zQi p0 fun a17 =>
 st1 ((a17.add 2).add 2) (.slice l88.a l88.len l88.cap) w16 fun w18 =>
 zQi p0 fun a19 =>
 ∃ l97 : SV, w18.cell? ((a19.add 2).add 2) = some (.slice l97.a l97.len l97.cap) /\
 alE (.cells #[.int .i64 (l97.len : Int)] 3) w18 fun r99 w20 =>
 ∃ l100 : SV, ∃ w21, (Builtin.append_ #[43, 43] 43 #[.slice l15.a l15.len l15.cap, .slice (some ⟨r99, 0, none⟩) 1 1]).run prog w20 = .ok (.slice l100.a l100.len l100.cap) w21 /\
 J1 (l100, (IntKind.i64.wrap (n76 + 1))) w21) (
 F55_1 R p0 n1 p2 l15 ds w)
def F55_3 (R : Rt) (p0 : Option Addr) (n1 : Int) (p2 : Option Addr) (l15 l74 : SV) (n75 n76 : Int) (ds : Ds) (w : World) : Prop :=
 zQD (fun (J1 : (SV × Int) -> World -> Prop) (s : SV × Int) (w : World) => F55_2 R J1 p0 n1 p2 s.1 l74 n75 s.2 ds w) (l15, n76) w
def xXY (R : Rt) (p0 : Option Addr) (n1 : Int) (p2 : Option Addr) (ds : Ds) (w : World) : Prop :=
 zQi p2 fun a22 =>
 ∃ l74 : SV, w.cell? (a22.add 3) = some (.slice l74.a l74.len l74.cap) /\
 F55_3 R p0 n1 p2 ⟨none, 0, 0⟩ l74 (l74.len : Int) 0 ds w
def F55_6 (R : Rt) (J1 : (Unit) -> World -> Prop) (p0 : Option Addr) (n1 : Int) (p2 p55 : Option Addr) (ds : Ds) (w : World) : Prop :=
 (∃ w23, (Instr.next (.pointer p55) false 0).run prog w = .ok (.tuple #[.bool false]) w23 /\
 xXY R p0 n1 p2 ds w23) ∨ (∃ k56 v56 : Value, ∃ w24, (Instr.next (.pointer p55) false 0).run prog w = .ok (.tuple #[.bool true, k56, v56]) w24 /\
 ∃ k58 v58 : Value, ∃ w25, (Instr.entry (.pointer p55)).run prog w24 = .ok (.tuple #[k58, v58]) w25 /\
 yW2 .i64 k58 fun n59 =>
 yJd v58 fun q60 =>
 dHd q60 fun x60_0 q60_0 =>
 dBl x60_0 fun b60_0 =>
 dHd q60_0 fun x60_1 q60_1 =>
 dSl x60_1 fun l60_1 =>
 dHd q60_1 fun x60_2 q60_2 =>
 dBl x60_2 fun b60_2 =>
 dHd q60_2 fun x60_3 q60_3 =>
 dSl x60_3 fun l60_3 =>
 yJ3 q60_3 (
 alE (.cells #[.bool false, .slice none 0 0, .bool false, .slice none 0 0] 133) w25 fun r14 w26 =>
 stA prog 133 (⟨r14, 0, none⟩ : Addr) #[.bool b60_0, .slice l60_1.a l60_1.len l60_1.cap, .bool b60_2, .slice l60_3.a l60_3.len l60_3.cap] w26 fun w27 =>
 dwE w27 fun w28 =>
 ∃ b61_0, w28.cell? ((⟨r14, 0, none⟩ : Addr).add 0) = some (.bool b61_0) /\
 ∃ l61_1 : SV, w28.cell? ((⟨r14, 0, none⟩ : Addr).add 1) = some (.slice l61_1.a l61_1.len l61_1.cap) /\
 ∃ b61_2, w28.cell? ((⟨r14, 0, none⟩ : Addr).add 2) = some (.bool b61_2) /\
 ∃ l61_3 : SV, w28.cell? ((⟨r14, 0, none⟩ : Addr).add 3) = some (.slice l61_3.a l61_3.len l61_3.cap) /\
 zQi p0 fun a29 =>
 ∃ l66 : SV, w28.cell? ((a29.add 2).add 2) = some (.slice l66.a l66.len l66.cap) /\
 ∃ a30, l66.a = some a30 /\ 0 <= (IntKind.i64.wrap (n59 - 1)) /\ (IntKind.i64.wrap (n59 - 1)) < (l66.len : Int) /\
 Calls prog 115 #[.agg #[.bool b61_0, .slice l61_1.a l61_1.len l61_1.cap, .bool b61_2, .slice l61_3.a l61_3.len l61_3.cap], .pointer (some (a30.add ((IntKind.i64.wrap (n59 - 1)).toNat * 2)))] w28 fun e w31 =>
 e = .returned (.tuple #[]) /\
 J1 () w31))
def F55_7 (R : Rt) (p0 : Option Addr) (n1 : Int) (p2 p55 : Option Addr) (ds : Ds) (w : World) : Prop :=
 zQD (fun (J1 : (Unit) -> World -> Prop) (_ : Unit) (w : World) => F55_6 R J1 p0 n1 p2 p55 ds w) () w
def xXQ (R : Rt) (p0 : Option Addr) (n1 : Int) (p2 : Option Addr) (ds : Ds) (w : World) : Prop :=
 zQi p2 fun a32 =>
 ∃ m54, w.cell? (a32.add 2) = some (.map m54) /\
 ∃ p55 : Option Addr, ∃ w33, (Instr.range 88 (.map m54)).run prog w = .ok (.pointer p55) w33 /\
 F55_7 R p0 n1 p2 p55 ds w33
def xQT (R : Rt) (J1 : (Unit) -> World -> Prop) (p0 : Option Addr) (n1 : Int) (p2 p31 : Option Addr) (ds : Ds) (w : World) : Prop :=
 (∃ w34, (Instr.next (.pointer p31) false 0).run prog w = .ok (.tuple #[.bool false]) w34 /\
 xXQ R p0 n1 p2 ds w34) ∨ (∃ k32 v32 : Value, ∃ w35, (Instr.next (.pointer p31) false 0).run prog w = .ok (.tuple #[.bool true, k32, v32]) w35 /\
 ∃ k34 v34 : Value, ∃ w36, (Instr.entry (.pointer p31)).run prog w35 = .ok (.tuple #[k34, v34]) w36 /\
 yW2 .i64 k34 fun n35 =>
 zQi p0 fun a37 =>
 ∃ m40, w36.cell? (a37.add 21) = some (.map m40) /\
 ∃ n42_0 : Int, ∃ b42_1 : Bool, ∃ w38, (Instr.lookup 80 (.map m40) (.int .i64 n35) true).run prog w36 = .ok (.tuple #[.int .i64 n42_0, .bool b42_1]) w38 /\
 Br b42_1 (
 Br (n42_0 != n1) (
 zQd prog ds w38 fun w39 =>
 R (.returned (.tuple #[.slice none 0 0, .int .i64 12])) w39) (
 J1 () w38)) (
 J1 () w38))
def yX0 (R : Rt) (p0 : Option Addr) (n1 : Int) (p2 p31 : Option Addr) (ds : Ds) (w : World) : Prop :=
 zQD (fun (J1 : (Unit) -> World -> Prop) (_ : Unit) (w : World) => xQT R J1 p0 n1 p2 p31 ds w) () w
def xQp (R : Rt) (p0 : Option Addr) (n1 : Int) (p2 : Option Addr) (b3 : Bool) (ds : Ds) (w : World) : Prop :=
 Br (!b3) (
 Calls prog 114 #[.pointer p0, .pointer p2] w fun e w40 =>
 ∃ l23 : SV, e = .returned (.slice l23.a l23.len l23.cap) /\
 Br (decide ((l23.len : Int) > 0)) (
 zQd prog ds w40 fun w41 =>
 R (.returned (.tuple #[.slice none 0 0, .int .i64 13])) w41) (
 zQi p2 fun a42 =>
 ∃ m30, w40.cell? (a42.add 2) = some (.map m30) /\
 ∃ p31 : Option Addr, ∃ w43, (Instr.range 88 (.map m30)).run prog w40 = .ok (.pointer p31) w43 /\
 yX0 R p0 n1 p2 p31 ds w43)) (
 zQi p2 fun a44 =>
 ∃ m30, w.cell? (a44.add 2) = some (.map m30) /\
 ∃ p31 : Option Addr, ∃ w45, (Instr.range 88 (.map m30)).run prog w = .ok (.pointer p31) w45 /\
 yX0 R p0 n1 p2 p31 ds w45)
theorem F55_p : Pl prog f55 [pS 0, iS 1, pS 2, bS 3] xQp := fun R =>
 pc 4 (zQx [pS 0, iS 1, pS 2, pS 31] (yX0 R) (bk 0 (zQx [pS 0, iS 1, pS 2] (xXQ R) (pc 1 (zQx [pS 0, iS 1, pS 2, pS 55] (F55_7 R) (bk 2 (zQx [pS 0, iS 1, pS 2] (xXY R) (pc 2 (zQx [pS 0, iS 1, pS 2, lS 15, lS 74, iS 75, iS 76] (F55_3 R) (bk 4 (zQx [pS 0, iS 1, pS 2, lS 15] (F55_1 R) lf) (lp [lS 15, iS 76] [pS 0, iS 1, pS 2, lS 15, lS 74, iS 75, iS 76] (F55_2 R) zXz fun J1 => lf))))) (lp [] [pS 0, iS 1, pS 2, pS 55] (F55_6 R) zXz fun J1 => lf))))) (lp [] [pS 0, iS 1, pS 2, pS 31] (xQT R) zXz fun J1 => lf)))
theorem yWG (p0 : Option Addr) (n1 : Int) (p2 : Option Addr) (b3 : Bool) (w : World) (R : Rt) (h : xQp R p0 n1 p2 b3 [] w) : Calls prog 55 #[.pointer p0, .int .i64 n1, .pointer p2, .bool b3] w R :=
 plC F55_p func55 h
def yYE (R : Rt) (l5 : SV) (ds : Ds) (w : World) : Prop :=
 zQd prog ds w fun w1 =>
 R (.returned (.slice l5.a l5.len l5.cap)) w1
def xXx (R : Rt) (J1 : (SV × Int) -> World -> Prop) (p0 p1 : Option Addr) (l5 l13 : SV) (n14 n15 : Int) (ds : Ds) (w : World) : Prop :=
 Br (decide (n15 < n14)) (
 ∃ a2, l13.a = some a2 /\ 0 <= n15 /\ n15 < (l13.len : Int) /\
 ∃ n18, w.cell? (a2.add (n15.toNat * 1)) = some (.int .i64 n18) /\
 dwE w fun w3 =>
 zQi p1 fun a4 =>
 ∃ m22, w3.cell? (a4.add 2) = some (.map m22) /\
 ∃ b24_0 : Bool, ∃ l24_1 : SV, ∃ b24_2 : Bool, ∃ l24_3 : SV, (Instr.lookup 88 (.map m22) (.int .i64 n18) false).run prog w3 = .ok (.agg #[.bool b24_0, .slice l24_1.a l24_1.len l24_1.cap, .bool b24_2, .slice l24_3.a l24_3.len l24_3.cap]) w3 /\
 zQi p0 fun a5 =>
 ∃ l29 : SV, w3.cell? ((a5.add 2).add 2) = some (.slice l29.a l29.len l29.cap) /\
 ∃ a6, l29.a = some a6 /\ 0 <= (IntKind.i64.wrap (n18 - 1)) /\ (IntKind.i64.wrap (n18 - 1)) < (l29.len : Int) /\
 ∃ b33_0, w3.cell? ((a6.add ((IntKind.i64.wrap (n18 - 1)).toNat * 2)).add 0) = some (.bool b33_0) /\
 ∃ l33_1 : SV, w3.cell? ((a6.add ((IntKind.i64.wrap (n18 - 1)).toNat * 2)).add 1) = some (.slice l33_1.a l33_1.len l33_1.cap) /\
 Calls prog 162 #[.agg #[.bool b24_0, .slice l24_1.a l24_1.len l24_1.cap, .bool b24_2, .slice l24_3.a l24_3.len l24_3.cap], .agg #[.bool b33_0, .slice l33_1.a l33_1.len l33_1.cap]] w3 fun e w7 =>
 ∃ b34 : Bool, e = .returned (.bool b34) /\
 Br b34 (
 alE (.cells #[.int .i64 n18] 3) w7 fun r37 w8 =>
 ∃ l38 : SV, ∃ w9, (Builtin.append_ #[43, 43] 43 #[.slice l5.a l5.len l5.cap, .slice (some ⟨r37, 0, none⟩) 1 1]).run prog w8 = .ok (.slice l38.a l38.len l38.cap) w9 /\
 J1 (l38, (IntKind.i64.wrap (n15 + 1))) w9) (
 J1 (l5, (IntKind.i64.wrap (n15 + 1))) w7)) (
 yYE R l5 ds w)
def xQh (R : Rt) (p0 p1 : Option Addr) (l5 l13 : SV) (n14 n15 : Int) (ds : Ds) (w : World) : Prop :=
 zQD (fun (J1 : (SV × Int) -> World -> Prop) (s : SV × Int) (w : World) => xXx R J1 p0 p1 s.1 l13 n14 s.2 ds w) (l5, n15) w
def yYI (R : Rt) (p0 p1 : Option Addr) (ds : Ds) (w : World) : Prop :=
 zQi p1 fun a10 =>
 ∃ m11, w.cell? (a10.add 2) = some (.map m11) /\
 Calls prog 129 #[.map m11] w fun e w11 =>
 ∃ v12 : Value, e = .returned (v12) /\
 Calls prog 128 #[v12] w11 fun e w12 =>
 ∃ l13 : SV, e = .returned (.slice l13.a l13.len l13.cap) /\
 xQh R p0 p1 ⟨none, 0, 0⟩ l13 (l13.len : Int) 0 ds w12
theorem F114_p : Pl prog f114 [pS 0, pS 1] yYI := fun R =>
 pc 3 (zQx [pS 0, pS 1, lS 5, lS 13, iS 14, iS 15] (xQh R) (bk 0 (zQx [lS 5] (yYE R) lf) (lp [lS 5, iS 15] [pS 0, pS 1, lS 5, lS 13, iS 14, iS 15] (xXx R) zXz fun J1 => lf)))
theorem yZS (p0 p1 : Option Addr) (w : World) (R : Rt) (h : yYI R p0 p1 [] w) : Calls prog 114 #[.pointer p0, .pointer p1] w R :=
 plC F114_p func114 h
def yYY (R : Rt) (ds : Ds) (w : World) : Prop :=
 zQd prog ds w fun w1 =>
 R (.returned (.bool false)) w1
def xQV (R : Rt) (J1 : (Int) -> World -> Prop) (p2 p3 : Option Addr) (l18 : SV) (n19 n20 : Int) (ds : Ds) (w : World) : Prop :=
 Br (decide (n20 < n19)) (
 ∃ a2, l18.a = some a2 /\ 0 <= n20 /\ n20 < (l18.len : Int) /\
 ∃ n24_0, w.cell? ((a2.add (n20.toNat * 3)).add 0) = some (.int .i64 n24_0) /\
 ∃ n24_1, w.cell? ((a2.add (n20.toNat * 3)).add 1) = some (.int .i64 n24_1) /\
 ∃ s24_2, w.cell? ((a2.add (n20.toNat * 3)).add 2) = some (.string s24_2) /\
 alE (.cells #[.int .i64 0, .int .i64 0, .string (⟨#[]⟩ : ByteArray)] 28) w fun r6 w3 =>
 stA prog 28 (⟨r6, 0, none⟩ : Addr) #[.int .i64 n24_0, .int .i64 n24_1, .string s24_2] w3 fun w4 =>
 dwE w4 fun w5 =>
 zQi p2 fun a6 =>
 ∃ l27 : SV, w5.cell? (a6.add 1) = some (.slice l27.a l27.len l27.cap) /\
 ∃ a7, l27.a = some a7 /\ 0 <= n20 /\ n20 < (l27.len : Int) /\
 ∃ n30_0, w5.cell? ((a7.add (n20.toNat * 3)).add 0) = some (.int .i64 n30_0) /\
 ∃ n30_1, w5.cell? ((a7.add (n20.toNat * 3)).add 1) = some (.int .i64 n30_1) /\
 ∃ s30_2, w5.cell? ((a7.add (n20.toNat * 3)).add 2) = some (.string s30_2) /\
 ∃ n31_0, w5.cell? ((⟨r6, 0, none⟩ : Addr).add 0) = some (.int .i64 n31_0) /\
 ∃ n31_1, w5.cell? ((⟨r6, 0, none⟩ : Addr).add 1) = some (.int .i64 n31_1) /\
 ∃ s31_2, w5.cell? ((⟨r6, 0, none⟩ : Addr).add 2) = some (.string s31_2) /\
 zQi p3 fun a8 =>
 ∃ l33 : SV, w5.cell? (a8.add 1) = some (.slice l33.a l33.len l33.cap) /\
 ∃ a9, l33.a = some a9 /\ 0 <= n20 /\ n20 < (l33.len : Int) /\
 ∃ n36_0, w5.cell? ((a9.add (n20.toNat * 3)).add 0) = some (.int .i64 n36_0) /\
 ∃ n36_1, w5.cell? ((a9.add (n20.toNat * 3)).add 1) = some (.int .i64 n36_1) /\
 ∃ s36_2, w5.cell? ((a9.add (n20.toNat * 3)).add 2) = some (.string s36_2) /\
 Calls prog 200 #[.agg #[.int .i64 n30_0, .int .i64 n30_1, .string s30_2], .agg #[.int .i64 n31_0, .int .i64 n31_1, .string s31_2], .agg #[.int .i64 n36_0, .int .i64 n36_1, .string s36_2]] w5 fun e w10 =>
 ∃ b37 : Bool, e = .returned (.bool b37) /\
 Br b37 (
 zQd prog ds w10 fun w11 =>
 R (.returned (.bool true)) w11) (
 J1 (IntKind.i64.wrap (n20 + 1)) w10)) (
 yYY R ds w)
def yYx (R : Rt) (p2 p3 : Option Addr) (l18 : SV) (n19 n20 : Int) (ds : Ds) (w : World) : Prop :=
 zQD (fun (J1 : (Int) -> World -> Prop) (s : Int) (w : World) => xQV R J1 p2 p3 l18 n19 s ds w) n20 w
def xXg (R : Rt) (b0_0 : Bool) (l0_1 : SV) (b0_2 : Bool) (l0_3 : SV) (b1_0 : Bool) (l1_1 : SV) (ds : Ds) (w : World) : Prop :=
 alE (.cells #[.bool b0_0, .slice l0_1.a l0_1.len l0_1.cap, .bool b0_2, .slice l0_3.a l0_3.len l0_3.cap] 133) w fun r2 w12 =>
 alE (.cells #[.bool b1_0, .slice l1_1.a l1_1.len l1_1.cap] 77) w12 fun r3 w13 =>
 ∃ b9, w13.cell? (⟨r2, 0, none⟩ : Addr) = some (.bool b9) /\
 ∃ b12, w13.cell? ((⟨r2, 0, none⟩ : Addr).add 2) = some (.bool b12) /\
 ∃ b14, w13.cell? (⟨r3, 0, none⟩ : Addr) = some (.bool b14) /\
 Calls prog 199 #[.bool b9, .bool b12, .bool b14] w13 fun e w14 =>
 ∃ b15 : Bool, e = .returned (.bool b15) /\
 Br b15 (
 zQd prog ds w14 fun w15 =>
 R (.returned (.bool true)) w15) (
 ∃ l18 : SV, w14.cell? (((⟨r2, 0, none⟩ : Addr).add 2).add 1) = some (.slice l18.a l18.len l18.cap) /\
 yYx R (some (⟨r2, 0, none⟩ : Addr)) (some (⟨r3, 0, none⟩ : Addr)) l18 (l18.len : Int) 0 ds w14)
theorem F162_p : Pl prog f162 [aS 0 [.bool, .slice, .bool, .slice], aS 1 [.bool, .slice]] xXg := fun R =>
 pc 4 (zQx [pS 2, pS 3, lS 18, iS 19, iS 20] (yYx R) (bk 0 (zQx [] (yYY R) lf) (lp [iS 20] [pS 2, pS 3, lS 18, iS 19, iS 20] (xQV R) zXz fun J1 => lf)))
theorem yZK (b0_0 : Bool) (l0_1 : SV) (b0_2 : Bool) (l0_3 : SV) (b1_0 : Bool) (l1_1 : SV) (w : World) (R : Rt) (h : xXg R b0_0 l0_1 b0_2 l0_3 b1_0 l1_1 [] w) : Calls prog 162 #[.agg #[.bool b0_0, .slice l0_1.a l0_1.len l0_1.cap, .bool b0_2, .slice l0_3.a l0_3.len l0_3.cap], .agg #[.bool b1_0, .slice l1_1.a l1_1.len l1_1.cap]] w R :=
 plC F162_p func162 h
def yYJ (R : Rt) (b0 b1 b2 : Bool) (ds : Ds) (w : World) : Prop :=
 Br (!(b0 == b1)) (
 Br (!(b2 == b0)) (
 zQd prog ds w fun w1 =>
 R (.returned (.bool (!(b2 == b1)))) w1) (
 zQd prog ds w fun w2 =>
 R (.returned (.bool false)) w2)) (
 zQd prog ds w fun w3 =>
 R (.returned (.bool false)) w3)
theorem F199_p : Pl prog f199 [bS 0, bS 1, bS 2] yYJ := fun R =>
 lf
theorem yXU (b0 b1 b2 : Bool) (w : World) (R : Rt) (h : yYJ R b0 b1 b2 [] w) : Calls prog 199 #[.bool b0, .bool b1, .bool b2] w R :=
 plC F199_p func199 h
def xXh (R : Rt) (n0_0 n0_1 : Int) (s0_2 : ByteArray) (n1_0 n1_1 : Int) (s1_2 : ByteArray) (n2_0 n2_1 : Int) (s2_2 : ByteArray) (ds : Ds) (w : World) : Prop :=
 alE (.cells #[.int .i64 n0_0, .int .i64 n0_1, .string s0_2] 28) w fun r3 w1 =>
 alE (.cells #[.int .i64 n1_0, .int .i64 n1_1, .string s1_2] 28) w1 fun r4 w2 =>
 alE (.cells #[.int .i64 n2_0, .int .i64 n2_1, .string s2_2] 28) w2 fun r5 w3 =>
 ∃ n7_0, w3.cell? ((⟨r3, 0, none⟩ : Addr).add 0) = some (.int .i64 n7_0) /\
 ∃ n7_1, w3.cell? ((⟨r3, 0, none⟩ : Addr).add 1) = some (.int .i64 n7_1) /\
 ∃ s7_2, w3.cell? ((⟨r3, 0, none⟩ : Addr).add 2) = some (.string s7_2) /\
 ∃ n8_0, w3.cell? ((⟨r4, 0, none⟩ : Addr).add 0) = some (.int .i64 n8_0) /\
 ∃ n8_1, w3.cell? ((⟨r4, 0, none⟩ : Addr).add 1) = some (.int .i64 n8_1) /\
 ∃ s8_2, w3.cell? ((⟨r4, 0, none⟩ : Addr).add 2) = some (.string s8_2) /\
 ∃ b9 : Bool, ∃ w4, (eqS .neq 28 (.tmp 7) (.tmp 8) (.agg #[.int .i64 n7_0, .int .i64 n7_1, .string s7_2]) (.agg #[.int .i64 n8_0, .int .i64 n8_1, .string s8_2])).run prog w3 = .ok (.bool b9) w4 /\
 Br b9 (
 ∃ n11_0, w4.cell? ((⟨r5, 0, none⟩ : Addr).add 0) = some (.int .i64 n11_0) /\
 ∃ n11_1, w4.cell? ((⟨r5, 0, none⟩ : Addr).add 1) = some (.int .i64 n11_1) /\
 ∃ s11_2, w4.cell? ((⟨r5, 0, none⟩ : Addr).add 2) = some (.string s11_2) /\
 ∃ n12_0, w4.cell? ((⟨r3, 0, none⟩ : Addr).add 0) = some (.int .i64 n12_0) /\
 ∃ n12_1, w4.cell? ((⟨r3, 0, none⟩ : Addr).add 1) = some (.int .i64 n12_1) /\
 ∃ s12_2, w4.cell? ((⟨r3, 0, none⟩ : Addr).add 2) = some (.string s12_2) /\
 ∃ b13 : Bool, ∃ w5, (eqS .neq 28 (.tmp 11) (.tmp 12) (.agg #[.int .i64 n11_0, .int .i64 n11_1, .string s11_2]) (.agg #[.int .i64 n12_0, .int .i64 n12_1, .string s12_2])).run prog w4 = .ok (.bool b13) w5 /\
 Br b13 (
 ∃ n16_0, w5.cell? ((⟨r5, 0, none⟩ : Addr).add 0) = some (.int .i64 n16_0) /\
 ∃ n16_1, w5.cell? ((⟨r5, 0, none⟩ : Addr).add 1) = some (.int .i64 n16_1) /\
 ∃ s16_2, w5.cell? ((⟨r5, 0, none⟩ : Addr).add 2) = some (.string s16_2) /\
 ∃ n17_0, w5.cell? ((⟨r4, 0, none⟩ : Addr).add 0) = some (.int .i64 n17_0) /\
 ∃ n17_1, w5.cell? ((⟨r4, 0, none⟩ : Addr).add 1) = some (.int .i64 n17_1) /\
 ∃ s17_2, w5.cell? ((⟨r4, 0, none⟩ : Addr).add 2) = some (.string s17_2) /\
 ∃ b18 : Bool, ∃ w6, (eqS .neq 28 (.tmp 16) (.tmp 17) (.agg #[.int .i64 n16_0, .int .i64 n16_1, .string s16_2]) (.agg #[.int .i64 n17_0, .int .i64 n17_1, .string s17_2])).run prog w5 = .ok (.bool b18) w6 /\
 zQd prog ds w6 fun w7 =>
 R (.returned (.bool b18)) w7) (
 zQd prog ds w5 fun w8 =>
 R (.returned (.bool false)) w8)) (
 zQd prog ds w4 fun w9 =>
 R (.returned (.bool false)) w9)
theorem F200_p : Pl prog f200 [aS 0 [.int .i64, .int .i64, .str], aS 1 [.int .i64, .int .i64, .str], aS 2 [.int .i64, .int .i64, .str]] xXh := fun R =>
 lf
theorem yZd (n0_0 n0_1 : Int) (s0_2 : ByteArray) (n1_0 n1_1 : Int) (s1_2 : ByteArray) (n2_0 n2_1 : Int) (s2_2 : ByteArray) (w : World) (R : Rt) (h : xXh R n0_0 n0_1 s0_2 n1_0 n1_1 s1_2 n2_0 n2_1 s2_2 [] w) : Calls prog 200 #[.agg #[.int .i64 n0_0, .int .i64 n0_1, .string s0_2], .agg #[.int .i64 n1_0, .int .i64 n1_1, .string s1_2], .agg #[.int .i64 n2_0, .int .i64 n2_1, .string s2_2]] w R :=
 plC F200_p func200 h
def yYz (R : Rt) (J1 : (Int) -> World -> Prop) (p1 p2 : Option Addr) (l21 : SV) (n22 n23 : Int) (ds : Ds) (w : World) : Prop :=
 Br (decide (n23 < n22)) (
 ∃ a1, l21.a = some a1 /\ 0 <= n23 /\ n23 < (l21.len : Int) /\
 ∃ n27_0, w.cell? ((a1.add (n23.toNat * 3)).add 0) = some (.int .i64 n27_0) /\
 ∃ n27_1, w.cell? ((a1.add (n23.toNat * 3)).add 1) = some (.int .i64 n27_1) /\
 ∃ s27_2, w.cell? ((a1.add (n23.toNat * 3)).add 2) = some (.string s27_2) /\
 alE (.cells #[.int .i64 0, .int .i64 0, .string (⟨#[]⟩ : ByteArray)] 28) w fun r5 w2 =>
 stA prog 28 (⟨r5, 0, none⟩ : Addr) #[.int .i64 n27_0, .int .i64 n27_1, .string s27_2] w2 fun w3 =>
 dwE w3 fun w4 =>
 zQi p2 fun a5 =>
 ∃ l30 : SV, w4.cell? (a5.add 1) = some (.slice l30.a l30.len l30.cap) /\
 ∃ a6, l30.a = some a6 /\ 0 <= n23 /\ n23 < (l30.len : Int) /\
 ∃ n33_0, w4.cell? ((a6.add (n23.toNat * 3)).add 0) = some (.int .i64 n33_0) /\
 ∃ n33_1, w4.cell? ((a6.add (n23.toNat * 3)).add 1) = some (.int .i64 n33_1) /\
 ∃ s33_2, w4.cell? ((a6.add (n23.toNat * 3)).add 2) = some (.string s33_2) /\
 ∃ n34_0, w4.cell? ((⟨r5, 0, none⟩ : Addr).add 0) = some (.int .i64 n34_0) /\
 ∃ n34_1, w4.cell? ((⟨r5, 0, none⟩ : Addr).add 1) = some (.int .i64 n34_1) /\
 ∃ s34_2, w4.cell? ((⟨r5, 0, none⟩ : Addr).add 2) = some (.string s34_2) /\
 ∃ b35 : Bool, (∀ w, (eqS .neq 28 (.tmp 33) (.tmp 34) (.agg #[.int .i64 n33_0, .int .i64 n33_1, .string s33_2]) (.agg #[.int .i64 n34_0, .int .i64 n34_1, .string s34_2])).run prog w = .ok (.bool b35) w) /\
 Br b35 (
 dwE w4 fun w7 =>
 zQi p1 fun a8 =>
 ∃ l39 : SV, w7.cell? (a8.add 1) = some (.slice l39.a l39.len l39.cap) /\
 ∃ n41_0, w7.cell? ((⟨r5, 0, none⟩ : Addr).add 0) = some (.int .i64 n41_0) /\
 ∃ n41_1, w7.cell? ((⟨r5, 0, none⟩ : Addr).add 1) = some (.int .i64 n41_1) /\
 ∃ s41_2, w7.cell? ((⟨r5, 0, none⟩ : Addr).add 2) = some (.string s41_2) /\
 ∃ a9, l39.a = some a9 /\ 0 <= n23 /\ n23 < (l39.len : Int) /\
 stA prog 28 (a9.add (n23.toNat * 3)) #[.int .i64 n41_0, .int .i64 n41_1, .string s41_2] w7 fun w10 =>
 J1 (IntKind.i64.wrap (n23 + 1)) w10) (
 J1 (IntKind.i64.wrap (n23 + 1)) w4)) (
 zQd prog ds w fun w11 =>
 R (.returned (.tuple #[])) w11)
def zYP (R : Rt) (p1 p2 : Option Addr) (l21 : SV) (n22 n23 : Int) (ds : Ds) (w : World) : Prop :=
 zQD (fun (J1 : (Int) -> World -> Prop) (s : Int) (w : World) => yYz R J1 p1 p2 l21 n22 s ds w) n23 w
def yY1 (R : Rt) (b0_0 : Bool) (l0_1 : SV) (b0_2 : Bool) (l0_3 : SV) (p1 : Option Addr) (ds : Ds) (w : World) : Prop :=
 alE (.cells #[.bool b0_0, .slice l0_1.a l0_1.len l0_1.cap, .bool b0_2, .slice l0_3.a l0_3.len l0_3.cap] 133) w fun r2 w12 =>
 ∃ b8, w12.cell? (⟨r2, 0, none⟩ : Addr) = some (.bool b8) /\
 ∃ b11, w12.cell? ((⟨r2, 0, none⟩ : Addr).add 2) = some (.bool b11) /\
 Br (!(b8 == b11)) (
 ∃ b16, w12.cell? ((⟨r2, 0, none⟩ : Addr).add 2) = some (.bool b16) /\
 zQi p1 fun a13 =>
 st1 a13 (.bool b16) w12 fun w14 =>
 ∃ l21 : SV, w14.cell? (((⟨r2, 0, none⟩ : Addr).add 2).add 1) = some (.slice l21.a l21.len l21.cap) /\
 zYP R p1 (some (⟨r2, 0, none⟩ : Addr)) l21 (l21.len : Int) 0 ds w14) (
 ∃ l21 : SV, w12.cell? (((⟨r2, 0, none⟩ : Addr).add 2).add 1) = some (.slice l21.a l21.len l21.cap) /\
 zYP R p1 (some (⟨r2, 0, none⟩ : Addr)) l21 (l21.len : Int) 0 ds w12)
theorem F115_p : Pl prog f115 [aS 0 [.bool, .slice, .bool, .slice], pS 1] yY1 := fun R =>
 pc 4 (zQx [pS 1, pS 2, lS 21, iS 22, iS 23] (zYP R) (bk 0 zXz (lp [iS 23] [pS 1, pS 2, lS 21, iS 22, iS 23] (yYz R) zXz fun J1 => lf)))
theorem yXE (b0_0 : Bool) (l0_1 : SV) (b0_2 : Bool) (l0_3 : SV) (p1 : Option Addr) (w : World) (R : Rt) (h : yY1 R b0_0 l0_1 b0_2 l0_3 p1 [] w) : Calls prog 115 #[.agg #[.bool b0_0, .slice l0_1.a l0_1.len l0_1.cap, .bool b0_2, .slice l0_3.a l0_3.len l0_3.cap], .pointer p1] w R :=
 plC F115_p func115 h
def yYN (R : Rt) (J1 : (Unit) -> World -> Prop) (p0 : Option Addr) (n1 : Int) (p19 : Option Addr) (ds : Ds) (w : World) : Prop :=
 (∃ w1, (Instr.next (.pointer p19) false 0).run prog w = .ok (.tuple #[.bool false]) w1 /\
 zQd prog ds w1 fun w3 =>
 R (.returned (.tuple #[])) w3) ∨ (∃ k20 v20 : Value, ∃ w2, (Instr.next (.pointer p19) false 0).run prog w = .ok (.tuple #[.bool true, k20, v20]) w2 /\
 ∃ k22 v22 : Value, ∃ w4, (Instr.entry (.pointer p19)).run prog w2 = .ok (.tuple #[k22, v22]) w4 /\
 yW2 .i64 k22 fun n23 =>
 yW2 .i64 v22 fun n24 =>
 Br (n24 == n1) (
 zQi p0 fun a5 =>
 ∃ m31, w4.cell? (a5.add 21) = some (.map m31) /\
 ∃ w6, (Builtin.delete_ #[80, 3] 0 #[.map m31, .int .i64 n23]).run prog w4 = .ok (.tuple #[]) w6 /\
 J1 () w6) (
 J1 () w4))
def xQF (R : Rt) (p0 : Option Addr) (n1 : Int) (p19 : Option Addr) (ds : Ds) (w : World) : Prop :=
 zQD (fun (J1 : (Unit) -> World -> Prop) (_ : Unit) (w : World) => yYN R J1 p0 n1 p19 ds w) () w
def xQf (R : Rt) (p0 : Option Addr) (n1 : Int) (p2 : Option Addr) (ds : Ds) (w : World) : Prop :=
 alE (.map #[] 0) w fun r10 w7 =>
 zQi p2 fun a8 =>
 st1 (a8.add 2) (.map (some r10)) w7 fun w9 =>
 zQi p2 fun a10 =>
 st1 (a10.add 3) (.slice none 0 0) w9 fun w11 =>
 zQi p0 fun a12 =>
 ∃ m18, w11.cell? (a12.add 21) = some (.map m18) /\
 ∃ p19 : Option Addr, ∃ w13, (Instr.range 80 (.map m18)).run prog w11 = .ok (.pointer p19) w13 /\
 xQF R p0 n1 p19 ds w13
theorem F116_p : Pl prog f116 [pS 0, iS 1, pS 2] xQf := fun R =>
 pc 2 (zQx [pS 0, iS 1, pS 19] (xQF R) (bk 0 zXz (lp [] [pS 0, iS 1, pS 19] (yYN R) zXz fun J1 => lf)))
theorem yXZ (p0 : Option Addr) (n1 : Int) (p2 : Option Addr) (w : World) (R : Rt) (h : xQf R p0 n1 p2 [] w) : Calls prog 116 #[.pointer p0, .int .i64 n1, .pointer p2] w R :=
 plC F116_p func116 h
def F17_1 (R : Rt) (p0 : Option Addr) (n1 : Int) (b2 : Bool) (ds : Ds) (w : World) : Prop :=
 Calls prog 47 #[.pointer p0, .int .i64 n1] w fun e w1 =>
 ∃ p14_0 : Option Addr, ∃ v14_1 : Value, ∃ n14_2 : Int, e = .returned (.tuple #[.pointer p14_0, v14_1, .int .i64 n14_2]) /\
 fnE v14_1 fun fx firstx capx =>
 Br (n14_2 != 0) (
 zQd prog ({ target := .fn (.func fx) capx, args := (firstx.toList ++ ([] : List Value)).toArray } :: ds) w1 fun w2 =>
 R (.returned (.tuple #[.slice none 0 0, .int .i64 n14_2])) w2) (
 Calls prog 55 #[.pointer p0, .int .i64 n1, .pointer p14_0, .bool b2] w1 fun e w3 =>
 ∃ l26_0 : SV, ∃ n26_1 : Int, e = .returned (.tuple #[.slice l26_0.a l26_0.len l26_0.cap, .int .i64 n26_1]) /\
 zQd prog ({ target := .fn (.func fx) capx, args := (firstx.toList ++ ([] : List Value)).toArray } :: ds) w3 fun w4 =>
 R (.returned (.tuple #[.slice l26_0.a l26_0.len l26_0.cap, .int .i64 n26_1])) w4)
theorem F17_p : Pl prog f17 [pS 0, iS 1, bS 2] F17_1 := fun R =>
 lf
theorem yK9 (p0 : Option Addr) (n1 : Int) (b2 : Bool) (w : World) (R : Rt) (h : F17_1 R p0 n1 b2 [] w) : Calls prog 17 #[.pointer p0, .int .i64 n1, .bool b2] w R :=
 plC F17_p func17 h
def F58_1 (R : Rt) (p0 : Option Addr) (n1 : Int) (p2 : Option Addr) (ds : Ds) (w : World) : Prop :=
 dwE w fun w1 =>
 zQi p2 fun a2 =>
 ∃ m11, w1.cell? (a2.add 2) = some (.map m11) /\
 ∃ n12 : Int, (Builtin.len_ #[88] 3 #[.map m11]).run prog w1 = .ok (.int .i64 n12) w1 /\
 zQi p2 fun a3 =>
 ∃ l16 : SV, w1.cell? (a3.add 3) = some (.slice l16.a l16.len l16.cap) /\
 zQi p2 fun a4 =>
 ∃ n22, w1.cell? (a4.add 1) = some (.int .i64 n22) /\
 Br (decide (n22 < 0)) (
 zQi p2 fun a5 =>
 st1 (a5.add 1) (.int .i64 0) w1 fun w6 =>
 Calls prog 116 #[.pointer p0, .int .i64 n1, .pointer p2] w6 fun e w7 =>
 e = .returned (.tuple #[]) /\
 zQd prog ds w7 fun w8 =>
 R (.returned (.int .i64 (IntKind.i64.wrap (n12 + (l16.len : Int))))) w8) (
 Calls prog 116 #[.pointer p0, .int .i64 n1, .pointer p2] w1 fun e w9 =>
 e = .returned (.tuple #[]) /\
 zQd prog ds w9 fun w10 =>
 R (.returned (.int .i64 (IntKind.i64.wrap (n12 + (l16.len : Int))))) w10)
theorem F58_p : Pl prog f58 [pS 0, iS 1, pS 2] F58_1 := fun R =>
 lf
theorem yWV (p0 : Option Addr) (n1 : Int) (p2 : Option Addr) (w : World) (R : Rt) (h : F58_1 R p0 n1 p2 [] w) : Calls prog 58 #[.pointer p0, .int .i64 n1, .pointer p2] w R :=
 plC F58_p func58 h
def F22_1 (R : Rt) (p0 : Option Addr) (n1 : Int) (ds : Ds) (w : World) : Prop :=
 Calls prog 47 #[.pointer p0, .int .i64 n1] w fun e w1 =>
 ∃ p12_0 : Option Addr, ∃ v12_1 : Value, ∃ n12_2 : Int, e = .returned (.tuple #[.pointer p12_0, v12_1, .int .i64 n12_2]) /\
 fnE v12_1 fun fx firstx capx =>
 Br (n12_2 != 0) (
 zQd prog ({ target := .fn (.func fx) capx, args := (firstx.toList ++ ([] : List Value)).toArray } :: ds) w1 fun w2 =>
 R (.returned (.tuple #[.int .i64 0, .int .i64 n12_2])) w2) (
 Calls prog 58 #[.pointer p0, .int .i64 n1, .pointer p12_0] w1 fun e w3 =>
 ∃ n23 : Int, e = .returned (.int .i64 n23) /\
 zQd prog ({ target := .fn (.func fx) capx, args := (firstx.toList ++ ([] : List Value)).toArray } :: ds) w3 fun w4 =>
 R (.returned (.tuple #[.int .i64 n23, .int .i64 0])) w4)
theorem F22_p : Pl prog f22 [pS 0, iS 1] F22_1 := fun R =>
 lf
theorem yVb (p0 : Option Addr) (n1 : Int) (w : World) (R : Rt) (h : F22_1 R p0 n1 [] w) : Calls prog 22 #[.pointer p0, .int .i64 n1] w R :=
 plC F22_p func22 h
def F31_1 (R : Rt) (p0 : Option Addr) (n1 : Int) (ds : Ds) (w : World) : Prop :=
 Calls prog 47 #[.pointer p0, .int .i64 n1] w fun e w1 =>
 ∃ p11_0 : Option Addr, ∃ v11_1 : Value, ∃ n11_2 : Int, e = .returned (.tuple #[.pointer p11_0, v11_1, .int .i64 n11_2]) /\
 fnE v11_1 fun fx firstx capx =>
 Br (n11_2 != 0) (
 zQd prog ({ target := .fn (.func fx) capx, args := (firstx.toList ++ ([] : List Value)).toArray } :: ds) w1 fun w2 =>
 R (.returned (.int .i64 n11_2)) w2) (
 Calls prog 58 #[.pointer p0, .int .i64 n1, .pointer p11_0] w1 fun e w3 =>
 ∃ n22 : Int, e = .returned (.int .i64 n22) /\
 zQi p11_0 fun a4 =>
 st1 a4 (.int .i64 0) w3 fun w5 =>
 zQi p11_0 fun a6 =>
 st1 (a6.add 1) (.int .i64 0) w5 fun w7 =>
 zQd prog ({ target := .fn (.func fx) capx, args := (firstx.toList ++ ([] : List Value)).toArray } :: ds) w7 fun w8 =>
 R (.returned (.int .i64 0)) w8)
theorem F31_p : Pl prog f31 [pS 0, iS 1] F31_1 := fun R =>
 lf
theorem yWk (p0 : Option Addr) (n1 : Int) (w : World) (R : Rt) (h : F31_1 R p0 n1 [] w) : Calls prog 31 #[.pointer p0, .int .i64 n1] w R :=
 plC F31_p func31 h
end Go.Proofs.YtcihcbfcgjepfaaGreatDoor
/- Shallow texts of functions, printed by program, each checked by the kernel against the loaded code. No condition. -/
namespace Go.Proofs.YtcihcbfcgjepfaaGreatDoor
open Go.Sh Tryz
def F59_1 (R : Rt) (ds : Ds) (w : World) : Prop :=
 zQd prog ds w fun w1 =>
 R (.returned (.bool true)) w1
def F59_2 (R : Rt) (J1 : (Int) -> World -> Prop) (l0 l1 : SV) (n5 : Int) (ds : Ds) (w : World) : Prop :=
 Br (decide (n5 < (l0.len : Int))) (
 dwE w fun w2 =>
 ∃ a3, l0.a = some a3 /\ 0 <= n5 /\ n5 < (l0.len : Int) /\
 ∃ s20_0, w2.cell? ((a3.add (n5.toNat * 4)).add 0) = some (.string s20_0) /\
 ∃ n20_1, w2.cell? ((a3.add (n5.toNat * 4)).add 1) = some (.int .i64 n20_1) /\
 ∃ n20_2, w2.cell? ((a3.add (n5.toNat * 4)).add 2) = some (.int .i64 n20_2) /\
 ∃ b20_3, w2.cell? ((a3.add (n5.toNat * 4)).add 3) = some (.bool b20_3) /\
 ∃ a4, l1.a = some a4 /\ 0 <= n5 /\ n5 < (l1.len : Int) /\
 ∃ s24_0, w2.cell? ((a4.add (n5.toNat * 4)).add 0) = some (.string s24_0) /\
 ∃ n24_1, w2.cell? ((a4.add (n5.toNat * 4)).add 1) = some (.int .i64 n24_1) /\
 ∃ n24_2, w2.cell? ((a4.add (n5.toNat * 4)).add 2) = some (.int .i64 n24_2) /\
 ∃ b24_3, w2.cell? ((a4.add (n5.toNat * 4)).add 3) = some (.bool b24_3) /\
 ∃ b25 : Bool, (∀ w, (eqS .neq 38 (.tmp 20) (.tmp 24) (.agg #[.string s20_0, .int .i64 n20_1, .int .i64 n20_2, .bool b20_3]) (.agg #[.string s24_0, .int .i64 n24_1, .int .i64 n24_2, .bool b24_3])).run prog w = .ok (.bool b25) w) /\
 Br b25 (
 zQd prog ds w2 fun w5 =>
 R (.returned (.bool false)) w5) (
 J1 (IntKind.i64.wrap (n5 + 1)) w2)) (
 F59_1 R ds w)
def F59_3 (R : Rt) (l0 l1 : SV) (n5 : Int) (ds : Ds) (w : World) : Prop :=
 zQD (fun (J1 : (Int) -> World -> Prop) (s : Int) (w : World) => F59_2 R J1 l0 l1 s ds w) n5 w
def F59_5 (R : Rt) (l0 l1 : SV) (ds : Ds) (w : World) : Prop :=
 Br ((l0.len : Int) != (l1.len : Int)) (
 zQd prog ds w fun w6 =>
 R (.returned (.bool false)) w6) (
 F59_3 R l0 l1 0 ds w)
theorem F59_p : Pl prog f59 [lS 0, lS 1] F59_5 := fun R =>
 pc 4 (zQx [lS 0, lS 1, iS 5] (F59_3 R) (bk 0 (zQx [] (F59_1 R) lf) (lp [iS 5] [lS 0, lS 1, iS 5] (F59_2 R) zXz fun J1 => lf)))
theorem yWJ (l0 l1 : SV) (w : World) (R : Rt) (h : F59_5 R l0 l1 [] w) : Calls prog 59 #[.slice l0.a l0.len l0.cap, .slice l1.a l1.len l1.cap] w R :=
 plC F59_p func59 h
end Go.Proofs.YtcihcbfcgjepfaaGreatDoor
/- Shallow texts of functions, printed by program, each checked by the kernel against the loaded code. No condition. -/
namespace Go.Proofs.YtcihcbfcgjepfaaGreatDoor
open Go.Sh Tryz
def F61_1 (R : Rt) (n0_0 : Int) (l0_1 l0_2 : SV) (ds : Ds) (w : World) : Prop :=
 alE (.cells #[.int .i64 n0_0, .slice l0_1.a l0_1.len l0_1.cap, .slice l0_2.a l0_2.len l0_2.cap] 25) w fun r1 w1 =>
 ∃ n5_0, w1.cell? ((⟨r1, 0, none⟩ : Addr).add 0) = some (.int .i64 n5_0) /\
 ∃ l5_1 : SV, w1.cell? ((⟨r1, 0, none⟩ : Addr).add 1) = some (.slice l5_1.a l5_1.len l5_1.cap) /\
 ∃ l5_2 : SV, w1.cell? ((⟨r1, 0, none⟩ : Addr).add 2) = some (.slice l5_2.a l5_2.len l5_2.cap) /\
 Calls prog 12 #[.agg #[.int .i64 n5_0, .slice l5_1.a l5_1.len l5_1.cap, .slice l5_2.a l5_2.len l5_2.cap]] w1 fun e w2 =>
 ∃ n6 : Int, e = .returned (.int .i64 n6) /\
 Br (n6 != 0) (
 zQd prog ds w2 fun w3 =>
 R (.returned (.tuple #[.pointer none, .int .i64 n6])) w3) (
 ∃ n10_0, w2.cell? ((⟨r1, 0, none⟩ : Addr).add 0) = some (.int .i64 n10_0) /\
 ∃ l10_1 : SV, w2.cell? ((⟨r1, 0, none⟩ : Addr).add 1) = some (.slice l10_1.a l10_1.len l10_1.cap) /\
 ∃ l10_2 : SV, w2.cell? ((⟨r1, 0, none⟩ : Addr).add 2) = some (.slice l10_2.a l10_2.len l10_2.cap) /\
 Calls prog 80 #[.agg #[.int .i64 n10_0, .slice l10_1.a l10_1.len l10_1.cap, .slice l10_2.a l10_2.len l10_2.cap]] w2 fun e w4 =>
 ∃ n11_0 : Int, ∃ l11_1 : SV, ∃ l11_2 : SV, e = .returned (.agg #[.int .i64 n11_0, .slice l11_1.a l11_1.len l11_1.cap, .slice l11_2.a l11_2.len l11_2.cap]) /\
 alE (.map #[] 0) w4 fun r12 w5 =>
 alE (.cells #[.int .i64 n11_0, .slice l11_1.a l11_1.len l11_1.cap, .slice l11_2.a l11_2.len l11_2.cap, .int .i64 0, .int .i64 0, .slice none 0 0, .slice none 0 0, .int .i64 0, .int .i64 0, .slice none 0 0, .slice none 0 0, .int .i64 0, .int .i64 0, .slice none 0 0, .slice none 0 0, .int .i64 0, .int .i64 0, .slice none 0 0, .slice none 0 0, .map (some r12)] 125) w5 fun r14 w6 =>
 zQd prog ds w6 fun w7 =>
 R (.returned (.tuple #[.pointer (some (⟨r14, 0, none⟩ : Addr)), .int .i64 0])) w7)
theorem F61_p : Pl prog f61 [aS 0 [.int .i64, .slice, .slice]] F61_1 := fun R =>
 lf
theorem yJX (n0_0 : Int) (l0_1 l0_2 : SV) (w : World) (R : Rt) (h : F61_1 R n0_0 l0_1 l0_2 [] w) : Calls prog 61 #[.agg #[.int .i64 n0_0, .slice l0_1.a l0_1.len l0_1.cap, .slice l0_2.a l0_2.len l0_2.cap]] w R :=
 plC F61_p func61 h
def F62_1 (R : Rt) (p0 : Option Addr) (n1 n2 : Int) (ds : Ds) (w : World) : Prop :=
 Calls prog 118 #[.int .i64 n1] w fun e w1 =>
 ∃ b8 : Bool, e = .returned (.bool b8) /\
 Br (!b8) (
 zQd prog ds w1 fun w2 =>
 R (.returned (.int .i64 1)) w2) (
 Br (decide (n2 < 0)) (
 zQd prog ds w1 fun w3 =>
 R (.returned (.int .i64 1)) w3) (
 Br (decide (n2 > 4)) (
 zQd prog ds w1 fun w4 =>
 R (.returned (.int .i64 1)) w4) (
 Calls prog 119 #[.pointer p0, .int .i64 n1] w1 fun e w5 =>
 ∃ b20 : Bool, e = .returned (.bool b20) /\
 Br (!b20) (
 zQd prog ds w5 fun w6 =>
 R (.returned (.int .i64 9)) w6) (
 zQi p0 fun a7 =>
 0 <= n1 /\ n1 < (4 : Int) /\
 st1 ((a7.add 3).add (n1.toNat * 4)) (.int .i64 n2) w5 fun w8 =>
 zQd prog ds w8 fun w9 =>
 R (.returned (.int .i64 0)) w9))))
theorem F62_p : Pl prog f62 [pS 0, iS 1, iS 2] F62_1 := fun R =>
 lf
theorem yWw (p0 : Option Addr) (n1 n2 : Int) (w : World) (R : Rt) (h : F62_1 R p0 n1 n2 [] w) : Calls prog 62 #[.pointer p0, .int .i64 n1, .int .i64 n2] w R :=
 plC F62_p func62 h
def yZX (R : Rt) (p0 : Option Addr) (n1 n2 : Int) (ds : Ds) (w : World) : Prop :=
 zQi p0 fun a1 =>
 0 <= n1 /\ n1 < (4 : Int) /\
 st1 (((a1.add 3).add (n1.toNat * 4)).add 1) (.int .i64 n2) w fun w2 =>
 zQd prog ds w2 fun w3 =>
 R (.returned (.int .i64 0)) w3
def F63_2 (R : Rt) (p0 : Option Addr) (n1 n2 : Int) (ds : Ds) (w : World) : Prop :=
 Calls prog 118 #[.int .i64 n1] w fun e w4 =>
 ∃ b10 : Bool, e = .returned (.bool b10) /\
 Br (!b10) (
 zQd prog ds w4 fun w5 =>
 R (.returned (.int .i64 1)) w5) (
 Calls prog 120 #[.pointer p0, .int .i64 n1, .int .i64 n2] w4 fun e w6 =>
 ∃ b15 : Bool, e = .returned (.bool b15) /\
 Br (!b15) (
 zQd prog ds w6 fun w7 =>
 R (.returned (.int .i64 4)) w7) (
 Calls prog 121 #[.pointer p0, .int .i64 n1] w6 fun e w8 =>
 ∃ b19 : Bool, e = .returned (.bool b19) /\
 Br b19 (
 zQi p0 fun a9 =>
 0 <= n1 /\ n1 < (4 : Int) /\
 ∃ n28, w8.cell? (((a9.add 3).add (n1.toNat * 4)).add 1) = some (.int .i64 n28) /\
 Br (n2 != n28) (
 Calls prog 119 #[.pointer p0, .int .i64 n1] w8 fun e w10 =>
 ∃ b34 : Bool, e = .returned (.bool b34) /\
 Br (!b34) (
 Calls prog 71 #[.pointer p0, .int .i64 n1, .bool false] w10 fun e w11 =>
 ∃ l40_0 : SV, ∃ n40_1 : Int, e = .returned (.tuple #[.slice l40_0.a l40_0.len l40_0.cap, .int .i64 n40_1]) /\
 Br (n40_1 != 0) (
 zQd prog ds w11 fun w12 =>
 R (.returned (.int .i64 n40_1)) w12) (
 yZX R p0 n1 n2 ds w11)) (
 yZX R p0 n1 n2 ds w10)) (
 yZX R p0 n1 n2 ds w8)) (
 yZX R p0 n1 n2 ds w8)))
theorem F63_p : Pl prog f63 [pS 0, iS 1, iS 2] F63_2 := fun R =>
 pc 7 (zQx [pS 0, iS 1, iS 2] (yZX R) lf)
theorem yKi (p0 : Option Addr) (n1 n2 : Int) (w : World) (R : Rt) (h : F63_2 R p0 n1 n2 [] w) : Calls prog 63 #[.pointer p0, .int .i64 n1, .int .i64 n2] w R :=
 plC F63_p func63 h
def F64_1 (R : Rt) (p0 : Option Addr) (n1 : Int) (s2 : ByteArray) (n3_0 n3_1 : Int) (s3_2 : ByteArray) (ds : Ds) (w : World) : Prop :=
 alE (.cells #[.int .i64 n3_0, .int .i64 n3_1, .string s3_2] 28) w fun r7 w1 =>
 Calls prog 118 #[.int .i64 n1] w1 fun e w2 =>
 ∃ b15 : Bool, e = .returned (.bool b15) /\
 Br (!b15) (
 zQd prog ds w2 fun w3 =>
 R (.returned (.int .i64 1)) w3) (
 zQi p0 fun a4 =>
 0 <= n1 /\ n1 < (4 : Int) /\
 ∃ n23, w2.cell? (((a4.add 3).add (n1.toNat * 4)).add 1) = some (.int .i64 n23) /\
 Br (n23 == 0) (
 zQd prog ds w2 fun w5 =>
 R (.returned (.int .i64 9)) w5) (
 zQi p0 fun a6 =>
 ∃ l30 : SV, w2.cell? (a6.add 1) = some (.slice l30.a l30.len l30.cap) /\
 Calls prog 122 #[.slice l30.a l30.len l30.cap, .string s2] w2 fun e w7 =>
 ∃ n32_0 : Int, ∃ b32_1 : Bool, e = .returned (.tuple #[.int .i64 n32_0, .bool b32_1]) /\
 Br (!b32_1) (
 zQd prog ds w7 fun w8 =>
 R (.returned (.int .i64 4)) w8) (
 dwE w7 fun w9 =>
 ∃ S1 : World -> Prop, S1 w9 /\
 zQi p0 fun a10 =>
 ∃ l42 : SV, (∀ w', S1 w' -> w'.cell? (a10.add 1) = some (.slice l42.a l42.len l42.cap)) /\
 ∃ a11, l42.a = some a11 /\ 0 <= n32_0 /\ n32_0 < (l42.len : Int) /\
 ∃ s45_0, (∀ w', S1 w' -> w'.cell? ((a11.add (n32_0.toNat * 4)).add 0) = some (.string s45_0)) /\
 ∃ n45_1, (∀ w', S1 w' -> w'.cell? ((a11.add (n32_0.toNat * 4)).add 1) = some (.int .i64 n45_1)) /\
 ∃ n45_2, (∀ w', S1 w' -> w'.cell? ((a11.add (n32_0.toNat * 4)).add 2) = some (.int .i64 n45_2)) /\
 ∃ b45_3, (∀ w', S1 w' -> w'.cell? ((a11.add (n32_0.toNat * 4)).add 3) = some (.bool b45_3)) /\
 zQi p0 fun a12 =>
 ∃ n50, (∀ w', S1 w' -> w'.cell? a12 = some (.int .i64 n50)) /\
 ∃ n51_0, (∀ w', S1 w' -> w'.cell? ((⟨r7, 0, none⟩ : Addr).add 0) = some (.int .i64 n51_0)) /\
 ∃ n51_1, (∀ w', S1 w' -> w'.cell? ((⟨r7, 0, none⟩ : Addr).add 1) = some (.int .i64 n51_1)) /\
 ∃ s51_2, (∀ w', S1 w' -> w'.cell? ((⟨r7, 0, none⟩ : Addr).add 2) = some (.string s51_2)) /\
 (
 Calls prog 13 #[.agg #[.string s45_0, .int .i64 n45_1, .int .i64 n45_2, .bool b45_3], .int .i64 n50, .agg #[.int .i64 n51_0, .int .i64 n51_1, .string s51_2]] w9 fun e w13 =>
 ∃ n52_0_0 : Int, ∃ n52_0_1 : Int, ∃ s52_0_2 : ByteArray, ∃ n52_1 : Int, e = .returned (.tuple #[.agg #[.int .i64 n52_0_0, .int .i64 n52_0_1, .string s52_0_2], .int .i64 n52_1]) /\
 alE (.cells #[.int .i64 0, .int .i64 0, .string (⟨#[]⟩ : ByteArray)] 28) w13 fun r11 w14 =>
 stA prog 28 (⟨r11, 0, none⟩ : Addr) #[.int .i64 n52_0_0, .int .i64 n52_0_1, .string s52_0_2] w14 fun w15 =>
 Br (n52_1 != 0) (
 zQd prog ds w15 fun w16 =>
 R (.returned (.int .i64 n52_1)) w16) (
 Calls prog 123 #[.pointer p0, .int .i64 n1] w15 fun e w17 =>
 ∃ p61_0 : Option Addr, ∃ n61_1 : Int, e = .returned (.tuple #[.pointer p61_0, .int .i64 n61_1]) /\
 Br (n61_1 != 0) (
 zQd prog ds w17 fun w18 =>
 R (.returned (.int .i64 n61_1)) w18) (
 dwE w17 fun w19 =>
 zQi p61_0 fun a20 =>
 ∃ l70 : SV, w19.cell? (a20.add 1) = some (.slice l70.a l70.len l70.cap) /\
 ∃ n72_0, w19.cell? ((⟨r11, 0, none⟩ : Addr).add 0) = some (.int .i64 n72_0) /\
 ∃ n72_1, w19.cell? ((⟨r11, 0, none⟩ : Addr).add 1) = some (.int .i64 n72_1) /\
 ∃ s72_2, w19.cell? ((⟨r11, 0, none⟩ : Addr).add 2) = some (.string s72_2) /\
 ∃ a21, l70.a = some a21 /\ 0 <= n32_0 /\ n32_0 < (l70.len : Int) /\
 stA prog 28 (a21.add (n32_0.toNat * 3)) #[.int .i64 n72_0, .int .i64 n72_1, .string s72_2] w19 fun w22 =>
 zQd prog ds w22 fun w23 =>
 R (.returned (.int .i64 0)) w23))) /\ (
 alE (.cells #[.int .i64 0, .int .i64 0, .string (⟨#[]⟩ : ByteArray)] 28) w9 fun r11 w24 =>
 S1 w24 /\
 Calls prog 13 #[.agg #[.string s45_0, .int .i64 n45_1, .int .i64 n45_2, .bool b45_3], .int .i64 n50, .agg #[.int .i64 n51_0, .int .i64 n51_1, .string s51_2]] w24 fun e w25 =>
 ∃ n52_0_0 : Int, ∃ n52_0_1 : Int, ∃ s52_0_2 : ByteArray, ∃ n52_1 : Int, e = .returned (.tuple #[.agg #[.int .i64 n52_0_0, .int .i64 n52_0_1, .string s52_0_2], .int .i64 n52_1]) /\
 stA prog 28 (⟨r11, 0, none⟩ : Addr) #[.int .i64 n52_0_0, .int .i64 n52_0_1, .string s52_0_2] w25 fun w26 =>
 Br (n52_1 != 0) (
 zQd prog ds w26 fun w27 =>
 R (.returned (.int .i64 n52_1)) w27) (
 Calls prog 123 #[.pointer p0, .int .i64 n1] w26 fun e w28 =>
 ∃ p61_0 : Option Addr, ∃ n61_1 : Int, e = .returned (.tuple #[.pointer p61_0, .int .i64 n61_1]) /\
 Br (n61_1 != 0) (
 zQd prog ds w28 fun w29 =>
 R (.returned (.int .i64 n61_1)) w29) (
 dwE w28 fun w30 =>
 zQi p61_0 fun a31 =>
 ∃ l70 : SV, w30.cell? (a31.add 1) = some (.slice l70.a l70.len l70.cap) /\
 ∃ n72_0, w30.cell? ((⟨r11, 0, none⟩ : Addr).add 0) = some (.int .i64 n72_0) /\
 ∃ n72_1, w30.cell? ((⟨r11, 0, none⟩ : Addr).add 1) = some (.int .i64 n72_1) /\
 ∃ s72_2, w30.cell? ((⟨r11, 0, none⟩ : Addr).add 2) = some (.string s72_2) /\
 ∃ a32, l70.a = some a32 /\ 0 <= n32_0 /\ n32_0 < (l70.len : Int) /\
 stA prog 28 (a32.add (n32_0.toNat * 3)) #[.int .i64 n72_0, .int .i64 n72_1, .string s72_2] w30 fun w33 =>
 zQd prog ds w33 fun w34 =>
 R (.returned (.int .i64 0)) w34))))))
theorem F64_p : Pl prog f64 [pS 0, iS 1, sS 2, aS 3 [.int .i64, .int .i64, .str]] F64_1 := fun R =>
 lf
theorem yWm (p0 : Option Addr) (n1 : Int) (s2 : ByteArray) (n3_0 n3_1 : Int) (s3_2 : ByteArray) (w : World) (R : Rt) (h : F64_1 R p0 n1 s2 n3_0 n3_1 s3_2 [] w) : Calls prog 64 #[.pointer p0, .int .i64 n1, .string s2, .agg #[.int .i64 n3_0, .int .i64 n3_1, .string s3_2]] w R :=
 plC F64_p func64 h
def F65_1 (R : Rt) (p0 : Option Addr) (n1 : Int) (b2 : Bool) (ds : Ds) (w : World) : Prop :=
 Calls prog 118 #[.int .i64 n1] w fun e w1 =>
 ∃ b10 : Bool, e = .returned (.bool b10) /\
 Br (!b10) (
 zQd prog ds w1 fun w2 =>
 R (.returned (.int .i64 1)) w2) (
 zQi p0 fun a3 =>
 0 <= n1 /\ n1 < (4 : Int) /\
 ∃ n18, w1.cell? (((a3.add 3).add (n1.toNat * 4)).add 1) = some (.int .i64 n18) /\
 Br (n18 == 0) (
 zQd prog ds w1 fun w4 =>
 R (.returned (.int .i64 9)) w4) (
 Calls prog 123 #[.pointer p0, .int .i64 n1] w1 fun e w5 =>
 ∃ p23_0 : Option Addr, ∃ n23_1 : Int, e = .returned (.tuple #[.pointer p23_0, .int .i64 n23_1]) /\
 Br (n23_1 != 0) (
 zQd prog ds w5 fun w6 =>
 R (.returned (.int .i64 n23_1)) w6) (
 zQi p23_0 fun a7 =>
 st1 a7 (.bool b2) w5 fun w8 =>
 zQd prog ds w8 fun w9 =>
 R (.returned (.int .i64 0)) w9)))
theorem F65_p : Pl prog f65 [pS 0, iS 1, bS 2] F65_1 := fun R =>
 lf
theorem yWy (p0 : Option Addr) (n1 : Int) (b2 : Bool) (w : World) (R : Rt) (h : F65_1 R p0 n1 b2 [] w) : Calls prog 65 #[.pointer p0, .int .i64 n1, .bool b2] w R :=
 plC F65_p func65 h
def yJU (R : Rt) (p0 : Option Addr) (n1 : Int) (p8 : Option Addr) (ds : Ds) (w : World) : Prop :=
 zQi p0 fun a1 =>
 0 <= n1 /\ n1 < (4 : Int) /\
 ∃ n45, w.cell? ((a1.add 3).add (n1.toNat * 4)) = some (.int .i64 n45) /\
 Br (n45 == 0) (
 dwE w fun w2 =>
 ∃ S1 : World -> Prop, S1 w2 /\
 zQi p0 fun a3 =>
 ∃ l52 : SV, (∀ w', S1 w' -> w'.cell? (a3.add 2) = some (.slice l52.a l52.len l52.cap)) /\
 zQi p8 fun a4 =>
 ∃ b53_0, (∀ w', S1 w' -> w'.cell? (a4.add 0) = some (.bool b53_0)) /\
 ∃ l53_1 : SV, (∀ w', S1 w' -> w'.cell? (a4.add 1) = some (.slice l53_1.a l53_1.len l53_1.cap)) /\
 alE (.cells #[.bool b53_0, .slice l53_1.a l53_1.len l53_1.cap] 77) w2 fun r54 w5 =>
 S1 w5 /\
 ∃ l55 : SV, ∃ w6, (Builtin.append_ #[23, 23] 23 #[.slice l52.a l52.len l52.cap, .slice (some ⟨r54, 0, none⟩) 1 1]).run prog w5 = .ok (.slice l55.a l55.len l55.cap) w6 /\
 zQi p0 fun a7 =>
 st1 (a7.add 2) (.slice l55.a l55.len l55.cap) w6 fun w8 =>
 dwE w8 fun w9 =>
 zQi p0 fun a10 =>
 ∃ l65 : SV, w9.cell? (a10.add 2) = some (.slice l65.a l65.len l65.cap) /\
 zQi p0 fun a11 =>
 0 <= n1 /\ n1 < (4 : Int) /\
 st1 (((a11.add 3).add (n1.toNat * 4)).add 1) (.int .i64 (l65.len : Int)) w9 fun w12 =>
 zQi p0 fun a13 =>
 0 <= n1 /\ n1 < (4 : Int) /\
 ∃ n108, w12.cell? (((a13.add 3).add (n1.toNat * 4)).add 1) = some (.int .i64 n108) /\
 zQd prog ds w12 fun w14 =>
 R (.returned (.tuple #[.int .i64 n108, .int .i64 0])) w14) (
 dwE w fun w15 =>
 ∃ S3 : World -> Prop, S3 w15 /\
 zQi p0 fun a16 =>
 0 <= n1 /\ n1 < (4 : Int) /\
 ∃ l79 : SV, (∀ w', S3 w' -> w'.cell? (((a16.add 3).add (n1.toNat * 4)).add 3) = some (.slice l79.a l79.len l79.cap)) /\
 zQi p8 fun a17 =>
 ∃ b80_0, (∀ w', S3 w' -> w'.cell? (a17.add 0) = some (.bool b80_0)) /\
 ∃ l80_1 : SV, (∀ w', S3 w' -> w'.cell? (a17.add 1) = some (.slice l80_1.a l80_1.len l80_1.cap)) /\
 zQi p0 fun a18 =>
 alE (.cells #[.bool b80_0, .slice l80_1.a l80_1.len l80_1.cap] 77) w15 fun r81 w19 =>
 S3 w19 /\
 ∃ l82 : SV, ∃ w20, (Builtin.append_ #[23, 23] 23 #[.slice l79.a l79.len l79.cap, .slice (some ⟨r81, 0, none⟩) 1 1]).run prog w19 = .ok (.slice l82.a l82.len l82.cap) w20 /\
 0 <= n1 /\ n1 < (4 : Int) /\
 st1 (((a18.add 3).add (n1.toNat * 4)).add 3) (.slice l82.a l82.len l82.cap) w20 fun w21 =>
 dwE w21 fun w22 =>
 zQi p0 fun a23 =>
 0 <= n1 /\ n1 < (4 : Int) /\
 ∃ l95 : SV, w22.cell? (((a23.add 3).add (n1.toNat * 4)).add 3) = some (.slice l95.a l95.len l95.cap) /\
 zQi p0 fun a24 =>
 0 <= n1 /\ n1 < (4 : Int) /\
 st1 (((a24.add 3).add (n1.toNat * 4)).add 1) (.int .i64 (IntKind.i64.wrap (0 - (l95.len : Int)))) w22 fun w25 =>
 zQi p0 fun a26 =>
 0 <= n1 /\ n1 < (4 : Int) /\
 ∃ n108, w25.cell? (((a26.add 3).add (n1.toNat * 4)).add 1) = some (.int .i64 n108) /\
 zQd prog ds w25 fun w27 =>
 R (.returned (.tuple #[.int .i64 n108, .int .i64 0])) w27)
def F66_2 (R : Rt) (p0 : Option Addr) (n1 : Int) (ds : Ds) (w : World) : Prop :=
 Calls prog 118 #[.int .i64 n1] w fun e w28 =>
 ∃ b10 : Bool, e = .returned (.bool b10) /\
 Br (!b10) (
 zQd prog ds w28 fun w29 =>
 R (.returned (.tuple #[.int .i64 0, .int .i64 1])) w29) (
 Calls prog 121 #[.pointer p0, .int .i64 n1] w28 fun e w30 =>
 ∃ b14 : Bool, e = .returned (.bool b14) /\
 Br b14 (
 Calls prog 119 #[.pointer p0, .int .i64 n1] w30 fun e w31 =>
 ∃ b18 : Bool, e = .returned (.bool b18) /\
 Br (!b18) (
 Calls prog 71 #[.pointer p0, .int .i64 n1, .bool false] w31 fun e w32 =>
 ∃ l24_0 : SV, ∃ n24_1 : Int, e = .returned (.tuple #[.slice l24_0.a l24_0.len l24_0.cap, .int .i64 n24_1]) /\
 Br (n24_1 != 0) (
 zQd prog ds w32 fun w33 =>
 R (.returned (.tuple #[.int .i64 0, .int .i64 n24_1])) w33) (
 Calls prog 124 #[.pointer p0] w32 fun e w34 =>
 ∃ n31 : Int, e = .returned (.int .i64 n31) /\
 Br (decide (n31 >= 300)) (
 zQd prog ds w34 fun w35 =>
 R (.returned (.tuple #[.int .i64 0, .int .i64 3])) w35) (
 zQi p0 fun a36 =>
 ∃ l37 : SV, w34.cell? (a36.add 1) = some (.slice l37.a l37.len l37.cap) /\
 Calls prog 125 #[.slice l37.a l37.len l37.cap] w34 fun e w37 =>
 ∃ b38_0 : Bool, ∃ l38_1 : SV, e = .returned (.agg #[.bool b38_0, .slice l38_1.a l38_1.len l38_1.cap]) /\
 alE (.cells #[.bool false, .slice none 0 0] 77) w37 fun r8 w38 =>
 stA prog 77 (⟨r8, 0, none⟩ : Addr) #[.bool b38_0, .slice l38_1.a l38_1.len l38_1.cap] w38 fun w39 =>
 yJU R p0 n1 (some (⟨r8, 0, none⟩ : Addr)) ds w39))) (
 Calls prog 124 #[.pointer p0] w31 fun e w40 =>
 ∃ n31 : Int, e = .returned (.int .i64 n31) /\
 Br (decide (n31 >= 300)) (
 zQd prog ds w40 fun w41 =>
 R (.returned (.tuple #[.int .i64 0, .int .i64 3])) w41) (
 zQi p0 fun a42 =>
 ∃ l37 : SV, w40.cell? (a42.add 1) = some (.slice l37.a l37.len l37.cap) /\
 Calls prog 125 #[.slice l37.a l37.len l37.cap] w40 fun e w43 =>
 ∃ b38_0 : Bool, ∃ l38_1 : SV, e = .returned (.agg #[.bool b38_0, .slice l38_1.a l38_1.len l38_1.cap]) /\
 alE (.cells #[.bool false, .slice none 0 0] 77) w43 fun r8 w44 =>
 stA prog 77 (⟨r8, 0, none⟩ : Addr) #[.bool b38_0, .slice l38_1.a l38_1.len l38_1.cap] w44 fun w45 =>
 yJU R p0 n1 (some (⟨r8, 0, none⟩ : Addr)) ds w45))) (
 Calls prog 124 #[.pointer p0] w30 fun e w46 =>
 ∃ n31 : Int, e = .returned (.int .i64 n31) /\
 Br (decide (n31 >= 300)) (
 zQd prog ds w46 fun w47 =>
 R (.returned (.tuple #[.int .i64 0, .int .i64 3])) w47) (
 zQi p0 fun a48 =>
 ∃ l37 : SV, w46.cell? (a48.add 1) = some (.slice l37.a l37.len l37.cap) /\
 Calls prog 125 #[.slice l37.a l37.len l37.cap] w46 fun e w49 =>
 ∃ b38_0 : Bool, ∃ l38_1 : SV, e = .returned (.agg #[.bool b38_0, .slice l38_1.a l38_1.len l38_1.cap]) /\
 alE (.cells #[.bool false, .slice none 0 0] 77) w49 fun r8 w50 =>
 stA prog 77 (⟨r8, 0, none⟩ : Addr) #[.bool b38_0, .slice l38_1.a l38_1.len l38_1.cap] w50 fun w51 =>
 yJU R p0 n1 (some (⟨r8, 0, none⟩ : Addr)) ds w51)))
theorem F66_p : Pl prog f66 [pS 0, iS 1] F66_2 := fun R =>
 pc 8 (zQx [pS 0, iS 1, pS 8] (yJU R) lf)
theorem yJE (p0 : Option Addr) (n1 : Int) (w : World) (R : Rt) (h : F66_2 R p0 n1 [] w) : Calls prog 66 #[.pointer p0, .int .i64 n1] w R :=
 plC F66_p func66 h
def F67_1 (R : Rt) (p0 : Option Addr) (n1 n2 : Int) (s3 : ByteArray) (ds : Ds) (w : World) : Prop :=
 alE (.cells #[.int .i64 0, .int .i64 0, .string (⟨#[]⟩ : ByteArray)] 28) w fun r8 w1 =>
 Calls prog 126 #[.pointer p0, .int .i64 n1, .int .i64 n2, .string s3, .bool false] w1 fun e w2 =>
 ∃ n14_0_0 : Int, ∃ n14_0_1 : Int, ∃ s14_0_2 : ByteArray, ∃ n14_1 : Int, e = .returned (.tuple #[.agg #[.int .i64 n14_0_0, .int .i64 n14_0_1, .string s14_0_2], .int .i64 n14_1]) /\
 stA prog 28 (⟨r8, 0, none⟩ : Addr) #[.int .i64 n14_0_0, .int .i64 n14_0_1, .string s14_0_2] w2 fun w3 =>
 zQd prog ds w3 fun w4 =>
 ∃ nR0_0, w4.cell? ((⟨r8, 0, none⟩ : Addr).add 0) = some (.int .i64 nR0_0) /\
 ∃ nR0_1, w4.cell? ((⟨r8, 0, none⟩ : Addr).add 1) = some (.int .i64 nR0_1) /\
 ∃ sR0_2, w4.cell? ((⟨r8, 0, none⟩ : Addr).add 2) = some (.string sR0_2) /\
 R (.returned (.tuple #[.agg #[.int .i64 nR0_0, .int .i64 nR0_1, .string sR0_2], .int .i64 n14_1])) w4
theorem F67_p : Pl prog f67 [pS 0, iS 1, iS 2, sS 3] F67_1 := fun R =>
 lf
theorem yKJ (p0 : Option Addr) (n1 n2 : Int) (s3 : ByteArray) (w : World) (R : Rt) (h : F67_1 R p0 n1 n2 s3 [] w) : Calls prog 67 #[.pointer p0, .int .i64 n1, .int .i64 n2, .string s3] w R :=
 plC F67_p func67 h
def F69_1 (R : Rt) (p0 : Option Addr) (n1 n2 : Int) (s3 : ByteArray) (ds : Ds) (w : World) : Prop :=
 alE (.cells #[.int .i64 0, .int .i64 0, .string (⟨#[]⟩ : ByteArray)] 28) w fun r8 w1 =>
 Calls prog 126 #[.pointer p0, .int .i64 n1, .int .i64 n2, .string s3, .bool true] w1 fun e w2 =>
 ∃ n14_0_0 : Int, ∃ n14_0_1 : Int, ∃ s14_0_2 : ByteArray, ∃ n14_1 : Int, e = .returned (.tuple #[.agg #[.int .i64 n14_0_0, .int .i64 n14_0_1, .string s14_0_2], .int .i64 n14_1]) /\
 stA prog 28 (⟨r8, 0, none⟩ : Addr) #[.int .i64 n14_0_0, .int .i64 n14_0_1, .string s14_0_2] w2 fun w3 =>
 zQd prog ds w3 fun w4 =>
 ∃ nR0_0, w4.cell? ((⟨r8, 0, none⟩ : Addr).add 0) = some (.int .i64 nR0_0) /\
 ∃ nR0_1, w4.cell? ((⟨r8, 0, none⟩ : Addr).add 1) = some (.int .i64 nR0_1) /\
 ∃ sR0_2, w4.cell? ((⟨r8, 0, none⟩ : Addr).add 2) = some (.string sR0_2) /\
 R (.returned (.tuple #[.agg #[.int .i64 nR0_0, .int .i64 nR0_1, .string sR0_2], .int .i64 n14_1])) w4
theorem F69_p : Pl prog f69 [pS 0, iS 1, iS 2, sS 3] F69_1 := fun R =>
 lf
theorem yW6 (p0 : Option Addr) (n1 n2 : Int) (s3 : ByteArray) (w : World) (R : Rt) (h : F69_1 R p0 n1 n2 s3 [] w) : Calls prog 69 #[.pointer p0, .int .i64 n1, .int .i64 n2, .string s3] w R :=
 plC F69_p func69 h
def F70_1 (R : Rt) (p0 : Option Addr) (n1 : Int) (s2 : ByteArray) (ds : Ds) (w : World) : Prop :=
 alE (.cells #[.int .i64 0, .int .i64 0, .string (⟨#[]⟩ : ByteArray)] 28) w fun r6 w1 =>
 zQi p0 fun a2 =>
 ∃ l15 : SV, w1.cell? (a2.add 1) = some (.slice l15.a l15.len l15.cap) /\
 Calls prog 122 #[.slice l15.a l15.len l15.cap, .string s2] w1 fun e w3 =>
 ∃ n17_0 : Int, ∃ b17_1 : Bool, e = .returned (.tuple #[.int .i64 n17_0, .bool b17_1]) /\
 Br (decide (n1 < 1)) (
 stA prog 28 (⟨r6, 0, none⟩ : Addr) #[.int .i64 0, .int .i64 0, .string (⟨#[]⟩ : ByteArray)] w3 fun w4 =>
 zQd prog ds w4 fun w5 =>
 ∃ nR0_0, w5.cell? ((⟨r6, 0, none⟩ : Addr).add 0) = some (.int .i64 nR0_0) /\
 ∃ nR0_1, w5.cell? ((⟨r6, 0, none⟩ : Addr).add 1) = some (.int .i64 nR0_1) /\
 ∃ sR0_2, w5.cell? ((⟨r6, 0, none⟩ : Addr).add 2) = some (.string sR0_2) /\
 R (.returned (.tuple #[.agg #[.int .i64 nR0_0, .int .i64 nR0_1, .string sR0_2], .int .i64 4])) w5) (
 zQi p0 fun a6 =>
 ∃ l28 : SV, w3.cell? (a6.add 2) = some (.slice l28.a l28.len l28.cap) /\
 Br (decide (n1 > (l28.len : Int))) (
 stA prog 28 (⟨r6, 0, none⟩ : Addr) #[.int .i64 0, .int .i64 0, .string (⟨#[]⟩ : ByteArray)] w3 fun w7 =>
 zQd prog ds w7 fun w8 =>
 ∃ nR0_0, w8.cell? ((⟨r6, 0, none⟩ : Addr).add 0) = some (.int .i64 nR0_0) /\
 ∃ nR0_1, w8.cell? ((⟨r6, 0, none⟩ : Addr).add 1) = some (.int .i64 nR0_1) /\
 ∃ sR0_2, w8.cell? ((⟨r6, 0, none⟩ : Addr).add 2) = some (.string sR0_2) /\
 R (.returned (.tuple #[.agg #[.int .i64 nR0_0, .int .i64 nR0_1, .string sR0_2], .int .i64 4])) w8) (
 Br (!b17_1) (
 stA prog 28 (⟨r6, 0, none⟩ : Addr) #[.int .i64 0, .int .i64 0, .string (⟨#[]⟩ : ByteArray)] w3 fun w9 =>
 zQd prog ds w9 fun w10 =>
 ∃ nR0_0, w10.cell? ((⟨r6, 0, none⟩ : Addr).add 0) = some (.int .i64 nR0_0) /\
 ∃ nR0_1, w10.cell? ((⟨r6, 0, none⟩ : Addr).add 1) = some (.int .i64 nR0_1) /\
 ∃ sR0_2, w10.cell? ((⟨r6, 0, none⟩ : Addr).add 2) = some (.string sR0_2) /\
 R (.returned (.tuple #[.agg #[.int .i64 nR0_0, .int .i64 nR0_1, .string sR0_2], .int .i64 4])) w10) (
 zQi p0 fun a11 =>
 ∃ l41 : SV, w3.cell? (a11.add 2) = some (.slice l41.a l41.len l41.cap) /\
 ∃ a12, l41.a = some a12 /\ 0 <= (IntKind.i64.wrap (n1 - 1)) /\ (IntKind.i64.wrap (n1 - 1)) < (l41.len : Int) /\
 ∃ l46 : SV, w3.cell? ((a12.add ((IntKind.i64.wrap (n1 - 1)).toNat * 2)).add 1) = some (.slice l46.a l46.len l46.cap) /\
 ∃ a13, l46.a = some a13 /\ 0 <= n17_0 /\ n17_0 < (l46.len : Int) /\
 ∃ n49_0, w3.cell? ((a13.add (n17_0.toNat * 3)).add 0) = some (.int .i64 n49_0) /\
 ∃ n49_1, w3.cell? ((a13.add (n17_0.toNat * 3)).add 1) = some (.int .i64 n49_1) /\
 ∃ s49_2, w3.cell? ((a13.add (n17_0.toNat * 3)).add 2) = some (.string s49_2) /\
 stA prog 28 (⟨r6, 0, none⟩ : Addr) #[.int .i64 n49_0, .int .i64 n49_1, .string s49_2] w3 fun w14 =>
 zQd prog ds w14 fun w15 =>
 ∃ nR0_0, w15.cell? ((⟨r6, 0, none⟩ : Addr).add 0) = some (.int .i64 nR0_0) /\
 ∃ nR0_1, w15.cell? ((⟨r6, 0, none⟩ : Addr).add 1) = some (.int .i64 nR0_1) /\
 ∃ sR0_2, w15.cell? ((⟨r6, 0, none⟩ : Addr).add 2) = some (.string sR0_2) /\
 R (.returned (.tuple #[.agg #[.int .i64 nR0_0, .int .i64 nR0_1, .string sR0_2], .int .i64 0])) w15)))
theorem F70_p : Pl prog f70 [pS 0, iS 1, sS 2] F70_1 := fun R =>
 lf
theorem yJz (p0 : Option Addr) (n1 : Int) (s2 : ByteArray) (w : World) (R : Rt) (h : F70_1 R p0 n1 s2 [] w) : Calls prog 70 #[.pointer p0, .int .i64 n1, .string s2] w R :=
 plC F70_p func70 h
def F71_1 (R : Rt) (p0 : Option Addr) (n1 : Int) (p10 : Option Addr) (l17 : SV) (ds : Ds) (w : World) : Prop :=
 zQi p10 fun a1 =>
 ∃ n182, w.cell? (a1.add 1) = some (.int .i64 n182) /\
 Br (decide (n182 < 0)) (
 zQi p10 fun a2 =>
 ∃ n189, w.cell? (a2.add 1) = some (.int .i64 n189) /\
 ∃ a3, l17.a = some a3 /\ 0 <= (IntKind.i64.wrap ((IntKind.i64.wrap (0 - n189)) - 1)) /\ (IntKind.i64.wrap ((IntKind.i64.wrap (0 - n189)) - 1)) < (l17.len : Int) /\
 ∃ n193, w.cell? (a3.add ((IntKind.i64.wrap ((IntKind.i64.wrap (0 - n189)) - 1)).toNat * 1)) = some (.int .i64 n193) /\
 zQi p10 fun a4 =>
 st1 (a4.add 1) (.int .i64 n193) w fun w5 =>
 Calls prog 127 #[.pointer p0, .int .i64 n1] w5 fun e w6 =>
 e = .returned (.tuple #[]) /\
 zQd prog ds w6 fun w7 =>
 R (.returned (.tuple #[.slice l17.a l17.len l17.cap, .int .i64 0])) w7) (
 Calls prog 127 #[.pointer p0, .int .i64 n1] w fun e w8 =>
 e = .returned (.tuple #[]) /\
 zQd prog ds w8 fun w9 =>
 R (.returned (.tuple #[.slice l17.a l17.len l17.cap, .int .i64 0])) w9)
def F71_2 (R : Rt) (J1 : (SV × Int) -> World -> Prop) (p0 : Option Addr) (n1 : Int) (p10 : Option Addr) (l17 : SV) (n18 : Int) (ds : Ds) (w : World) : Prop :=
 zQi p10 fun a10 =>
 ∃ l147 : SV, w.cell? (a10.add 3) = some (.slice l147.a l147.len l147.cap) /\
 Br (decide (n18 < (l147.len : Int))) (
 dwE w fun w11 =>
 ∃ S1 : World -> Prop, S1 w11 /\
 zQi p0 fun a12 =>
 ∃ l157 : SV, (∀ w', S1 w' -> w'.cell? (a12.add 2) = some (.slice l157.a l157.len l157.cap)) /\
 zQi p10 fun a13 =>
 ∃ l161 : SV, (∀ w', S1 w' -> w'.cell? (a13.add 3) = some (.slice l161.a l161.len l161.cap)) /\
 ∃ a14, l161.a = some a14 /\ 0 <= n18 /\ n18 < (l161.len : Int) /\
 ∃ b164_0, (∀ w', S1 w' -> w'.cell? ((a14.add (n18.toNat * 2)).add 0) = some (.bool b164_0)) /\
 ∃ l164_1 : SV, (∀ w', S1 w' -> w'.cell? ((a14.add (n18.toNat * 2)).add 1) = some (.slice l164_1.a l164_1.len l164_1.cap)) /\
 alE (.cells #[.bool b164_0, .slice l164_1.a l164_1.len l164_1.cap] 77) w11 fun r165 w15 =>
 S1 w15 /\
 ∃ l166 : SV, ∃ w16, (Builtin.append_ #[23, 23] 23 #[.slice l157.a l157.len l157.cap, .slice (some ⟨r165, 0, none⟩) 1 1]).run prog w15 = .ok (.slice l166.a l166.len l166.cap) w16 /\
 zQi p0 fun a17 =>
 st1 (a17.add 2) (.slice l166.a l166.len l166.cap) w16 fun w18 =>
 zQi p0 fun a19 =>
 ∃ l175 : SV, w18.cell? (a19.add 2) = some (.slice l175.a l175.len l175.cap) /\
 alE (.cells #[.int .i64 (l175.len : Int)] 3) w18 fun r177 w20 =>
 ∃ l178 : SV, ∃ w21, (Builtin.append_ #[43, 43] 43 #[.slice l17.a l17.len l17.cap, .slice (some ⟨r177, 0, none⟩) 1 1]).run prog w20 = .ok (.slice l178.a l178.len l178.cap) w21 /\
 J1 (l178, (IntKind.i64.wrap (n18 + 1))) w21) (
 F71_1 R p0 n1 p10 l17 ds w)
def F71_3 (R : Rt) (p0 : Option Addr) (n1 : Int) (p10 : Option Addr) (l17 : SV) (n18 : Int) (ds : Ds) (w : World) : Prop :=
 zQD (fun (J1 : (SV × Int) -> World -> Prop) (s : SV × Int) (w : World) => F71_2 R J1 p0 n1 p10 s.1 s.2 ds w) (l17, n18) w
def xZi (R : Rt) (p0 : Option Addr) (n1 : Int) (p10 : Option Addr) (ds : Ds) (w : World) : Prop :=
 F71_3 R p0 n1 p10 ⟨none, 0, 0⟩ 0 ds w
def xZv (R : Rt) (J1 : (Int) -> World -> Prop) (p0 : Option Addr) (n1 : Int) (p10 : Option Addr) (n13 : Int) (ds : Ds) (w : World) : Prop :=
 J1 (IntKind.i64.wrap (n13 + 1)) w
def F71_7 (R : Rt) (J1 : (Int) -> World -> Prop) (p0 : Option Addr) (n1 : Int) (p10 : Option Addr) (n13 : Int) (p14 p15 : Option Addr) (ds : Ds) (w : World) : Prop :=
 zQi p14 fun a22 =>
 ∃ b132, w.cell? (a22.add 1) = some (.bool b132) /\
 zQi p14 fun a23 =>
 ∃ b135, w.cell? (a23.add 3) = some (.bool b135) /\
 Br (!(b132 == b135)) (
 zQi p14 fun a24 =>
 ∃ b140, w.cell? (a24.add 3) = some (.bool b140) /\
 zQi p15 fun a25 =>
 st1 a25 (.bool b140) w fun w26 =>
 xZv R J1 p0 n1 p10 n13 ds w26) (
 xZv R J1 p0 n1 p10 n13 ds w)
def F71_8 (R : Rt) (J1 : (Int) -> World -> Prop) (J2 : (Int) -> World -> Prop) (p0 : Option Addr) (n1 : Int) (p10 : Option Addr) (n13 : Int) (p14 p15 : Option Addr) (n16 : Int) (ds : Ds) (w : World) : Prop :=
 zQi p15 fun a27 =>
 ∃ l99 : SV, w.cell? (a27.add 1) = some (.slice l99.a l99.len l99.cap) /\
 Br (decide (n16 < (l99.len : Int))) (
 dwE w fun w28 =>
 zQi p14 fun a29 =>
 ∃ l106 : SV, w28.cell? ((a29.add 1).add 1) = some (.slice l106.a l106.len l106.cap) /\
 ∃ a30, l106.a = some a30 /\ 0 <= n16 /\ n16 < (l106.len : Int) /\
 ∃ n109_0, w28.cell? ((a30.add (n16.toNat * 3)).add 0) = some (.int .i64 n109_0) /\
 ∃ n109_1, w28.cell? ((a30.add (n16.toNat * 3)).add 1) = some (.int .i64 n109_1) /\
 ∃ s109_2, w28.cell? ((a30.add (n16.toNat * 3)).add 2) = some (.string s109_2) /\
 zQi p14 fun a31 =>
 ∃ l112 : SV, w28.cell? ((a31.add 3).add 1) = some (.slice l112.a l112.len l112.cap) /\
 ∃ a32, l112.a = some a32 /\ 0 <= n16 /\ n16 < (l112.len : Int) /\
 ∃ n115_0, w28.cell? ((a32.add (n16.toNat * 3)).add 0) = some (.int .i64 n115_0) /\
 ∃ n115_1, w28.cell? ((a32.add (n16.toNat * 3)).add 1) = some (.int .i64 n115_1) /\
 ∃ s115_2, w28.cell? ((a32.add (n16.toNat * 3)).add 2) = some (.string s115_2) /\
 Calls prog 19 #[.agg #[.int .i64 n109_0, .int .i64 n109_1, .string s109_2], .agg #[.int .i64 n115_0, .int .i64 n115_1, .string s115_2]] w28 fun e w33 =>
 ∃ b116 : Bool, e = .returned (.bool b116) /\
 Br (!b116) (
 dwE w33 fun w34 =>
 zQi p15 fun a35 =>
 ∃ l121 : SV, w34.cell? (a35.add 1) = some (.slice l121.a l121.len l121.cap) /\
 zQi p14 fun a36 =>
 ∃ l125 : SV, w34.cell? ((a36.add 3).add 1) = some (.slice l125.a l125.len l125.cap) /\
 ∃ a37, l125.a = some a37 /\ 0 <= n16 /\ n16 < (l125.len : Int) /\
 ∃ n128_0, w34.cell? ((a37.add (n16.toNat * 3)).add 0) = some (.int .i64 n128_0) /\
 ∃ n128_1, w34.cell? ((a37.add (n16.toNat * 3)).add 1) = some (.int .i64 n128_1) /\
 ∃ s128_2, w34.cell? ((a37.add (n16.toNat * 3)).add 2) = some (.string s128_2) /\
 ∃ a38, l121.a = some a38 /\ 0 <= n16 /\ n16 < (l121.len : Int) /\
 stA prog 28 (a38.add (n16.toNat * 3)) #[.int .i64 n128_0, .int .i64 n128_1, .string s128_2] w34 fun w39 =>
 J2 (IntKind.i64.wrap (n16 + 1)) w39) (
 J2 (IntKind.i64.wrap (n16 + 1)) w33)) (
 F71_7 R J1 p0 n1 p10 n13 p14 p15 ds w)
def xZo (R : Rt) (J1 : (Int) -> World -> Prop) (p0 : Option Addr) (n1 : Int) (p10 : Option Addr) (n13 : Int) (p14 p15 : Option Addr) (n16 : Int) (ds : Ds) (w : World) : Prop :=
 zQD (fun (J2 : (Int) -> World -> Prop) (s : Int) (w : World) => F71_8 R J1 J2 p0 n1 p10 n13 p14 p15 s ds w) n16 w
def xQY (R : Rt) (J1 : (Int) -> World -> Prop) (p0 : Option Addr) (n1 : Int) (p10 : Option Addr) (n13 : Int) (ds : Ds) (w : World) : Prop :=
 zQi p10 fun a40 =>
 ∃ l82 : SV, w.cell? (a40.add 2) = some (.slice l82.a l82.len l82.cap) /\
 ∃ a41, l82.a = some a41 /\ 0 <= n13 /\ n13 < (l82.len : Int) /\
 ∃ n85_0, w.cell? ((a41.add (n13.toNat * 5)).add 0) = some (.int .i64 n85_0) /\
 ∃ b85_1, w.cell? ((a41.add (n13.toNat * 5)).add 1) = some (.bool b85_1) /\
 ∃ l85_2 : SV, w.cell? ((a41.add (n13.toNat * 5)).add 2) = some (.slice l85_2.a l85_2.len l85_2.cap) /\
 ∃ b85_3, w.cell? ((a41.add (n13.toNat * 5)).add 3) = some (.bool b85_3) /\
 ∃ l85_4 : SV, w.cell? ((a41.add (n13.toNat * 5)).add 4) = some (.slice l85_4.a l85_4.len l85_4.cap) /\
 alE (.cells #[.int .i64 0, .bool false, .slice none 0 0, .bool false, .slice none 0 0] 136) w fun r14 w42 =>
 stA prog 136 (⟨r14, 0, none⟩ : Addr) #[.int .i64 n85_0, .bool b85_1, .slice l85_2.a l85_2.len l85_2.cap, .bool b85_3, .slice l85_4.a l85_4.len l85_4.cap] w42 fun w43 =>
 dwE w43 fun w44 =>
 zQi p0 fun a45 =>
 ∃ l90 : SV, w44.cell? (a45.add 2) = some (.slice l90.a l90.len l90.cap) /\
 ∃ n92, w44.cell? (⟨r14, 0, none⟩ : Addr) = some (.int .i64 n92) /\
 ∃ a46, l90.a = some a46 /\ 0 <= (IntKind.i64.wrap (n92 - 1)) /\ (IntKind.i64.wrap (n92 - 1)) < (l90.len : Int) /\
 xZo R J1 p0 n1 p10 n13 (some (⟨r14, 0, none⟩ : Addr)) (some (a46.add ((IntKind.i64.wrap (n92 - 1)).toNat * 2))) 0 ds w44
def xQg (R : Rt) (J1 : (Int) -> World -> Prop) (p0 : Option Addr) (n1 : Int) (p10 : Option Addr) (n13 : Int) (ds : Ds) (w : World) : Prop :=
 zQi p10 fun a47 =>
 ∃ l74 : SV, w.cell? (a47.add 2) = some (.slice l74.a l74.len l74.cap) /\
 Br (decide (n13 < (l74.len : Int))) (
 xQY R J1 p0 n1 p10 n13 ds w) (
 xZi R p0 n1 p10 ds w)
def yYl (R : Rt) (p0 : Option Addr) (n1 : Int) (p10 : Option Addr) (n13 : Int) (ds : Ds) (w : World) : Prop :=
 zQD (fun (J1 : (Int) -> World -> Prop) (s : Int) (w : World) => xQg R J1 p0 n1 p10 s ds w) n13 w
def yKC (R : Rt) (p0 : Option Addr) (n1 : Int) (p10 : Option Addr) (ds : Ds) (w : World) : Prop :=
 yYl R p0 n1 p10 0 ds w
def yYq (R : Rt) (J1 : (Int) -> World -> Prop) (p0 : Option Addr) (n1 : Int) (p10 : Option Addr) (n11 : Int) (ds : Ds) (w : World) : Prop :=
 zQi p10 fun a48 =>
 ∃ l44 : SV, w.cell? (a48.add 2) = some (.slice l44.a l44.len l44.cap) /\
 Br (decide (n11 < (l44.len : Int))) (
 dwE w fun w49 =>
 zQi p0 fun a50 =>
 ∃ m52, w49.cell? (a50.add 19) = some (.map m52) /\
 zQi p10 fun a51 =>
 ∃ l56 : SV, w49.cell? (a51.add 2) = some (.slice l56.a l56.len l56.cap) /\
 ∃ a52, l56.a = some a52 /\ 0 <= n11 /\ n11 < (l56.len : Int) /\
 ∃ n60, w49.cell? (a52.add (n11.toNat * 5)) = some (.int .i64 n60) /\
 ∃ n61 : Int, (Instr.lookup 80 (.map m52) (.int .i64 n60) false).run prog w49 = .ok (.int .i64 n61) w49 /\
 Br (n61 != 0) (
 Br (n61 != (IntKind.i64.wrap (n1 + 1))) (
 zQd prog ds w49 fun w53 =>
 R (.returned (.tuple #[.slice none 0 0, .int .i64 12])) w53) (
 J1 (IntKind.i64.wrap (n11 + 1)) w49)) (
 J1 (IntKind.i64.wrap (n11 + 1)) w49)) (
 yKC R p0 n1 p10 ds w)
def yXC (R : Rt) (p0 : Option Addr) (n1 : Int) (p10 : Option Addr) (n11 : Int) (ds : Ds) (w : World) : Prop :=
 zQD (fun (J1 : (Int) -> World -> Prop) (s : Int) (w : World) => yYq R J1 p0 n1 p10 s ds w) n11 w
def yY9 (R : Rt) (p0 : Option Addr) (n1 : Int) (b2 : Bool) (ds : Ds) (w : World) : Prop :=
 Calls prog 79 #[.pointer p0, .int .i64 n1] w fun e w54 =>
 ∃ l22_0 : SV, ∃ n22_1 : Int, e = .returned (.tuple #[.slice l22_0.a l22_0.len l22_0.cap, .int .i64 n22_1]) /\
 Br (n22_1 != 0) (
 zQd prog ds w54 fun w55 =>
 R (.returned (.tuple #[.slice none 0 0, .int .i64 n22_1])) w55) (
 Br (decide ((l22_0.len : Int) > 0)) (
 Br (!b2) (
 zQd prog ds w54 fun w56 =>
 R (.returned (.tuple #[.slice none 0 0, .int .i64 13])) w56) (
 zQi p0 fun a57 =>
 0 <= n1 /\ n1 < (4 : Int) /\
 yXC R p0 n1 (some ((a57.add 3).add (n1.toNat * 4))) 0 ds w54)) (
 zQi p0 fun a58 =>
 0 <= n1 /\ n1 < (4 : Int) /\
 yXC R p0 n1 (some ((a58.add 3).add (n1.toNat * 4))) 0 ds w54))
theorem F71_p : Pl prog f71 [pS 0, iS 1, bS 2] yY9 := fun R =>
 pc 8 (zQx [pS 0, iS 1, pS 10, iS 11] (yXC R) (bk 0 (zQx [pS 0, iS 1, pS 10] (yKC R) (pc 1 (zQx [pS 0, iS 1, pS 10, iS 13] (yYl R) (bk 2 (zQx [pS 0, iS 1, pS 10] (xZi R) (pc 2 (zQx [pS 0, iS 1, pS 10, lS 17, iS 18] (F71_3 R) (bk 6 (zQx [pS 0, iS 1, pS 10, lS 17] (F71_1 R) lf) (lp [lS 17, iS 18] [pS 0, iS 1, pS 10, lS 17, iS 18] (F71_2 R) zXz fun J1 => lf))))) (lp [iS 13] [pS 0, iS 1, pS 10, iS 13] (xQg R) zXz fun J1 => pc 2 (zQx [pS 0, iS 1, pS 10, iS 13] (xQY R J1) (bk 3 (zQx [pS 0, iS 1, pS 10, iS 13] (xZv R J1) lf) (pc 3 (zQx [pS 0, iS 1, pS 10, iS 13, pS 14, pS 15, iS 16] (xZo R J1) (bk 4 (zQx [pS 0, iS 1, pS 10, iS 13, pS 14, pS 15] (F71_7 R J1) lf) (lp [iS 16] [pS 0, iS 1, pS 10, iS 13, pS 14, pS 15, iS 16] (F71_8 R J1) zXz fun J2 => lf))))))))))) (lp [iS 11] [pS 0, iS 1, pS 10, iS 11] (yYq R) zXz fun J1 => lf)))
theorem yJS (p0 : Option Addr) (n1 : Int) (b2 : Bool) (w : World) (R : Rt) (h : yY9 R p0 n1 b2 [] w) : Calls prog 71 #[.pointer p0, .int .i64 n1, .bool b2] w R :=
 plC F71_p func71 h
def F73_1 (R : Rt) (p0 : Option Addr) (n1 : Int) (ds : Ds) (w : World) : Prop :=
 Calls prog 118 #[.int .i64 n1] w fun e w1 =>
 ∃ b8 : Bool, e = .returned (.bool b8) /\
 Br (!b8) (
 zQd prog ds w1 fun w2 =>
 R (.returned (.tuple #[.int .i64 0, .int .i64 1])) w2) (
 dwE w1 fun w3 =>
 zQi p0 fun a4 =>
 0 <= n1 /\ n1 < (4 : Int) /\
 ∃ l16 : SV, w3.cell? (((a4.add 3).add (n1.toNat * 4)).add 2) = some (.slice l16.a l16.len l16.cap) /\
 zQi p0 fun a5 =>
 0 <= n1 /\ n1 < (4 : Int) /\
 ∃ l24 : SV, w3.cell? (((a5.add 3).add (n1.toNat * 4)).add 3) = some (.slice l24.a l24.len l24.cap) /\
 zQi p0 fun a6 =>
 0 <= n1 /\ n1 < (4 : Int) /\
 ∃ n33, w3.cell? (((a6.add 3).add (n1.toNat * 4)).add 1) = some (.int .i64 n33) /\
 Br (decide (n33 < 0)) (
 zQi p0 fun a7 =>
 0 <= n1 /\ n1 < (4 : Int) /\
 st1 (((a7.add 3).add (n1.toNat * 4)).add 1) (.int .i64 0) w3 fun w8 =>
 Calls prog 127 #[.pointer p0, .int .i64 n1] w8 fun e w9 =>
 e = .returned (.tuple #[]) /\
 zQd prog ds w9 fun w10 =>
 R (.returned (.tuple #[.int .i64 (IntKind.i64.wrap ((l16.len : Int) + (l24.len : Int))), .int .i64 0])) w10) (
 Calls prog 127 #[.pointer p0, .int .i64 n1] w3 fun e w11 =>
 e = .returned (.tuple #[]) /\
 zQd prog ds w11 fun w12 =>
 R (.returned (.tuple #[.int .i64 (IntKind.i64.wrap ((l16.len : Int) + (l24.len : Int))), .int .i64 0])) w12))
theorem F73_p : Pl prog f73 [pS 0, iS 1] F73_1 := fun R =>
 lf
theorem yJA (p0 : Option Addr) (n1 : Int) (w : World) (R : Rt) (h : F73_1 R p0 n1 [] w) : Calls prog 73 #[.pointer p0, .int .i64 n1] w R :=
 plC F73_p func73 h
def F74_1 (R : Rt) (p0 : Option Addr) (n1 : Int) (ds : Ds) (w : World) : Prop :=
 Calls prog 73 #[.pointer p0, .int .i64 n1] w fun e w1 =>
 ∃ n10_0 : Int, ∃ n10_1 : Int, e = .returned (.tuple #[.int .i64 n10_0, .int .i64 n10_1]) /\
 Br (n10_1 != 0) (
 zQd prog ds w1 fun w2 =>
 R (.returned (.int .i64 n10_1)) w2) (
 zQi p0 fun a3 =>
 0 <= n1 /\ n1 < (4 : Int) /\
 stA prog 122 ((a3.add 3).add (n1.toNat * 4)) #[.int .i64 0, .int .i64 0, .slice none 0 0, .slice none 0 0] w1 fun w4 =>
 zQd prog ds w4 fun w5 =>
 R (.returned (.int .i64 0)) w5)
theorem F74_p : Pl prog f74 [pS 0, iS 1] F74_1 := fun R =>
 lf
theorem yWA (p0 : Option Addr) (n1 : Int) (w : World) (R : Rt) (h : F74_1 R p0 n1 [] w) : Calls prog 74 #[.pointer p0, .int .i64 n1] w R :=
 plC F74_p func74 h
def F75_1 (R : Rt) (p0 : Option Addr) (n1 : Int) (ds : Ds) (w : World) : Prop :=
 Br (decide (n1 < 1)) (
 zQd prog ds w fun w1 =>
 R (.returned (.tuple #[.int .i64 0, .bool false, .int .i64 4])) w1) (
 zQi p0 fun a2 =>
 ∃ l16 : SV, w.cell? (a2.add 2) = some (.slice l16.a l16.len l16.cap) /\
 Br (decide (n1 > (l16.len : Int))) (
 zQd prog ds w fun w3 =>
 R (.returned (.tuple #[.int .i64 0, .bool false, .int .i64 4])) w3) (
 zQi p0 fun a4 =>
 ∃ m23, w.cell? (a4.add 19) = some (.map m23) /\
 ∃ n25 : Int, ∃ w5, (Instr.lookup 80 (.map m23) (.int .i64 n1) false).run prog w = .ok (.int .i64 n25) w5 /\
 Br (n25 != 0) (
 zQd prog ds w5 fun w6 =>
 R (.returned (.tuple #[.int .i64 (IntKind.i64.wrap (n25 - 1)), .bool true, .int .i64 0])) w6) (
 zQd prog ds w5 fun w7 =>
 R (.returned (.tuple #[.int .i64 0, .bool false, .int .i64 0])) w7)))
theorem F75_p : Pl prog f75 [pS 0, iS 1] F75_1 := fun R =>
 lf
theorem yKU (p0 : Option Addr) (n1 : Int) (w : World) (R : Rt) (h : F75_1 R p0 n1 [] w) : Calls prog 75 #[.pointer p0, .int .i64 n1] w R :=
 plC F75_p func75 h
def F77_1 (R : Rt) (l6 : SV) (ds : Ds) (w : World) : Prop :=
 zQd prog ds w fun w1 =>
 R (.returned (.tuple #[.slice l6.a l6.len l6.cap, .int .i64 0])) w1
def F77_2 (R : Rt) (J1 : (SV × Int) -> World -> Prop) (p0 : Option Addr) (n1 : Int) (l6 : SV) (n8 : Int) (ds : Ds) (w : World) : Prop :=
 zQi p0 fun a2 =>
 0 <= n1 /\ n1 < (4 : Int) /\
 ∃ l38 : SV, w.cell? (((a2.add 3).add (n1.toNat * 4)).add 3) = some (.slice l38.a l38.len l38.cap) /\
 Br (decide (n8 < (l38.len : Int))) (
 alE (.cells #[.int .i64 (IntKind.i64.wrap ((IntKind.i64.wrap (0 - n8)) - 1))] 3) w fun r47 w3 =>
 ∃ l48 : SV, ∃ w4, (Builtin.append_ #[43, 43] 43 #[.slice l6.a l6.len l6.cap, .slice (some ⟨r47, 0, none⟩) 1 1]).run prog w3 = .ok (.slice l48.a l48.len l48.cap) w4 /\
 J1 (l48, (IntKind.i64.wrap (n8 + 1))) w4) (
 F77_1 R l6 ds w)
def F77_3 (R : Rt) (p0 : Option Addr) (n1 : Int) (l6 : SV) (n8 : Int) (ds : Ds) (w : World) : Prop :=
 zQD (fun (J1 : (SV × Int) -> World -> Prop) (s : SV × Int) (w : World) => F77_2 R J1 p0 n1 s.1 s.2 ds w) (l6, n8) w
def F77_5 (R : Rt) (p0 : Option Addr) (n1 : Int) (l6 : SV) (ds : Ds) (w : World) : Prop :=
 F77_3 R p0 n1 l6 0 ds w
def F77_6 (R : Rt) (J1 : (SV × Int) -> World -> Prop) (p0 : Option Addr) (n1 : Int) (l6 : SV) (n7 : Int) (ds : Ds) (w : World) : Prop :=
 zQi p0 fun a5 =>
 ∃ l17 : SV, w.cell? (a5.add 2) = some (.slice l17.a l17.len l17.cap) /\
 Br (decide (n7 <= (l17.len : Int))) (
 Calls prog 130 #[.pointer p0, .int .i64 n1, .int .i64 n7] w fun e w6 =>
 ∃ n25 : Int, e = .returned (.int .i64 n25) /\
 Br (decide (n25 >= 0)) (
 alE (.cells #[.int .i64 n7] 3) w6 fun r29 w7 =>
 ∃ l30 : SV, ∃ w8, (Builtin.append_ #[43, 43] 43 #[.slice l6.a l6.len l6.cap, .slice (some ⟨r29, 0, none⟩) 1 1]).run prog w7 = .ok (.slice l30.a l30.len l30.cap) w8 /\
 J1 (l30, (IntKind.i64.wrap (n7 + 1))) w8) (
 J1 (l6, (IntKind.i64.wrap (n7 + 1))) w6)) (
 F77_5 R p0 n1 l6 ds w)
def F77_7 (R : Rt) (p0 : Option Addr) (n1 : Int) (l6 : SV) (n7 : Int) (ds : Ds) (w : World) : Prop :=
 zQD (fun (J1 : (SV × Int) -> World -> Prop) (s : SV × Int) (w : World) => F77_6 R J1 p0 n1 s.1 s.2 ds w) (l6, n7) w
def F77_9 (R : Rt) (p0 : Option Addr) (n1 : Int) (ds : Ds) (w : World) : Prop :=
 Calls prog 118 #[.int .i64 n1] w fun e w9 =>
 ∃ b10 : Bool, e = .returned (.bool b10) /\
 Br (!b10) (
 zQd prog ds w9 fun w10 =>
 R (.returned (.tuple #[.slice none 0 0, .int .i64 1])) w10) (
 F77_7 R p0 n1 ⟨none, 0, 0⟩ 1 ds w9)
theorem F77_p : Pl prog f77 [pS 0, iS 1] F77_9 := fun R =>
 pc 5 (zQx [pS 0, iS 1, lS 6, iS 7] (F77_7 R) (bk 0 (zQx [pS 0, iS 1, lS 6] (F77_5 R) (pc 1 (zQx [pS 0, iS 1, lS 6, iS 8] (F77_3 R) (bk 2 (zQx [lS 6] (F77_1 R) lf) (lp [lS 6, iS 8] [pS 0, iS 1, lS 6, iS 8] (F77_2 R) zXz fun J1 => lf))))) (lp [lS 6, iS 7] [pS 0, iS 1, lS 6, iS 7] (F77_6 R) zXz fun J1 => lf)))
theorem yWT (p0 : Option Addr) (n1 : Int) (w : World) (R : Rt) (h : F77_9 R p0 n1 [] w) : Calls prog 77 #[.pointer p0, .int .i64 n1] w R :=
 plC F77_p func77 h
def F79_1 (R : Rt) (l6 : SV) (ds : Ds) (w : World) : Prop :=
 zQd prog ds w fun w1 =>
 R (.returned (.tuple #[.slice l6.a l6.len l6.cap, .int .i64 0])) w1
def F79_2 (R : Rt) (J1 : (SV × Int) -> World -> Prop) (p0 : Option Addr) (n1 : Int) (l6 : SV) (n7 : Int) (ds : Ds) (w : World) : Prop :=
 zQi p0 fun a2 =>
 ∃ l17 : SV, w.cell? (a2.add 2) = some (.slice l17.a l17.len l17.cap) /\
 Br (decide (n7 <= (l17.len : Int))) (
 Calls prog 130 #[.pointer p0, .int .i64 n1, .int .i64 n7] w fun e w3 =>
 ∃ n25 : Int, e = .returned (.int .i64 n25) /\
 Br (decide (n25 >= 0)) (
 zQi p0 fun a4 =>
 0 <= n1 /\ n1 < (4 : Int) /\
 ∃ l36 : SV, w3.cell? (((a4.add 3).add (n1.toNat * 4)).add 2) = some (.slice l36.a l36.len l36.cap) /\
 ∃ a5, l36.a = some a5 /\ 0 <= n25 /\ n25 < (l36.len : Int) /\
 ∃ n39_0, w3.cell? ((a5.add (n25.toNat * 5)).add 0) = some (.int .i64 n39_0) /\
 ∃ b39_1, w3.cell? ((a5.add (n25.toNat * 5)).add 1) = some (.bool b39_1) /\
 ∃ l39_2 : SV, w3.cell? ((a5.add (n25.toNat * 5)).add 2) = some (.slice l39_2.a l39_2.len l39_2.cap) /\
 ∃ b39_3, w3.cell? ((a5.add (n25.toNat * 5)).add 3) = some (.bool b39_3) /\
 ∃ l39_4 : SV, w3.cell? ((a5.add (n25.toNat * 5)).add 4) = some (.slice l39_4.a l39_4.len l39_4.cap) /\
 Calls prog 131 #[.pointer p0, .agg #[.int .i64 n39_0, .bool b39_1, .slice l39_2.a l39_2.len l39_2.cap, .bool b39_3, .slice l39_4.a l39_4.len l39_4.cap]] w3 fun e w6 =>
 ∃ b40 : Bool, e = .returned (.bool b40) /\
 Br b40 (
 alE (.cells #[.int .i64 n7] 3) w6 fun r44 w7 =>
 ∃ l45 : SV, ∃ w8, (Builtin.append_ #[43, 43] 43 #[.slice l6.a l6.len l6.cap, .slice (some ⟨r44, 0, none⟩) 1 1]).run prog w7 = .ok (.slice l45.a l45.len l45.cap) w8 /\
 J1 (l45, (IntKind.i64.wrap (n7 + 1))) w8) (
 J1 (l6, (IntKind.i64.wrap (n7 + 1))) w6)) (
 J1 (l6, (IntKind.i64.wrap (n7 + 1))) w3)) (
 F79_1 R l6 ds w)
def F79_3 (R : Rt) (p0 : Option Addr) (n1 : Int) (l6 : SV) (n7 : Int) (ds : Ds) (w : World) : Prop :=
 zQD (fun (J1 : (SV × Int) -> World -> Prop) (s : SV × Int) (w : World) => F79_2 R J1 p0 n1 s.1 s.2 ds w) (l6, n7) w
def F79_5 (R : Rt) (p0 : Option Addr) (n1 : Int) (ds : Ds) (w : World) : Prop :=
 Calls prog 118 #[.int .i64 n1] w fun e w9 =>
 ∃ b10 : Bool, e = .returned (.bool b10) /\
 Br (!b10) (
 zQd prog ds w9 fun w10 =>
 R (.returned (.tuple #[.slice none 0 0, .int .i64 1])) w10) (
 F79_3 R p0 n1 ⟨none, 0, 0⟩ 1 ds w9)
theorem F79_p : Pl prog f79 [pS 0, iS 1] F79_5 := fun R =>
 pc 5 (zQx [pS 0, iS 1, lS 6, iS 7] (F79_3 R) (bk 0 (zQx [lS 6] (F79_1 R) lf) (lp [lS 6, iS 7] [pS 0, iS 1, lS 6, iS 7] (F79_2 R) zXz fun J1 => lf)))
theorem yWE (p0 : Option Addr) (n1 : Int) (w : World) (R : Rt) (h : F79_5 R p0 n1 [] w) : Calls prog 79 #[.pointer p0, .int .i64 n1] w R :=
 plC F79_p func79 h
end Go.Proofs.YtcihcbfcgjepfaaGreatDoor
/- Shallow texts of functions, printed by program, each checked by the kernel against the loaded code. No condition. -/
namespace Go.Proofs.YtcihcbfcgjepfaaGreatDoor
open Go.Sh Tryz
def F27_1 (R : Rt) (p0 : Option Addr) (ds : Ds) (w : World) : Prop :=
 alE (.cells #[.int .i64 0, .slice none 0 0, .slice none 0 0] 25) w fun r2 w1 =>
 zQi p0 fun a2 =>
 ∃ n6_0, w1.cell? (a2.add 0) = some (.int .i64 n6_0) /\
 ∃ l6_1 : SV, w1.cell? (a2.add 1) = some (.slice l6_1.a l6_1.len l6_1.cap) /\
 ∃ l6_2 : SV, w1.cell? (a2.add 2) = some (.slice l6_2.a l6_2.len l6_2.cap) /\
 Calls prog 80 #[.agg #[.int .i64 n6_0, .slice l6_1.a l6_1.len l6_1.cap, .slice l6_2.a l6_2.len l6_2.cap]] w1 fun e w3 =>
 ∃ n7_0 : Int, ∃ l7_1 : SV, ∃ l7_2 : SV, e = .returned (.agg #[.int .i64 n7_0, .slice l7_1.a l7_1.len l7_1.cap, .slice l7_2.a l7_2.len l7_2.cap]) /\
 stA prog 25 (⟨r2, 0, none⟩ : Addr) #[.int .i64 n7_0, .slice l7_1.a l7_1.len l7_1.cap, .slice l7_2.a l7_2.len l7_2.cap] w3 fun w4 =>
 zQd prog ds w4 fun w5 =>
 ∃ nR0_0, w5.cell? ((⟨r2, 0, none⟩ : Addr).add 0) = some (.int .i64 nR0_0) /\
 ∃ lR0_1 : SV, w5.cell? ((⟨r2, 0, none⟩ : Addr).add 1) = some (.slice lR0_1.a lR0_1.len lR0_1.cap) /\
 ∃ lR0_2 : SV, w5.cell? ((⟨r2, 0, none⟩ : Addr).add 2) = some (.slice lR0_2.a lR0_2.len lR0_2.cap) /\
 R (.returned (.agg #[.int .i64 nR0_0, .slice lR0_1.a lR0_1.len lR0_1.cap, .slice lR0_2.a lR0_2.len lR0_2.cap])) w5
theorem F27_p : Pl prog f27 [pS 0] F27_1 := fun R =>
 lf
theorem yWY (p0 : Option Addr) (w : World) (R : Rt) (h : F27_1 R p0 [] w) : Calls prog 27 #[.pointer p0] w R :=
 plC F27_p func27 h
def F80_1 (R : Rt) (p2 p3 : Option Addr) (ds : Ds) (w : World) : Prop :=
 zQi p3 fun a1 =>
 ∃ n29_0, w.cell? (a1.add 0) = some (.int .i64 n29_0) /\
 ∃ l29_1 : SV, w.cell? (a1.add 1) = some (.slice l29_1.a l29_1.len l29_1.cap) /\
 ∃ l29_2 : SV, w.cell? (a1.add 2) = some (.slice l29_2.a l29_2.len l29_2.cap) /\
 zQi p2 fun a2 =>
 stA prog 25 a2 #[.int .i64 n29_0, .slice l29_1.a l29_1.len l29_1.cap, .slice l29_2.a l29_2.len l29_2.cap] w fun w3 =>
 zQd prog ds w3 fun w4 =>
 zQi p2 fun a5 =>
 ∃ nR0_0, w4.cell? (a5.add 0) = some (.int .i64 nR0_0) /\
 ∃ lR0_1 : SV, w4.cell? (a5.add 1) = some (.slice lR0_1.a lR0_1.len lR0_1.cap) /\
 ∃ lR0_2 : SV, w4.cell? (a5.add 2) = some (.slice lR0_2.a lR0_2.len lR0_2.cap) /\
 R (.returned (.agg #[.int .i64 nR0_0, .slice lR0_1.a lR0_1.len lR0_1.cap, .slice lR0_2.a lR0_2.len lR0_2.cap])) w4
def F80_2 (R : Rt) (J1 : (Int) -> World -> Prop) (p1 p2 p3 : Option Addr) (n4 : Int) (ds : Ds) (w : World) : Prop :=
 zQi p1 fun a6 =>
 ∃ l13 : SV, w.cell? (a6.add 2) = some (.slice l13.a l13.len l13.cap) /\
 Br (decide (n4 < (l13.len : Int))) (
 dwE w fun w7 =>
 ∃ S1 : World -> Prop, S1 w7 /\
 zQi p3 fun a8 =>
 ∃ l19 : SV, (∀ w', S1 w' -> w'.cell? (a8.add 2) = some (.slice l19.a l19.len l19.cap)) /\
 zQi p1 fun a9 =>
 ∃ l21 : SV, (∀ w', S1 w' -> w'.cell? (a9.add 2) = some (.slice l21.a l21.len l21.cap)) /\
 ∃ a10, l21.a = some a10 /\ 0 <= n4 /\ n4 < (l21.len : Int) /\
 ∃ b24_0, (∀ w', S1 w' -> w'.cell? ((a10.add (n4.toNat * 2)).add 0) = some (.bool b24_0)) /\
 ∃ l24_1 : SV, (∀ w', S1 w' -> w'.cell? ((a10.add (n4.toNat * 2)).add 1) = some (.slice l24_1.a l24_1.len l24_1.cap)) /\
 Calls prog 89 #[.agg #[.bool b24_0, .slice l24_1.a l24_1.len l24_1.cap]] w7 fun e w11 =>
 ∃ b25_0 : Bool, ∃ l25_1 : SV, e = .returned (.agg #[.bool b25_0, .slice l25_1.a l25_1.len l25_1.cap]) /\
 S1 w11 /\
 alE (.cells #[.bool b25_0, .slice l25_1.a l25_1.len l25_1.cap] 77) w11 fun r26 w12 =>
 S1 w12 /\
 ∃ l27 : SV, ∃ w13, (Builtin.append_ #[23, 23] 23 #[.slice l19.a l19.len l19.cap, .slice (some ⟨r26, 0, none⟩) 1 1]).run prog w12 = .ok (.slice l27.a l27.len l27.cap) w13 /\
 zQi p3 fun a14 =>
 st1 (a14.add 2) (.slice l27.a l27.len l27.cap) w13 fun w15 =>
 J1 (IntKind.i64.wrap (n4 + 1)) w15) (
 F80_1 R p2 p3 ds w)
def yVv (R : Rt) (p1 p2 p3 : Option Addr) (n4 : Int) (ds : Ds) (w : World) : Prop :=
 zQD (fun (J1 : (Int) -> World -> Prop) (s : Int) (w : World) => F80_2 R J1 p1 p2 p3 s ds w) n4 w
def F80_5 (R : Rt) (n0_0 : Int) (l0_1 l0_2 : SV) (ds : Ds) (w : World) : Prop :=
 alE (.cells #[.int .i64 n0_0, .slice l0_1.a l0_1.len l0_1.cap, .slice l0_2.a l0_2.len l0_2.cap] 25) w fun r1 w16 =>
 alE (.cells #[.int .i64 0, .slice none 0 0, .slice none 0 0] 25) w16 fun r2 w17 =>
 dwE w17 fun w18 =>
 ∃ S2 : World -> Prop, S2 w18 /\
 ∃ n6, (∀ w', S2 w' -> w'.cell? (⟨r1, 0, none⟩ : Addr) = some (.int .i64 n6)) /\
 ∃ l8 : SV, (∀ w', S2 w' -> w'.cell? ((⟨r1, 0, none⟩ : Addr).add 1) = some (.slice l8.a l8.len l8.cap)) /\
 (
 ∃ l9 : SV, ∃ w19, (Builtin.append_ #[22, 22] 22 #[.slice none 0 0, .slice l8.a l8.len l8.cap]).run prog w18 = .ok (.slice l9.a l9.len l9.cap) w19 /\
 S2 w19 /\
 alE (.cells #[.int .i64 0, .slice none 0 0, .slice none 0 0] 25) w19 fun r3 w20 =>
 S2 w20 /\
 stA prog 25 (⟨r3, 0, none⟩ : Addr) #[.int .i64 n6, .slice l9.a l9.len l9.cap, .slice none 0 0] w20 fun w21 =>
 yVv R (some (⟨r1, 0, none⟩ : Addr)) (some (⟨r2, 0, none⟩ : Addr)) (some (⟨r3, 0, none⟩ : Addr)) 0 ds w21) /\ (
 alE (.cells #[.int .i64 0, .slice none 0 0, .slice none 0 0] 25) w18 fun r3 w22 =>
 S2 w22 /\
 ∃ l9 : SV, ∃ w23, (Builtin.append_ #[22, 22] 22 #[.slice none 0 0, .slice l8.a l8.len l8.cap]).run prog w22 = .ok (.slice l9.a l9.len l9.cap) w23 /\
 S2 w23 /\
 stA prog 25 (⟨r3, 0, none⟩ : Addr) #[.int .i64 n6, .slice l9.a l9.len l9.cap, .slice none 0 0] w23 fun w24 =>
 yVv R (some (⟨r1, 0, none⟩ : Addr)) (some (⟨r2, 0, none⟩ : Addr)) (some (⟨r3, 0, none⟩ : Addr)) 0 ds w24)
theorem F80_p : Pl prog f80 [aS 0 [.int .i64, .slice, .slice]] F80_5 := fun R =>
 pc 3 (zQx [pS 1, pS 2, pS 3, iS 4] (yVv R) (bk 0 (zQx [pS 2, pS 3] (F80_1 R) lf) (lp [iS 4] [pS 1, pS 2, pS 3, iS 4] (F80_2 R) zXz fun J1 => lf)))
theorem yKP (n0_0 : Int) (l0_1 l0_2 : SV) (w : World) (R : Rt) (h : F80_5 R n0_0 l0_1 l0_2 [] w) : Calls prog 80 #[.agg #[.int .i64 n0_0, .slice l0_1.a l0_1.len l0_1.cap, .slice l0_2.a l0_2.len l0_2.cap]] w R :=
 plC F80_p func80 h
def F89_1 (R : Rt) (b0_0 : Bool) (l0_1 : SV) (ds : Ds) (w : World) : Prop :=
 alE (.cells #[.bool b0_0, .slice l0_1.a l0_1.len l0_1.cap] 77) w fun r1 w1 =>
 alE (.cells #[.bool false, .slice none 0 0] 77) w1 fun r2 w2 =>
 dwE w2 fun w3 =>
 ∃ S1 : World -> Prop, S1 w3 /\
 ∃ b4, (∀ w', S1 w' -> w'.cell? (⟨r1, 0, none⟩ : Addr) = some (.bool b4)) /\
 ∃ l6 : SV, (∀ w', S1 w' -> w'.cell? ((⟨r1, 0, none⟩ : Addr).add 1) = some (.slice l6.a l6.len l6.cap)) /\
 ∃ l7 : SV, ∃ w4, (Builtin.append_ #[75, 75] 75 #[.slice none 0 0, .slice l6.a l6.len l6.cap]).run prog w3 = .ok (.slice l7.a l7.len l7.cap) w4 /\
 S1 w4 /\
 stA prog 77 (⟨r2, 0, none⟩ : Addr) #[.bool b4, .slice l7.a l7.len l7.cap] w4 fun w5 =>
 zQd prog ds w5 fun w6 =>
 ∃ bR0_0, w6.cell? ((⟨r2, 0, none⟩ : Addr).add 0) = some (.bool bR0_0) /\
 ∃ lR0_1 : SV, w6.cell? ((⟨r2, 0, none⟩ : Addr).add 1) = some (.slice lR0_1.a lR0_1.len lR0_1.cap) /\
 R (.returned (.agg #[.bool bR0_0, .slice lR0_1.a lR0_1.len lR0_1.cap])) w6
theorem F89_p : Pl prog f89 [aS 0 [.bool, .slice]] F89_1 := fun R =>
 lf
theorem yJ7 (b0_0 : Bool) (l0_1 : SV) (w : World) (R : Rt) (h : F89_1 R b0_0 l0_1 [] w) : Calls prog 89 #[.agg #[.bool b0_0, .slice l0_1.a l0_1.len l0_1.cap]] w R :=
 plC F89_p func89 h
def xQz (R : Rt) (n0 : Int) (ds : Ds) (w : World) : Prop :=
 Br (decide (n0 >= 0)) (
 zQd prog ds w fun w1 =>
 R (.returned (.bool (decide (n0 < 4)))) w1) (
 zQd prog ds w fun w2 =>
 R (.returned (.bool false)) w2)
theorem F118_p : Pl prog f118 [iS 0] xQz := fun R =>
 lf
theorem yZP (n0 : Int) (w : World) (R : Rt) (h : xQz R n0 [] w) : Calls prog 118 #[.int .i64 n0] w R :=
 plC F118_p func118 h
def xQP (R : Rt) (p0 : Option Addr) (n1 : Int) (ds : Ds) (w : World) : Prop :=
 dwE w fun w1 =>
 zQi p0 fun a2 =>
 0 <= n1 /\ n1 < (4 : Int) /\
 ∃ l11 : SV, w1.cell? (((a2.add 3).add (n1.toNat * 4)).add 2) = some (.slice l11.a l11.len l11.cap) /\
 zQi p0 fun a3 =>
 0 <= n1 /\ n1 < (4 : Int) /\
 ∃ l19 : SV, w1.cell? (((a3.add 3).add (n1.toNat * 4)).add 3) = some (.slice l19.a l19.len l19.cap) /\
 zQd prog ds w1 fun w4 =>
 R (.returned (.bool ((IntKind.i64.wrap ((l11.len : Int) + (l19.len : Int))) == 0))) w4
theorem F119_p : Pl prog f119 [pS 0, iS 1] xQP := fun R =>
 lf
theorem yXS (p0 : Option Addr) (n1 : Int) (w : World) (R : Rt) (h : xQP R p0 n1 [] w) : Calls prog 119 #[.pointer p0, .int .i64 n1] w R :=
 plC F119_p func119 h
def xXv (R : Rt) (p0 : Option Addr) (n1 n2 : Int) (ds : Ds) (w : World) : Prop :=
 Br (decide (n2 >= 1)) (
 zQi p0 fun a1 =>
 ∃ l15 : SV, w.cell? (a1.add 2) = some (.slice l15.a l15.len l15.cap) /\
 Br (decide (n2 <= (l15.len : Int))) (
 zQd prog ds w fun w2 =>
 R (.returned (.bool true)) w2) (
 Br (decide (n2 < 0)) (
 zQi p0 fun a3 =>
 0 <= n1 /\ n1 < (4 : Int) /\
 ∃ l30 : SV, w.cell? (((a3.add 3).add (n1.toNat * 4)).add 3) = some (.slice l30.a l30.len l30.cap) /\
 zQd prog ds w fun w4 =>
 R (.returned (.bool (decide (n2 >= (IntKind.i64.wrap (0 - (l30.len : Int))))))) w4) (
 zQd prog ds w fun w5 =>
 R (.returned (.bool false)) w5))) (
 Br (decide (n2 < 0)) (
 zQi p0 fun a6 =>
 0 <= n1 /\ n1 < (4 : Int) /\
 ∃ l30 : SV, w.cell? (((a6.add 3).add (n1.toNat * 4)).add 3) = some (.slice l30.a l30.len l30.cap) /\
 zQd prog ds w fun w7 =>
 R (.returned (.bool (decide (n2 >= (IntKind.i64.wrap (0 - (l30.len : Int))))))) w7) (
 zQd prog ds w fun w8 =>
 R (.returned (.bool false)) w8))
theorem F120_p : Pl prog f120 [pS 0, iS 1, iS 2] xXv := fun R =>
 lf
theorem yZU (p0 : Option Addr) (n1 n2 : Int) (w : World) (R : Rt) (h : xXv R p0 n1 n2 [] w) : Calls prog 120 #[.pointer p0, .int .i64 n1, .int .i64 n2] w R :=
 plC F120_p func120 h
def xXm (R : Rt) (p0 : Option Addr) (n1 : Int) (ds : Ds) (w : World) : Prop :=
 zQi p0 fun a1 =>
 0 <= n1 /\ n1 < (4 : Int) /\
 ∃ n11, w.cell? ((a1.add 3).add (n1.toNat * 4)) = some (.int .i64 n11) /\
 Br (n11 == 1) (
 zQd prog ds w fun w2 =>
 R (.returned (.bool true)) w2) (
 zQi p0 fun a3 =>
 0 <= n1 /\ n1 < (4 : Int) /\
 ∃ n20, w.cell? ((a3.add 3).add (n1.toNat * 4)) = some (.int .i64 n20) /\
 zQd prog ds w fun w4 =>
 R (.returned (.bool (n20 == 2))) w4)
theorem F121_p : Pl prog f121 [pS 0, iS 1] xXm := fun R =>
 lf
theorem yXO (p0 : Option Addr) (n1 : Int) (w : World) (R : Rt) (h : xXm R p0 n1 [] w) : Calls prog 121 #[.pointer p0, .int .i64 n1] w R :=
 plC F121_p func121 h
def zWy (R : Rt) (p0 p6 : Option Addr) (n8 : Int) (b115 : Bool) (ds : Ds) (w : World) : Prop :=
 Br b115 (
 dwE w fun w1 =>
 ∃ S1 : World -> Prop, S1 w1 /\
 zQi p0 fun a2 =>
 ∃ l120 : SV, (∀ w', S1 w' -> w'.cell? (a2.add 2) = some (.slice l120.a l120.len l120.cap)) /\
 zQi p6 fun a3 =>
 ∃ n124, (∀ w', S1 w' -> w'.cell? (a3.add 1) = some (.int .i64 n124)) /\
 ∃ a4, l120.a = some a4 /\ 0 <= (IntKind.i64.wrap (n124 - 1)) /\ (IntKind.i64.wrap (n124 - 1)) < (l120.len : Int) /\
 ∃ b127_0, (∀ w', S1 w' -> w'.cell? ((a4.add ((IntKind.i64.wrap (n124 - 1)).toNat * 2)).add 0) = some (.bool b127_0)) /\
 ∃ l127_1 : SV, (∀ w', S1 w' -> w'.cell? ((a4.add ((IntKind.i64.wrap (n124 - 1)).toNat * 2)).add 1) = some (.slice l127_1.a l127_1.len l127_1.cap)) /\
 alE (.cells #[.bool false, .slice none 0 0] 77) w1 fun r9 w5 =>
 S1 w5 /\
 stA prog 77 (⟨r9, 0, none⟩ : Addr) #[.bool b127_0, .slice l127_1.a l127_1.len l127_1.cap] w5 fun w6 =>
 dwE w6 fun w7 =>
 ∃ S2 : World -> Prop, S2 w7 /\
 zQi p6 fun a8 =>
 ∃ l132 : SV, (∀ w', S2 w' -> w'.cell? (a8.add 2) = some (.slice l132.a l132.len l132.cap)) /\
 zQi p6 fun a9 =>
 ∃ n136, (∀ w', S2 w' -> w'.cell? (a9.add 1) = some (.int .i64 n136)) /\
 ∃ b137_0, (∀ w', S2 w' -> w'.cell? ((⟨r9, 0, none⟩ : Addr).add 0) = some (.bool b137_0)) /\
 ∃ l137_1 : SV, (∀ w', S2 w' -> w'.cell? ((⟨r9, 0, none⟩ : Addr).add 1) = some (.slice l137_1.a l137_1.len l137_1.cap)) /\
 ∃ b139_0, (∀ w', S2 w' -> w'.cell? ((⟨r9, 0, none⟩ : Addr).add 0) = some (.bool b139_0)) /\
 ∃ l139_1 : SV, (∀ w', S2 w' -> w'.cell? ((⟨r9, 0, none⟩ : Addr).add 1) = some (.slice l139_1.a l139_1.len l139_1.cap)) /\
 Calls prog 89 #[.agg #[.bool b137_0, .slice l137_1.a l137_1.len l137_1.cap]] w7 fun e w10 =>
 ∃ b138_0 : Bool, ∃ l138_1 : SV, e = .returned (.agg #[.bool b138_0, .slice l138_1.a l138_1.len l138_1.cap]) /\
 S2 w10 /\
 Calls prog 89 #[.agg #[.bool b139_0, .slice l139_1.a l139_1.len l139_1.cap]] w10 fun e w11 =>
 ∃ b140_0 : Bool, ∃ l140_1 : SV, e = .returned (.agg #[.bool b140_0, .slice l140_1.a l140_1.len l140_1.cap]) /\
 S2 w11 /\
 alE (.cells #[.int .i64 n136, .bool b138_0, .slice l138_1.a l138_1.len l138_1.cap, .bool b140_0, .slice l140_1.a l140_1.len l140_1.cap] 136) w11 fun r142 w12 =>
 S2 w12 /\
 ∃ l143 : SV, ∃ w13, (Builtin.append_ #[120, 120] 120 #[.slice l132.a l132.len l132.cap, .slice (some ⟨r142, 0, none⟩) 1 1]).run prog w12 = .ok (.slice l143.a l143.len l143.cap) w13 /\
 zQi p6 fun a14 =>
 st1 (a14.add 2) (.slice l143.a l143.len l143.cap) w13 fun w15 =>
 zQi p6 fun a16 =>
 ∃ l149 : SV, w15.cell? (a16.add 2) = some (.slice l149.a l149.len l149.cap) /\
 zQi p6 fun a17 =>
 ∃ l155 : SV, w15.cell? (a17.add 2) = some (.slice l155.a l155.len l155.cap) /\
 ∃ a18, l155.a = some a18 /\ 0 <= (IntKind.i64.wrap ((l149.len : Int) - 1)) /\ (IntKind.i64.wrap ((l149.len : Int) - 1)) < (l155.len : Int) /\
 zQd prog ds w15 fun w19 =>
 R (.returned (.tuple #[.pointer (some ((a18.add ((IntKind.i64.wrap ((l149.len : Int) - 1)).toNat * 5)).add 3)), .int .i64 0])) w19) (
 zQi p6 fun a20 =>
 ∃ l155 : SV, w.cell? (a20.add 2) = some (.slice l155.a l155.len l155.cap) /\
 ∃ a21, l155.a = some a21 /\ 0 <= n8 /\ n8 < (l155.len : Int) /\
 zQd prog ds w fun w22 =>
 R (.returned (.tuple #[.pointer (some ((a21.add (n8.toNat * 5)).add 3)), .int .i64 0])) w22)
def zYg (R : Rt) (p0 : Option Addr) (n1 : Int) (p6 : Option Addr) (ds : Ds) (w : World) : Prop :=
 zQi p6 fun a23 =>
 ∃ n72, w.cell? a23 = some (.int .i64 n72) /\
 Br (n72 == 0) (
 dwE w fun w24 =>
 zQi p0 fun a25 =>
 ∃ l78 : SV, w24.cell? (a25.add 2) = some (.slice l78.a l78.len l78.cap) /\
 zQi p6 fun a26 =>
 ∃ n82, w24.cell? (a26.add 1) = some (.int .i64 n82) /\
 ∃ a27, l78.a = some a27 /\ 0 <= (IntKind.i64.wrap (n82 - 1)) /\ (IntKind.i64.wrap (n82 - 1)) < (l78.len : Int) /\
 zQd prog ds w24 fun w28 =>
 R (.returned (.tuple #[.pointer (some (a27.add ((IntKind.i64.wrap (n82 - 1)).toNat * 2))), .int .i64 0])) w28) (
 zQi p6 fun a29 =>
 ∃ n88, w.cell? a29 = some (.int .i64 n88) /\
 Br (n88 == 1) (
 dwE w fun w30 =>
 zQi p0 fun a31 =>
 ∃ m100, w30.cell? (a31.add 19) = some (.map m100) /\
 zQi p6 fun a32 =>
 ∃ n104, w30.cell? (a32.add 1) = some (.int .i64 n104) /\
 doE prog (Instr.mapUpdate 80 (.map m100) (.int .i64 n104) (.int .i64 (IntKind.i64.wrap (n1 + 1)))) w30 fun w33 =>
 zQi p6 fun a34 =>
 ∃ n112, w33.cell? (a34.add 1) = some (.int .i64 n112) /\
 Calls prog 130 #[.pointer p0, .int .i64 n1, .int .i64 n112] w33 fun e w35 =>
 ∃ n113 : Int, e = .returned (.int .i64 n113) /\
 zWy R p0 p6 n113 (decide (n113 < 0)) ds w35) (
 zQi p6 fun a36 =>
 ∃ n94, w.cell? a36 = some (.int .i64 n94) /\
 Br (n94 == 3) (
 dwE w fun w37 =>
 zQi p0 fun a38 =>
 ∃ m100, w37.cell? (a38.add 19) = some (.map m100) /\
 zQi p6 fun a39 =>
 ∃ n104, w37.cell? (a39.add 1) = some (.int .i64 n104) /\
 doE prog (Instr.mapUpdate 80 (.map m100) (.int .i64 n104) (.int .i64 (IntKind.i64.wrap (n1 + 1)))) w37 fun w40 =>
 zQi p6 fun a41 =>
 ∃ n112, w40.cell? (a41.add 1) = some (.int .i64 n112) /\
 Calls prog 130 #[.pointer p0, .int .i64 n1, .int .i64 n112] w40 fun e w42 =>
 ∃ n113 : Int, e = .returned (.int .i64 n113) /\
 zWy R p0 p6 n113 (decide (n113 < 0)) ds w42) (
 zQi p6 fun a43 =>
 ∃ n112, w.cell? (a43.add 1) = some (.int .i64 n112) /\
 Calls prog 130 #[.pointer p0, .int .i64 n1, .int .i64 n112] w fun e w44 =>
 ∃ n113 : Int, e = .returned (.int .i64 n113) /\
 zWy R p0 p6 n113 (decide (n113 < 0)) ds w44)))
def xQG (R : Rt) (p0 : Option Addr) (n1 : Int) (ds : Ds) (w : World) : Prop :=
 zQi p0 fun a45 =>
 0 <= n1 /\ n1 < (4 : Int) /\
 ∃ n18, w.cell? (((a45.add 3).add (n1.toNat * 4)).add 1) = some (.int .i64 n18) /\
 Br (decide (n18 < 0)) (
 dwE w fun w46 =>
 ∃ l23 : SV, w46.cell? (((a45.add 3).add (n1.toNat * 4)).add 3) = some (.slice l23.a l23.len l23.cap) /\
 ∃ n27, w46.cell? (((a45.add 3).add (n1.toNat * 4)).add 1) = some (.int .i64 n27) /\
 ∃ a47, l23.a = some a47 /\ 0 <= (IntKind.i64.wrap ((IntKind.i64.wrap (0 - n27)) - 1)) /\ (IntKind.i64.wrap ((IntKind.i64.wrap (0 - n27)) - 1)) < (l23.len : Int) /\
 zQd prog ds w46 fun w48 =>
 R (.returned (.tuple #[.pointer (some (a47.add ((IntKind.i64.wrap ((IntKind.i64.wrap (0 - n27)) - 1)).toNat * 2))), .int .i64 0])) w48) (
 dwE w fun w49 =>
 zQi p0 fun a50 =>
 ∃ m34, w49.cell? (a50.add 19) = some (.map m34) /\
 ∃ n38, w49.cell? (((a45.add 3).add (n1.toNat * 4)).add 1) = some (.int .i64 n38) /\
 ∃ n39 : Int, (Instr.lookup 80 (.map m34) (.int .i64 n38) false).run prog w49 = .ok (.int .i64 n39) w49 /\
 Br (n39 != 0) (
 Br (n39 != (IntKind.i64.wrap (n1 + 1))) (
 ∃ n52, w49.cell? ((a45.add 3).add (n1.toNat * 4)) = some (.int .i64 n52) /\
 Br (n52 == 0) (
 zQd prog ds w49 fun w51 =>
 R (.returned (.tuple #[.pointer none, .int .i64 12])) w51) (
 ∃ n58, w49.cell? ((a45.add 3).add (n1.toNat * 4)) = some (.int .i64 n58) /\
 Br (n58 == 1) (
 zQd prog ds w49 fun w52 =>
 R (.returned (.tuple #[.pointer none, .int .i64 12])) w52) (
 ∃ n65, w49.cell? ((a45.add 3).add (n1.toNat * 4)) = some (.int .i64 n65) /\
 Br (n65 == 3) (
 zQd prog ds w49 fun w53 =>
 R (.returned (.tuple #[.pointer none, .int .i64 12])) w53) (
 zYg R p0 n1 (some ((a45.add 3).add (n1.toNat * 4))) ds w49)))) (
 zYg R p0 n1 (some ((a45.add 3).add (n1.toNat * 4))) ds w49)) (
 zYg R p0 n1 (some ((a45.add 3).add (n1.toNat * 4))) ds w49))
theorem F123_p : Pl prog f123 [pS 0, iS 1] xQG := fun R =>
 pc 7 (zQx [pS 0, iS 1, pS 6] (zYg R) (pc 6 (zQx [pS 0, pS 6, iS 8, bS 115] (zWy R) lf)))
theorem yZs (p0 : Option Addr) (n1 : Int) (w : World) (R : Rt) (h : xQG R p0 n1 [] w) : Calls prog 123 #[.pointer p0, .int .i64 n1] w R :=
 plC F123_p func123 h
def yYG (R : Rt) (n3 : Int) (ds : Ds) (w : World) : Prop :=
 zQd prog ds w fun w1 =>
 R (.returned (.int .i64 n3)) w1
def xXt (R : Rt) (J1 : (Int × Int) -> World -> Prop) (p0 : Option Addr) (n3 n4 : Int) (ds : Ds) (w : World) : Prop :=
 Br (decide (n4 < 4)) (
 zQi p0 fun a2 =>
 0 <= n4 /\ n4 < (4 : Int) /\
 ∃ l22 : SV, w.cell? (((a2.add 3).add (n4.toNat * 4)).add 3) = some (.slice l22.a l22.len l22.cap) /\
 J1 ((IntKind.i64.wrap (n3 + (l22.len : Int))), (IntKind.i64.wrap (n4 + 1))) w) (
 yYG R n3 ds w)
def xQ2 (R : Rt) (p0 : Option Addr) (n3 n4 : Int) (ds : Ds) (w : World) : Prop :=
 zQD (fun (J1 : (Int × Int) -> World -> Prop) (s : Int × Int) (w : World) => xXt R J1 p0 s.1 s.2 ds w) (n3, n4) w
def xQa (R : Rt) (p0 : Option Addr) (ds : Ds) (w : World) : Prop :=
 zQi p0 fun a3 =>
 ∃ l9 : SV, w.cell? (a3.add 2) = some (.slice l9.a l9.len l9.cap) /\
 xQ2 R p0 (l9.len : Int) 0 ds w
theorem F124_p : Pl prog f124 [pS 0] xQa := fun R =>
 pc 3 (zQx [pS 0, iS 3, iS 4] (xQ2 R) (bk 0 (zQx [iS 3] (yYG R) lf) (lp [iS 3, iS 4] [pS 0, iS 3, iS 4] (xXt R) zXz fun J1 => lf)))
theorem yXH (p0 : Option Addr) (w : World) (R : Rt) (h : xQa R p0 [] w) : Calls prog 124 #[.pointer p0] w R :=
 plC F124_p func124 h
def yYg (R : Rt) (p0 : Option Addr) (n1 n2 : Int) (s3 : ByteArray) (b4 : Bool) (ds : Ds) (w : World) : Prop :=
 alE (.cells #[.int .i64 0, .int .i64 0, .string (⟨#[]⟩ : ByteArray)] 28) w fun r10 w1 =>
 Calls prog 118 #[.int .i64 n1] w1 fun e w2 =>
 ∃ b15 : Bool, e = .returned (.bool b15) /\
 Br (!b15) (
 stA prog 28 (⟨r10, 0, none⟩ : Addr) #[.int .i64 0, .int .i64 0, .string (⟨#[]⟩ : ByteArray)] w2 fun w3 =>
 zQd prog ds w3 fun w4 =>
 ∃ nR0_0, w4.cell? ((⟨r10, 0, none⟩ : Addr).add 0) = some (.int .i64 nR0_0) /\
 ∃ nR0_1, w4.cell? ((⟨r10, 0, none⟩ : Addr).add 1) = some (.int .i64 nR0_1) /\
 ∃ sR0_2, w4.cell? ((⟨r10, 0, none⟩ : Addr).add 2) = some (.string sR0_2) /\
 R (.returned (.tuple #[.agg #[.int .i64 nR0_0, .int .i64 nR0_1, .string sR0_2], .int .i64 1])) w4) (
 Calls prog 120 #[.pointer p0, .int .i64 n1, .int .i64 n2] w2 fun e w5 =>
 ∃ b21 : Bool, e = .returned (.bool b21) /\
 Br (!b21) (
 stA prog 28 (⟨r10, 0, none⟩ : Addr) #[.int .i64 0, .int .i64 0, .string (⟨#[]⟩ : ByteArray)] w5 fun w6 =>
 zQd prog ds w6 fun w7 =>
 ∃ nR0_0, w7.cell? ((⟨r10, 0, none⟩ : Addr).add 0) = some (.int .i64 nR0_0) /\
 ∃ nR0_1, w7.cell? ((⟨r10, 0, none⟩ : Addr).add 1) = some (.int .i64 nR0_1) /\
 ∃ sR0_2, w7.cell? ((⟨r10, 0, none⟩ : Addr).add 2) = some (.string sR0_2) /\
 R (.returned (.tuple #[.agg #[.int .i64 nR0_0, .int .i64 nR0_1, .string sR0_2], .int .i64 4])) w7) (
 zQi p0 fun a8 =>
 ∃ l29 : SV, w5.cell? (a8.add 1) = some (.slice l29.a l29.len l29.cap) /\
 Calls prog 122 #[.slice l29.a l29.len l29.cap, .string s3] w5 fun e w9 =>
 ∃ n31_0 : Int, ∃ b31_1 : Bool, e = .returned (.tuple #[.int .i64 n31_0, .bool b31_1]) /\
 Br (!b31_1) (
 stA prog 28 (⟨r10, 0, none⟩ : Addr) #[.int .i64 0, .int .i64 0, .string (⟨#[]⟩ : ByteArray)] w9 fun w10 =>
 zQd prog ds w10 fun w11 =>
 ∃ nR0_0, w11.cell? ((⟨r10, 0, none⟩ : Addr).add 0) = some (.int .i64 nR0_0) /\
 ∃ nR0_1, w11.cell? ((⟨r10, 0, none⟩ : Addr).add 1) = some (.int .i64 nR0_1) /\
 ∃ sR0_2, w11.cell? ((⟨r10, 0, none⟩ : Addr).add 2) = some (.string sR0_2) /\
 R (.returned (.tuple #[.agg #[.int .i64 nR0_0, .int .i64 nR0_1, .string sR0_2], .int .i64 4])) w11) (
 Calls prog 164 #[.pointer p0, .int .i64 n1, .int .i64 n2, .bool b4] w9 fun e w12 =>
 ∃ b41_0 : Bool, ∃ l41_1 : SV, e = .returned (.agg #[.bool b41_0, .slice l41_1.a l41_1.len l41_1.cap]) /\
 ∃ a13, l41_1.a = some a13 /\ 0 <= n31_0 /\ n31_0 < (l41_1.len : Int) /\
 ∃ n45_0, w12.cell? ((a13.add (n31_0.toNat * 3)).add 0) = some (.int .i64 n45_0) /\
 ∃ n45_1, w12.cell? ((a13.add (n31_0.toNat * 3)).add 1) = some (.int .i64 n45_1) /\
 ∃ s45_2, w12.cell? ((a13.add (n31_0.toNat * 3)).add 2) = some (.string s45_2) /\
 stA prog 28 (⟨r10, 0, none⟩ : Addr) #[.int .i64 n45_0, .int .i64 n45_1, .string s45_2] w12 fun w14 =>
 zQd prog ds w14 fun w15 =>
 ∃ nR0_0, w15.cell? ((⟨r10, 0, none⟩ : Addr).add 0) = some (.int .i64 nR0_0) /\
 ∃ nR0_1, w15.cell? ((⟨r10, 0, none⟩ : Addr).add 1) = some (.int .i64 nR0_1) /\
 ∃ sR0_2, w15.cell? ((⟨r10, 0, none⟩ : Addr).add 2) = some (.string sR0_2) /\
 R (.returned (.tuple #[.agg #[.int .i64 nR0_0, .int .i64 nR0_1, .string sR0_2], .int .i64 0])) w15)))
theorem F126_p : Pl prog f126 [pS 0, iS 1, iS 2, sS 3, bS 4] yYg := fun R =>
 lf
theorem yZR (p0 : Option Addr) (n1 n2 : Int) (s3 : ByteArray) (b4 : Bool) (w : World) (R : Rt) (h : yYg R p0 n1 n2 s3 b4 [] w) : Calls prog 126 #[.pointer p0, .int .i64 n1, .int .i64 n2, .string s3, .bool b4] w R :=
 plC F126_p func126 h
def yYp (R : Rt) (J1 : (Int) -> World -> Prop) (p0 : Option Addr) (n1 n4 : Int) (ds : Ds) (w : World) : Prop :=
 zQi p0 fun a1 =>
 ∃ l22 : SV, w.cell? (a1.add 2) = some (.slice l22.a l22.len l22.cap) /\
 Br (decide (n4 <= (l22.len : Int))) (
 zQi p0 fun a2 =>
 ∃ m30, w.cell? (a2.add 19) = some (.map m30) /\
 ∃ n32 : Int, ∃ w3, (Instr.lookup 80 (.map m30) (.int .i64 n4) false).run prog w = .ok (.int .i64 n32) w3 /\
 Br (n32 == (IntKind.i64.wrap (n1 + 1))) (
 zQi p0 fun a4 =>
 ∃ m39, w3.cell? (a4.add 19) = some (.map m39) /\
 ∃ w5, (Builtin.delete_ #[80, 3] 0 #[.map m39, .int .i64 n4]).run prog w3 = .ok (.tuple #[]) w5 /\
 J1 (IntKind.i64.wrap (n4 + 1)) w5) (
 J1 (IntKind.i64.wrap (n4 + 1)) w3)) (
 zQd prog ds w fun w6 =>
 R (.returned (.tuple #[])) w6)
def xXr (R : Rt) (p0 : Option Addr) (n1 n4 : Int) (ds : Ds) (w : World) : Prop :=
 zQD (fun (J1 : (Int) -> World -> Prop) (s : Int) (w : World) => yYp R J1 p0 n1 s ds w) n4 w
def xQQ (R : Rt) (p0 : Option Addr) (n1 : Int) (ds : Ds) (w : World) : Prop :=
 dwE w fun w7 =>
 zQi p0 fun a8 =>
 0 <= n1 /\ n1 < (4 : Int) /\
 zQi p0 fun a9 =>
 st1 (((a8.add 3).add (n1.toNat * 4)).add 2) (.slice none 0 0) w7 fun w10 =>
 0 <= n1 /\ n1 < (4 : Int) /\
 st1 (((a9.add 3).add (n1.toNat * 4)).add 3) (.slice none 0 0) w10 fun w11 =>
 xXr R p0 n1 1 ds w11
theorem F127_p : Pl prog f127 [pS 0, iS 1] xQQ := fun R =>
 pc 2 (zQx [pS 0, iS 1, iS 4] (xXr R) (bk 0 zXz (lp [iS 4] [pS 0, iS 1, iS 4] (yYp R) zXz fun J1 => lf)))
theorem yZr (p0 : Option Addr) (n1 : Int) (w : World) (R : Rt) (h : xQQ R p0 n1 [] w) : Calls prog 127 #[.pointer p0, .int .i64 n1] w R :=
 plC F127_p func127 h
def yYh (R : Rt) (ds : Ds) (w : World) : Prop :=
 zQd prog ds w fun w1 =>
 R (.returned (.int .i64 (-1))) w1
def xXy (R : Rt) (J1 : (Int) -> World -> Prop) (p0 : Option Addr) (n1 n2 n7 : Int) (ds : Ds) (w : World) : Prop :=
 zQi p0 fun a2 =>
 0 <= n1 /\ n1 < (4 : Int) /\
 ∃ l15 : SV, w.cell? (((a2.add 3).add (n1.toNat * 4)).add 2) = some (.slice l15.a l15.len l15.cap) /\
 Br (decide (n7 < (l15.len : Int))) (
 zQi p0 fun a3 =>
 0 <= n1 /\ n1 < (4 : Int) /\
 ∃ l26 : SV, w.cell? (((a3.add 3).add (n1.toNat * 4)).add 2) = some (.slice l26.a l26.len l26.cap) /\
 ∃ a4, l26.a = some a4 /\ 0 <= n7 /\ n7 < (l26.len : Int) /\
 ∃ n30, w.cell? (a4.add (n7.toNat * 5)) = some (.int .i64 n30) /\
 Br (n30 == n2) (
 zQd prog ds w fun w5 =>
 R (.returned (.int .i64 n7)) w5) (
 J1 (IntKind.i64.wrap (n7 + 1)) w)) (
 yYh R ds w)
def xXw (R : Rt) (p0 : Option Addr) (n1 n2 n7 : Int) (ds : Ds) (w : World) : Prop :=
 zQD (fun (J1 : (Int) -> World -> Prop) (s : Int) (w : World) => xXy R J1 p0 n1 n2 s ds w) n7 w
def xQH (R : Rt) (p0 : Option Addr) (n1 n2 : Int) (ds : Ds) (w : World) : Prop :=
 xXw R p0 n1 n2 0 ds w
theorem F130_p : Pl prog f130 [pS 0, iS 1, iS 2] xQH := fun R =>
 pc 2 (zQx [pS 0, iS 1, iS 2, iS 7] (xXw R) (bk 0 (zQx [] (yYh R) lf) (lp [iS 7] [pS 0, iS 1, iS 2, iS 7] (xXy R) zXz fun J1 => lf)))
theorem yZH (p0 : Option Addr) (n1 n2 : Int) (w : World) (R : Rt) (h : xQH R p0 n1 n2 [] w) : Calls prog 130 #[.pointer p0, .int .i64 n1, .int .i64 n2] w R :=
 plC F130_p func130 h
def xQM (R : Rt) (ds : Ds) (w : World) : Prop :=
 zQd prog ds w fun w1 =>
 R (.returned (.bool false)) w1
def zX1 (R : Rt) (J1 : (Int) -> World -> Prop) (p3 p5 : Option Addr) (n6 : Int) (ds : Ds) (w : World) : Prop :=
 J1 (IntKind.i64.wrap (n6 + 1)) w
def xX0 (R : Rt) (J1 : (Int) -> World -> Prop) (p3 p5 : Option Addr) (n6 : Int) (ds : Ds) (w : World) : Prop :=
 dwE w fun w2 =>
 ∃ S1 : World -> Prop, S1 w2 /\
 zQi p3 fun a3 =>
 ∃ l52 : SV, (∀ w', S1 w' -> w'.cell? ((a3.add 1).add 1) = some (.slice l52.a l52.len l52.cap)) /\
 ∃ a4, l52.a = some a4 /\ 0 <= n6 /\ n6 < (l52.len : Int) /\
 ∃ n55_0, (∀ w', S1 w' -> w'.cell? ((a4.add (n6.toNat * 3)).add 0) = some (.int .i64 n55_0)) /\
 ∃ n55_1, (∀ w', S1 w' -> w'.cell? ((a4.add (n6.toNat * 3)).add 1) = some (.int .i64 n55_1)) /\
 ∃ s55_2, (∀ w', S1 w' -> w'.cell? ((a4.add (n6.toNat * 3)).add 2) = some (.string s55_2)) /\
 zQi p3 fun a5 =>
 ∃ l58 : SV, (∀ w', S1 w' -> w'.cell? ((a5.add 3).add 1) = some (.slice l58.a l58.len l58.cap)) /\
 ∃ a6, l58.a = some a6 /\ 0 <= n6 /\ n6 < (l58.len : Int) /\
 ∃ n61_0, (∀ w', S1 w' -> w'.cell? ((a6.add (n6.toNat * 3)).add 0) = some (.int .i64 n61_0)) /\
 ∃ n61_1, (∀ w', S1 w' -> w'.cell? ((a6.add (n6.toNat * 3)).add 1) = some (.int .i64 n61_1)) /\
 ∃ s61_2, (∀ w', S1 w' -> w'.cell? ((a6.add (n6.toNat * 3)).add 2) = some (.string s61_2)) /\
 zQi p5 fun a7 =>
 ∃ l63 : SV, (∀ w', S1 w' -> w'.cell? (a7.add 1) = some (.slice l63.a l63.len l63.cap)) /\
 ∃ a8, l63.a = some a8 /\ 0 <= n6 /\ n6 < (l63.len : Int) /\
 ∃ n66_0, (∀ w', S1 w' -> w'.cell? ((a8.add (n6.toNat * 3)).add 0) = some (.int .i64 n66_0)) /\
 ∃ n66_1, (∀ w', S1 w' -> w'.cell? ((a8.add (n6.toNat * 3)).add 1) = some (.int .i64 n66_1)) /\
 ∃ s66_2, (∀ w', S1 w' -> w'.cell? ((a8.add (n6.toNat * 3)).add 2) = some (.string s66_2)) /\
 (
 alE (.cells #[.int .i64 0, .int .i64 0, .string (⟨#[]⟩ : ByteArray)] 28) w2 fun r7 w9 =>
 S1 w9 /\
 (
 alE (.cells #[.int .i64 0, .int .i64 0, .string (⟨#[]⟩ : ByteArray)] 28) w9 fun r8 w10 =>
 S1 w10 /\
 alE (.cells #[.int .i64 0, .int .i64 0, .string (⟨#[]⟩ : ByteArray)] 28) w10 fun r9 w11 =>
 S1 w11 /\
 stA prog 28 (⟨r7, 0, none⟩ : Addr) #[.int .i64 n55_0, .int .i64 n55_1, .string s55_2] w11 fun w12 =>
 S1 w12 /\
 stA prog 28 (⟨r8, 0, none⟩ : Addr) #[.int .i64 n61_0, .int .i64 n61_1, .string s61_2] w12 fun w13 =>
 S1 w13 /\
 stA prog 28 (⟨r9, 0, none⟩ : Addr) #[.int .i64 n66_0, .int .i64 n66_1, .string s66_2] w13 fun w14 =>
 ∃ n67_0, w14.cell? ((⟨r7, 0, none⟩ : Addr).add 0) = some (.int .i64 n67_0) /\
 ∃ n67_1, w14.cell? ((⟨r7, 0, none⟩ : Addr).add 1) = some (.int .i64 n67_1) /\
 ∃ s67_2, w14.cell? ((⟨r7, 0, none⟩ : Addr).add 2) = some (.string s67_2) /\
 ∃ n68_0, w14.cell? ((⟨r8, 0, none⟩ : Addr).add 0) = some (.int .i64 n68_0) /\
 ∃ n68_1, w14.cell? ((⟨r8, 0, none⟩ : Addr).add 1) = some (.int .i64 n68_1) /\
 ∃ s68_2, w14.cell? ((⟨r8, 0, none⟩ : Addr).add 2) = some (.string s68_2) /\
 Calls prog 19 #[.agg #[.int .i64 n67_0, .int .i64 n67_1, .string s67_2], .agg #[.int .i64 n68_0, .int .i64 n68_1, .string s68_2]] w14 fun e w15 =>
 ∃ b69 : Bool, e = .returned (.bool b69) /\
 Br (!b69) (
 ∃ n72_0, w15.cell? ((⟨r9, 0, none⟩ : Addr).add 0) = some (.int .i64 n72_0) /\
 ∃ n72_1, w15.cell? ((⟨r9, 0, none⟩ : Addr).add 1) = some (.int .i64 n72_1) /\
 ∃ s72_2, w15.cell? ((⟨r9, 0, none⟩ : Addr).add 2) = some (.string s72_2) /\
 ∃ n73_0, w15.cell? ((⟨r7, 0, none⟩ : Addr).add 0) = some (.int .i64 n73_0) /\
 ∃ n73_1, w15.cell? ((⟨r7, 0, none⟩ : Addr).add 1) = some (.int .i64 n73_1) /\
 ∃ s73_2, w15.cell? ((⟨r7, 0, none⟩ : Addr).add 2) = some (.string s73_2) /\
 Calls prog 19 #[.agg #[.int .i64 n72_0, .int .i64 n72_1, .string s72_2], .agg #[.int .i64 n73_0, .int .i64 n73_1, .string s73_2]] w15 fun e w16 =>
 ∃ b74 : Bool, e = .returned (.bool b74) /\
 Br (!b74) (
 ∃ n78_0, w16.cell? ((⟨r9, 0, none⟩ : Addr).add 0) = some (.int .i64 n78_0) /\
 ∃ n78_1, w16.cell? ((⟨r9, 0, none⟩ : Addr).add 1) = some (.int .i64 n78_1) /\
 ∃ s78_2, w16.cell? ((⟨r9, 0, none⟩ : Addr).add 2) = some (.string s78_2) /\
 ∃ n79_0, w16.cell? ((⟨r8, 0, none⟩ : Addr).add 0) = some (.int .i64 n79_0) /\
 ∃ n79_1, w16.cell? ((⟨r8, 0, none⟩ : Addr).add 1) = some (.int .i64 n79_1) /\
 ∃ s79_2, w16.cell? ((⟨r8, 0, none⟩ : Addr).add 2) = some (.string s79_2) /\
 Calls prog 19 #[.agg #[.int .i64 n78_0, .int .i64 n78_1, .string s78_2], .agg #[.int .i64 n79_0, .int .i64 n79_1, .string s79_2]] w16 fun e w17 =>
 ∃ b80 : Bool, e = .returned (.bool b80) /\
 Br (!b80) (
 zQd prog ds w17 fun w18 =>
 R (.returned (.bool true)) w18) (
 zX1 R J1 p3 p5 n6 ds w17)) (
 zX1 R J1 p3 p5 n6 ds w16)) (
 zX1 R J1 p3 p5 n6 ds w15)) /\ (
 alE (.cells #[.int .i64 0, .int .i64 0, .string (⟨#[]⟩ : ByteArray)] 28) w9 fun r9 w19 =>
 S1 w19 /\
 alE (.cells #[.int .i64 0, .int .i64 0, .string (⟨#[]⟩ : ByteArray)] 28) w19 fun r8 w20 =>
 S1 w20 /\
 stA prog 28 (⟨r7, 0, none⟩ : Addr) #[.int .i64 n55_0, .int .i64 n55_1, .string s55_2] w20 fun w21 =>
 S1 w21 /\
 stA prog 28 (⟨r8, 0, none⟩ : Addr) #[.int .i64 n61_0, .int .i64 n61_1, .string s61_2] w21 fun w22 =>
 S1 w22 /\
 stA prog 28 (⟨r9, 0, none⟩ : Addr) #[.int .i64 n66_0, .int .i64 n66_1, .string s66_2] w22 fun w23 =>
 ∃ n67_0, w23.cell? ((⟨r7, 0, none⟩ : Addr).add 0) = some (.int .i64 n67_0) /\
 ∃ n67_1, w23.cell? ((⟨r7, 0, none⟩ : Addr).add 1) = some (.int .i64 n67_1) /\
 ∃ s67_2, w23.cell? ((⟨r7, 0, none⟩ : Addr).add 2) = some (.string s67_2) /\
 ∃ n68_0, w23.cell? ((⟨r8, 0, none⟩ : Addr).add 0) = some (.int .i64 n68_0) /\
 ∃ n68_1, w23.cell? ((⟨r8, 0, none⟩ : Addr).add 1) = some (.int .i64 n68_1) /\
 ∃ s68_2, w23.cell? ((⟨r8, 0, none⟩ : Addr).add 2) = some (.string s68_2) /\
 Calls prog 19 #[.agg #[.int .i64 n67_0, .int .i64 n67_1, .string s67_2], .agg #[.int .i64 n68_0, .int .i64 n68_1, .string s68_2]] w23 fun e w24 =>
 ∃ b69 : Bool, e = .returned (.bool b69) /\
 Br (!b69) (
 ∃ n72_0, w24.cell? ((⟨r9, 0, none⟩ : Addr).add 0) = some (.int .i64 n72_0) /\
 ∃ n72_1, w24.cell? ((⟨r9, 0, none⟩ : Addr).add 1) = some (.int .i64 n72_1) /\
 ∃ s72_2, w24.cell? ((⟨r9, 0, none⟩ : Addr).add 2) = some (.string s72_2) /\
 ∃ n73_0, w24.cell? ((⟨r7, 0, none⟩ : Addr).add 0) = some (.int .i64 n73_0) /\
 ∃ n73_1, w24.cell? ((⟨r7, 0, none⟩ : Addr).add 1) = some (.int .i64 n73_1) /\
 ∃ s73_2, w24.cell? ((⟨r7, 0, none⟩ : Addr).add 2) = some (.string s73_2) /\
 Calls prog 19 #[.agg #[.int .i64 n72_0, .int .i64 n72_1, .string s72_2], .agg #[.int .i64 n73_0, .int .i64 n73_1, .string s73_2]] w24 fun e w25 =>
 ∃ b74 : Bool, e = .returned (.bool b74) /\
 Br (!b74) (
 ∃ n78_0, w25.cell? ((⟨r9, 0, none⟩ : Addr).add 0) = some (.int .i64 n78_0) /\
 ∃ n78_1, w25.cell? ((⟨r9, 0, none⟩ : Addr).add 1) = some (.int .i64 n78_1) /\
 ∃ s78_2, w25.cell? ((⟨r9, 0, none⟩ : Addr).add 2) = some (.string s78_2) /\
 ∃ n79_0, w25.cell? ((⟨r8, 0, none⟩ : Addr).add 0) = some (.int .i64 n79_0) /\
 ∃ n79_1, w25.cell? ((⟨r8, 0, none⟩ : Addr).add 1) = some (.int .i64 n79_1) /\
 ∃ s79_2, w25.cell? ((⟨r8, 0, none⟩ : Addr).add 2) = some (.string s79_2) /\
 Calls prog 19 #[.agg #[.int .i64 n78_0, .int .i64 n78_1, .string s78_2], .agg #[.int .i64 n79_0, .int .i64 n79_1, .string s79_2]] w25 fun e w26 =>
 ∃ b80 : Bool, e = .returned (.bool b80) /\
 Br (!b80) (
 zQd prog ds w26 fun w27 =>
 R (.returned (.bool true)) w27) (
 zX1 R J1 p3 p5 n6 ds w26)) (
 zX1 R J1 p3 p5 n6 ds w25)) (
 zX1 R J1 p3 p5 n6 ds w24))) /\ (
 (
 alE (.cells #[.int .i64 0, .int .i64 0, .string (⟨#[]⟩ : ByteArray)] 28) w2 fun r8 w28 =>
 S1 w28 /\
 (
 alE (.cells #[.int .i64 0, .int .i64 0, .string (⟨#[]⟩ : ByteArray)] 28) w28 fun r7 w29 =>
 S1 w29 /\
 alE (.cells #[.int .i64 0, .int .i64 0, .string (⟨#[]⟩ : ByteArray)] 28) w29 fun r9 w30 =>
 S1 w30 /\
 stA prog 28 (⟨r7, 0, none⟩ : Addr) #[.int .i64 n55_0, .int .i64 n55_1, .string s55_2] w30 fun w31 =>
 S1 w31 /\
 stA prog 28 (⟨r8, 0, none⟩ : Addr) #[.int .i64 n61_0, .int .i64 n61_1, .string s61_2] w31 fun w32 =>
 S1 w32 /\
 stA prog 28 (⟨r9, 0, none⟩ : Addr) #[.int .i64 n66_0, .int .i64 n66_1, .string s66_2] w32 fun w33 =>
 ∃ n67_0, w33.cell? ((⟨r7, 0, none⟩ : Addr).add 0) = some (.int .i64 n67_0) /\
 ∃ n67_1, w33.cell? ((⟨r7, 0, none⟩ : Addr).add 1) = some (.int .i64 n67_1) /\
 ∃ s67_2, w33.cell? ((⟨r7, 0, none⟩ : Addr).add 2) = some (.string s67_2) /\
 ∃ n68_0, w33.cell? ((⟨r8, 0, none⟩ : Addr).add 0) = some (.int .i64 n68_0) /\
 ∃ n68_1, w33.cell? ((⟨r8, 0, none⟩ : Addr).add 1) = some (.int .i64 n68_1) /\
 ∃ s68_2, w33.cell? ((⟨r8, 0, none⟩ : Addr).add 2) = some (.string s68_2) /\
 Calls prog 19 #[.agg #[.int .i64 n67_0, .int .i64 n67_1, .string s67_2], .agg #[.int .i64 n68_0, .int .i64 n68_1, .string s68_2]] w33 fun e w34 =>
 ∃ b69 : Bool, e = .returned (.bool b69) /\
 Br (!b69) (
 ∃ n72_0, w34.cell? ((⟨r9, 0, none⟩ : Addr).add 0) = some (.int .i64 n72_0) /\
 ∃ n72_1, w34.cell? ((⟨r9, 0, none⟩ : Addr).add 1) = some (.int .i64 n72_1) /\
 ∃ s72_2, w34.cell? ((⟨r9, 0, none⟩ : Addr).add 2) = some (.string s72_2) /\
 ∃ n73_0, w34.cell? ((⟨r7, 0, none⟩ : Addr).add 0) = some (.int .i64 n73_0) /\
 ∃ n73_1, w34.cell? ((⟨r7, 0, none⟩ : Addr).add 1) = some (.int .i64 n73_1) /\
 ∃ s73_2, w34.cell? ((⟨r7, 0, none⟩ : Addr).add 2) = some (.string s73_2) /\
 Calls prog 19 #[.agg #[.int .i64 n72_0, .int .i64 n72_1, .string s72_2], .agg #[.int .i64 n73_0, .int .i64 n73_1, .string s73_2]] w34 fun e w35 =>
 ∃ b74 : Bool, e = .returned (.bool b74) /\
 Br (!b74) (
 ∃ n78_0, w35.cell? ((⟨r9, 0, none⟩ : Addr).add 0) = some (.int .i64 n78_0) /\
 ∃ n78_1, w35.cell? ((⟨r9, 0, none⟩ : Addr).add 1) = some (.int .i64 n78_1) /\
 ∃ s78_2, w35.cell? ((⟨r9, 0, none⟩ : Addr).add 2) = some (.string s78_2) /\
 ∃ n79_0, w35.cell? ((⟨r8, 0, none⟩ : Addr).add 0) = some (.int .i64 n79_0) /\
 ∃ n79_1, w35.cell? ((⟨r8, 0, none⟩ : Addr).add 1) = some (.int .i64 n79_1) /\
 ∃ s79_2, w35.cell? ((⟨r8, 0, none⟩ : Addr).add 2) = some (.string s79_2) /\
 Calls prog 19 #[.agg #[.int .i64 n78_0, .int .i64 n78_1, .string s78_2], .agg #[.int .i64 n79_0, .int .i64 n79_1, .string s79_2]] w35 fun e w36 =>
 ∃ b80 : Bool, e = .returned (.bool b80) /\
 Br (!b80) (
 zQd prog ds w36 fun w37 =>
 R (.returned (.bool true)) w37) (
 zX1 R J1 p3 p5 n6 ds w36)) (
 zX1 R J1 p3 p5 n6 ds w35)) (
 zX1 R J1 p3 p5 n6 ds w34)) /\ (
 alE (.cells #[.int .i64 0, .int .i64 0, .string (⟨#[]⟩ : ByteArray)] 28) w28 fun r9 w38 =>
 S1 w38 /\
 alE (.cells #[.int .i64 0, .int .i64 0, .string (⟨#[]⟩ : ByteArray)] 28) w38 fun r7 w39 =>
 S1 w39 /\
 stA prog 28 (⟨r7, 0, none⟩ : Addr) #[.int .i64 n55_0, .int .i64 n55_1, .string s55_2] w39 fun w40 =>
 S1 w40 /\
 stA prog 28 (⟨r8, 0, none⟩ : Addr) #[.int .i64 n61_0, .int .i64 n61_1, .string s61_2] w40 fun w41 =>
 S1 w41 /\
 stA prog 28 (⟨r9, 0, none⟩ : Addr) #[.int .i64 n66_0, .int .i64 n66_1, .string s66_2] w41 fun w42 =>
 ∃ n67_0, w42.cell? ((⟨r7, 0, none⟩ : Addr).add 0) = some (.int .i64 n67_0) /\
 ∃ n67_1, w42.cell? ((⟨r7, 0, none⟩ : Addr).add 1) = some (.int .i64 n67_1) /\
 ∃ s67_2, w42.cell? ((⟨r7, 0, none⟩ : Addr).add 2) = some (.string s67_2) /\
 ∃ n68_0, w42.cell? ((⟨r8, 0, none⟩ : Addr).add 0) = some (.int .i64 n68_0) /\
 ∃ n68_1, w42.cell? ((⟨r8, 0, none⟩ : Addr).add 1) = some (.int .i64 n68_1) /\
 ∃ s68_2, w42.cell? ((⟨r8, 0, none⟩ : Addr).add 2) = some (.string s68_2) /\
 Calls prog 19 #[.agg #[.int .i64 n67_0, .int .i64 n67_1, .string s67_2], .agg #[.int .i64 n68_0, .int .i64 n68_1, .string s68_2]] w42 fun e w43 =>
 ∃ b69 : Bool, e = .returned (.bool b69) /\
 Br (!b69) (
 ∃ n72_0, w43.cell? ((⟨r9, 0, none⟩ : Addr).add 0) = some (.int .i64 n72_0) /\
 ∃ n72_1, w43.cell? ((⟨r9, 0, none⟩ : Addr).add 1) = some (.int .i64 n72_1) /\
 ∃ s72_2, w43.cell? ((⟨r9, 0, none⟩ : Addr).add 2) = some (.string s72_2) /\
 ∃ n73_0, w43.cell? ((⟨r7, 0, none⟩ : Addr).add 0) = some (.int .i64 n73_0) /\
 ∃ n73_1, w43.cell? ((⟨r7, 0, none⟩ : Addr).add 1) = some (.int .i64 n73_1) /\
 ∃ s73_2, w43.cell? ((⟨r7, 0, none⟩ : Addr).add 2) = some (.string s73_2) /\
 Calls prog 19 #[.agg #[.int .i64 n72_0, .int .i64 n72_1, .string s72_2], .agg #[.int .i64 n73_0, .int .i64 n73_1, .string s73_2]] w43 fun e w44 =>
 ∃ b74 : Bool, e = .returned (.bool b74) /\
 Br (!b74) (
 ∃ n78_0, w44.cell? ((⟨r9, 0, none⟩ : Addr).add 0) = some (.int .i64 n78_0) /\
 ∃ n78_1, w44.cell? ((⟨r9, 0, none⟩ : Addr).add 1) = some (.int .i64 n78_1) /\
 ∃ s78_2, w44.cell? ((⟨r9, 0, none⟩ : Addr).add 2) = some (.string s78_2) /\
 ∃ n79_0, w44.cell? ((⟨r8, 0, none⟩ : Addr).add 0) = some (.int .i64 n79_0) /\
 ∃ n79_1, w44.cell? ((⟨r8, 0, none⟩ : Addr).add 1) = some (.int .i64 n79_1) /\
 ∃ s79_2, w44.cell? ((⟨r8, 0, none⟩ : Addr).add 2) = some (.string s79_2) /\
 Calls prog 19 #[.agg #[.int .i64 n78_0, .int .i64 n78_1, .string s78_2], .agg #[.int .i64 n79_0, .int .i64 n79_1, .string s79_2]] w44 fun e w45 =>
 ∃ b80 : Bool, e = .returned (.bool b80) /\
 Br (!b80) (
 zQd prog ds w45 fun w46 =>
 R (.returned (.bool true)) w46) (
 zX1 R J1 p3 p5 n6 ds w45)) (
 zX1 R J1 p3 p5 n6 ds w44)) (
 zX1 R J1 p3 p5 n6 ds w43))) /\ (
 alE (.cells #[.int .i64 0, .int .i64 0, .string (⟨#[]⟩ : ByteArray)] 28) w2 fun r9 w47 =>
 S1 w47 /\
 (
 alE (.cells #[.int .i64 0, .int .i64 0, .string (⟨#[]⟩ : ByteArray)] 28) w47 fun r7 w48 =>
 S1 w48 /\
 alE (.cells #[.int .i64 0, .int .i64 0, .string (⟨#[]⟩ : ByteArray)] 28) w48 fun r8 w49 =>
 S1 w49 /\
 stA prog 28 (⟨r7, 0, none⟩ : Addr) #[.int .i64 n55_0, .int .i64 n55_1, .string s55_2] w49 fun w50 =>
 S1 w50 /\
 stA prog 28 (⟨r8, 0, none⟩ : Addr) #[.int .i64 n61_0, .int .i64 n61_1, .string s61_2] w50 fun w51 =>
 S1 w51 /\
 stA prog 28 (⟨r9, 0, none⟩ : Addr) #[.int .i64 n66_0, .int .i64 n66_1, .string s66_2] w51 fun w52 =>
 ∃ n67_0, w52.cell? ((⟨r7, 0, none⟩ : Addr).add 0) = some (.int .i64 n67_0) /\
 ∃ n67_1, w52.cell? ((⟨r7, 0, none⟩ : Addr).add 1) = some (.int .i64 n67_1) /\
 ∃ s67_2, w52.cell? ((⟨r7, 0, none⟩ : Addr).add 2) = some (.string s67_2) /\
 ∃ n68_0, w52.cell? ((⟨r8, 0, none⟩ : Addr).add 0) = some (.int .i64 n68_0) /\
 ∃ n68_1, w52.cell? ((⟨r8, 0, none⟩ : Addr).add 1) = some (.int .i64 n68_1) /\
 ∃ s68_2, w52.cell? ((⟨r8, 0, none⟩ : Addr).add 2) = some (.string s68_2) /\
 Calls prog 19 #[.agg #[.int .i64 n67_0, .int .i64 n67_1, .string s67_2], .agg #[.int .i64 n68_0, .int .i64 n68_1, .string s68_2]] w52 fun e w53 =>
 ∃ b69 : Bool, e = .returned (.bool b69) /\
 Br (!b69) (
 ∃ n72_0, w53.cell? ((⟨r9, 0, none⟩ : Addr).add 0) = some (.int .i64 n72_0) /\
 ∃ n72_1, w53.cell? ((⟨r9, 0, none⟩ : Addr).add 1) = some (.int .i64 n72_1) /\
 ∃ s72_2, w53.cell? ((⟨r9, 0, none⟩ : Addr).add 2) = some (.string s72_2) /\
 ∃ n73_0, w53.cell? ((⟨r7, 0, none⟩ : Addr).add 0) = some (.int .i64 n73_0) /\
 ∃ n73_1, w53.cell? ((⟨r7, 0, none⟩ : Addr).add 1) = some (.int .i64 n73_1) /\
 ∃ s73_2, w53.cell? ((⟨r7, 0, none⟩ : Addr).add 2) = some (.string s73_2) /\
 Calls prog 19 #[.agg #[.int .i64 n72_0, .int .i64 n72_1, .string s72_2], .agg #[.int .i64 n73_0, .int .i64 n73_1, .string s73_2]] w53 fun e w54 =>
 ∃ b74 : Bool, e = .returned (.bool b74) /\
 Br (!b74) (
 ∃ n78_0, w54.cell? ((⟨r9, 0, none⟩ : Addr).add 0) = some (.int .i64 n78_0) /\
 ∃ n78_1, w54.cell? ((⟨r9, 0, none⟩ : Addr).add 1) = some (.int .i64 n78_1) /\
 ∃ s78_2, w54.cell? ((⟨r9, 0, none⟩ : Addr).add 2) = some (.string s78_2) /\
 ∃ n79_0, w54.cell? ((⟨r8, 0, none⟩ : Addr).add 0) = some (.int .i64 n79_0) /\
 ∃ n79_1, w54.cell? ((⟨r8, 0, none⟩ : Addr).add 1) = some (.int .i64 n79_1) /\
 ∃ s79_2, w54.cell? ((⟨r8, 0, none⟩ : Addr).add 2) = some (.string s79_2) /\
 Calls prog 19 #[.agg #[.int .i64 n78_0, .int .i64 n78_1, .string s78_2], .agg #[.int .i64 n79_0, .int .i64 n79_1, .string s79_2]] w54 fun e w55 =>
 ∃ b80 : Bool, e = .returned (.bool b80) /\
 Br (!b80) (
 zQd prog ds w55 fun w56 =>
 R (.returned (.bool true)) w56) (
 zX1 R J1 p3 p5 n6 ds w55)) (
 zX1 R J1 p3 p5 n6 ds w54)) (
 zX1 R J1 p3 p5 n6 ds w53)) /\ (
 alE (.cells #[.int .i64 0, .int .i64 0, .string (⟨#[]⟩ : ByteArray)] 28) w47 fun r8 w57 =>
 S1 w57 /\
 alE (.cells #[.int .i64 0, .int .i64 0, .string (⟨#[]⟩ : ByteArray)] 28) w57 fun r7 w58 =>
 S1 w58 /\
 stA prog 28 (⟨r7, 0, none⟩ : Addr) #[.int .i64 n55_0, .int .i64 n55_1, .string s55_2] w58 fun w59 =>
 S1 w59 /\
 stA prog 28 (⟨r8, 0, none⟩ : Addr) #[.int .i64 n61_0, .int .i64 n61_1, .string s61_2] w59 fun w60 =>
 S1 w60 /\
 stA prog 28 (⟨r9, 0, none⟩ : Addr) #[.int .i64 n66_0, .int .i64 n66_1, .string s66_2] w60 fun w61 =>
 ∃ n67_0, w61.cell? ((⟨r7, 0, none⟩ : Addr).add 0) = some (.int .i64 n67_0) /\
 ∃ n67_1, w61.cell? ((⟨r7, 0, none⟩ : Addr).add 1) = some (.int .i64 n67_1) /\
 ∃ s67_2, w61.cell? ((⟨r7, 0, none⟩ : Addr).add 2) = some (.string s67_2) /\
 ∃ n68_0, w61.cell? ((⟨r8, 0, none⟩ : Addr).add 0) = some (.int .i64 n68_0) /\
 ∃ n68_1, w61.cell? ((⟨r8, 0, none⟩ : Addr).add 1) = some (.int .i64 n68_1) /\
 ∃ s68_2, w61.cell? ((⟨r8, 0, none⟩ : Addr).add 2) = some (.string s68_2) /\
 Calls prog 19 #[.agg #[.int .i64 n67_0, .int .i64 n67_1, .string s67_2], .agg #[.int .i64 n68_0, .int .i64 n68_1, .string s68_2]] w61 fun e w62 =>
 ∃ b69 : Bool, e = .returned (.bool b69) /\
 Br (!b69) (
 ∃ n72_0, w62.cell? ((⟨r9, 0, none⟩ : Addr).add 0) = some (.int .i64 n72_0) /\
 ∃ n72_1, w62.cell? ((⟨r9, 0, none⟩ : Addr).add 1) = some (.int .i64 n72_1) /\
 ∃ s72_2, w62.cell? ((⟨r9, 0, none⟩ : Addr).add 2) = some (.string s72_2) /\
 ∃ n73_0, w62.cell? ((⟨r7, 0, none⟩ : Addr).add 0) = some (.int .i64 n73_0) /\
 ∃ n73_1, w62.cell? ((⟨r7, 0, none⟩ : Addr).add 1) = some (.int .i64 n73_1) /\
 ∃ s73_2, w62.cell? ((⟨r7, 0, none⟩ : Addr).add 2) = some (.string s73_2) /\
 Calls prog 19 #[.agg #[.int .i64 n72_0, .int .i64 n72_1, .string s72_2], .agg #[.int .i64 n73_0, .int .i64 n73_1, .string s73_2]] w62 fun e w63 =>
 ∃ b74 : Bool, e = .returned (.bool b74) /\
 Br (!b74) (
 ∃ n78_0, w63.cell? ((⟨r9, 0, none⟩ : Addr).add 0) = some (.int .i64 n78_0) /\
 ∃ n78_1, w63.cell? ((⟨r9, 0, none⟩ : Addr).add 1) = some (.int .i64 n78_1) /\
 ∃ s78_2, w63.cell? ((⟨r9, 0, none⟩ : Addr).add 2) = some (.string s78_2) /\
 ∃ n79_0, w63.cell? ((⟨r8, 0, none⟩ : Addr).add 0) = some (.int .i64 n79_0) /\
 ∃ n79_1, w63.cell? ((⟨r8, 0, none⟩ : Addr).add 1) = some (.int .i64 n79_1) /\
 ∃ s79_2, w63.cell? ((⟨r8, 0, none⟩ : Addr).add 2) = some (.string s79_2) /\
 Calls prog 19 #[.agg #[.int .i64 n78_0, .int .i64 n78_1, .string s78_2], .agg #[.int .i64 n79_0, .int .i64 n79_1, .string s79_2]] w63 fun e w64 =>
 ∃ b80 : Bool, e = .returned (.bool b80) /\
 Br (!b80) (
 zQd prog ds w64 fun w65 =>
 R (.returned (.bool true)) w65) (
 zX1 R J1 p3 p5 n6 ds w64)) (
 zX1 R J1 p3 p5 n6 ds w63)) (
 zX1 R J1 p3 p5 n6 ds w62))))
def xQ0 (R : Rt) (J1 : (Int) -> World -> Prop) (p3 p5 : Option Addr) (n6 : Int) (ds : Ds) (w : World) : Prop :=
 zQi p5 fun a66 =>
 ∃ l45 : SV, w.cell? (a66.add 1) = some (.slice l45.a l45.len l45.cap) /\
 Br (decide (n6 < (l45.len : Int))) (
 xX0 R J1 p3 p5 n6 ds w) (
 xQM R ds w)
def zYm (R : Rt) (p3 p5 : Option Addr) (n6 : Int) (ds : Ds) (w : World) : Prop :=
 zQD (fun (J1 : (Int) -> World -> Prop) (s : Int) (w : World) => xQ0 R J1 p3 p5 s ds w) n6 w
def yYC (R : Rt) (p0 : Option Addr) (n1_0 : Int) (b1_1 : Bool) (l1_2 : SV) (b1_3 : Bool) (l1_4 : SV) (ds : Ds) (w : World) : Prop :=
 alE (.cells #[.int .i64 n1_0, .bool b1_1, .slice l1_2.a l1_2.len l1_2.cap, .bool b1_3, .slice l1_4.a l1_4.len l1_4.cap] 136) w fun r3 w67 =>
 dwE w67 fun w68 =>
 ∃ S2 : World -> Prop, S2 w68 /\
 zQi p0 fun a69 =>
 ∃ l14 : SV, (∀ w', S2 w' -> w'.cell? (a69.add 2) = some (.slice l14.a l14.len l14.cap)) /\
 ∃ n16, (∀ w', S2 w' -> w'.cell? (⟨r3, 0, none⟩ : Addr) = some (.int .i64 n16)) /\
 ∃ a70, l14.a = some a70 /\ 0 <= (IntKind.i64.wrap (n16 - 1)) /\ (IntKind.i64.wrap (n16 - 1)) < (l14.len : Int) /\
 ∃ b19_0, (∀ w', S2 w' -> w'.cell? ((a70.add ((IntKind.i64.wrap (n16 - 1)).toNat * 2)).add 0) = some (.bool b19_0)) /\
 ∃ l19_1 : SV, (∀ w', S2 w' -> w'.cell? ((a70.add ((IntKind.i64.wrap (n16 - 1)).toNat * 2)).add 1) = some (.slice l19_1.a l19_1.len l19_1.cap)) /\
 alE (.cells #[.bool false, .slice none 0 0] 77) w68 fun r5 w71 =>
 S2 w71 /\
 stA prog 77 (⟨r5, 0, none⟩ : Addr) #[.bool b19_0, .slice l19_1.a l19_1.len l19_1.cap] w71 fun w72 =>
 ∃ b22, w72.cell? ((⟨r3, 0, none⟩ : Addr).add 3) = some (.bool b22) /\
 ∃ b25, w72.cell? ((⟨r3, 0, none⟩ : Addr).add 1) = some (.bool b25) /\
 Br (!(b22 == b25)) (
 ∃ b29, w72.cell? (⟨r5, 0, none⟩ : Addr) = some (.bool b29) /\
 ∃ b32, w72.cell? ((⟨r3, 0, none⟩ : Addr).add 1) = some (.bool b32) /\
 Br (!(b29 == b32)) (
 ∃ b37, w72.cell? (⟨r5, 0, none⟩ : Addr) = some (.bool b37) /\
 ∃ b40, w72.cell? ((⟨r3, 0, none⟩ : Addr).add 3) = some (.bool b40) /\
 Br (!(b37 == b40)) (
 zQd prog ds w72 fun w73 =>
 R (.returned (.bool true)) w73) (
 zYm R (some (⟨r3, 0, none⟩ : Addr)) (some (⟨r5, 0, none⟩ : Addr)) 0 ds w72)) (
 zYm R (some (⟨r3, 0, none⟩ : Addr)) (some (⟨r5, 0, none⟩ : Addr)) 0 ds w72)) (
 zYm R (some (⟨r3, 0, none⟩ : Addr)) (some (⟨r5, 0, none⟩ : Addr)) 0 ds w72)
theorem F131_p : Pl prog f131 [pS 0, aS 1 [.int .i64, .bool, .slice, .bool, .slice]] yYC := fun R =>
 pc 5 (zQx [pS 3, pS 5, iS 6] (zYm R) (bk 0 (zQx [] (xQM R) lf) (lp [iS 6] [pS 3, pS 5, iS 6] (xQ0 R) zXz fun J1 => pc 2 (zQx [pS 3, pS 5, iS 6] (xX0 R J1) (pc 1 (zQx [pS 3, pS 5, iS 6] (zX1 R J1) lf))))))
theorem yXV (p0 : Option Addr) (n1_0 : Int) (b1_1 : Bool) (l1_2 : SV) (b1_3 : Bool) (l1_4 : SV) (w : World) (R : Rt) (h : yYC R p0 n1_0 b1_1 l1_2 b1_3 l1_4 [] w) : Calls prog 131 #[.pointer p0, .agg #[.int .i64 n1_0, .bool b1_1, .slice l1_2.a l1_2.len l1_2.cap, .bool b1_3, .slice l1_4.a l1_4.len l1_4.cap]] w R :=
 plC F131_p func131 h
def zYy (R : Rt) (p0 : Option Addr) (n1 n2 : Int) (p8 : Option Addr) (n9 : Int) (b43 : Bool) (ds : Ds) (w : World) : Prop :=
 Br b43 (
 zQi p0 fun a1 =>
 0 <= n1 /\ n1 < (4 : Int) /\
 ∃ l50 : SV, w.cell? (((a1.add 3).add (n1.toNat * 4)).add 2) = some (.slice l50.a l50.len l50.cap) /\
 ∃ a2, l50.a = some a2 /\ 0 <= n9 /\ n9 < (l50.len : Int) /\
 ∃ b54_0, w.cell? (((a2.add (n9.toNat * 5)).add 1).add 0) = some (.bool b54_0) /\
 ∃ l54_1 : SV, w.cell? (((a2.add (n9.toNat * 5)).add 1).add 1) = some (.slice l54_1.a l54_1.len l54_1.cap) /\
 zQi p8 fun a3 =>
 stA prog 77 a3 #[.bool b54_0, .slice l54_1.a l54_1.len l54_1.cap] w fun w4 =>
 zQd prog ds w4 fun w5 =>
 zQi p8 fun a6 =>
 ∃ bR0_0, w5.cell? (a6.add 0) = some (.bool bR0_0) /\
 ∃ lR0_1 : SV, w5.cell? (a6.add 1) = some (.slice lR0_1.a lR0_1.len lR0_1.cap) /\
 R (.returned (.agg #[.bool bR0_0, .slice lR0_1.a lR0_1.len lR0_1.cap])) w5) (
 Br (decide (n9 >= 0)) (
 zQi p0 fun a7 =>
 0 <= n1 /\ n1 < (4 : Int) /\
 ∃ l63 : SV, w.cell? (((a7.add 3).add (n1.toNat * 4)).add 2) = some (.slice l63.a l63.len l63.cap) /\
 ∃ a8, l63.a = some a8 /\ 0 <= n9 /\ n9 < (l63.len : Int) /\
 ∃ b67_0, w.cell? (((a8.add (n9.toNat * 5)).add 3).add 0) = some (.bool b67_0) /\
 ∃ l67_1 : SV, w.cell? (((a8.add (n9.toNat * 5)).add 3).add 1) = some (.slice l67_1.a l67_1.len l67_1.cap) /\
 zQi p8 fun a9 =>
 stA prog 77 a9 #[.bool b67_0, .slice l67_1.a l67_1.len l67_1.cap] w fun w10 =>
 zQd prog ds w10 fun w11 =>
 zQi p8 fun a12 =>
 ∃ bR0_0, w11.cell? (a12.add 0) = some (.bool bR0_0) /\
 ∃ lR0_1 : SV, w11.cell? (a12.add 1) = some (.slice lR0_1.a lR0_1.len lR0_1.cap) /\
 R (.returned (.agg #[.bool bR0_0, .slice lR0_1.a lR0_1.len lR0_1.cap])) w11) (
 zQi p0 fun a13 =>
 ∃ l72 : SV, w.cell? (a13.add 2) = some (.slice l72.a l72.len l72.cap) /\
 ∃ a14, l72.a = some a14 /\ 0 <= (IntKind.i64.wrap (n2 - 1)) /\ (IntKind.i64.wrap (n2 - 1)) < (l72.len : Int) /\
 ∃ b76_0, w.cell? ((a14.add ((IntKind.i64.wrap (n2 - 1)).toNat * 2)).add 0) = some (.bool b76_0) /\
 ∃ l76_1 : SV, w.cell? ((a14.add ((IntKind.i64.wrap (n2 - 1)).toNat * 2)).add 1) = some (.slice l76_1.a l76_1.len l76_1.cap) /\
 zQi p8 fun a15 =>
 stA prog 77 a15 #[.bool b76_0, .slice l76_1.a l76_1.len l76_1.cap] w fun w16 =>
 zQd prog ds w16 fun w17 =>
 zQi p8 fun a18 =>
 ∃ bR0_0, w17.cell? (a18.add 0) = some (.bool bR0_0) /\
 ∃ lR0_1 : SV, w17.cell? (a18.add 1) = some (.slice lR0_1.a lR0_1.len lR0_1.cap) /\
 R (.returned (.agg #[.bool bR0_0, .slice lR0_1.a lR0_1.len lR0_1.cap])) w17))
def xX1 (R : Rt) (p0 : Option Addr) (n1 n2 : Int) (b3 : Bool) (ds : Ds) (w : World) : Prop :=
 alE (.cells #[.bool false, .slice none 0 0] 77) w fun r8 w19 =>
 Br (decide (n2 < 0)) (
 Br b3 (
 zQi p0 fun a20 =>
 ∃ l19 : SV, w19.cell? (a20.add 1) = some (.slice l19.a l19.len l19.cap) /\
 Calls prog 125 #[.slice l19.a l19.len l19.cap] w19 fun e w21 =>
 ∃ b20_0 : Bool, ∃ l20_1 : SV, e = .returned (.agg #[.bool b20_0, .slice l20_1.a l20_1.len l20_1.cap]) /\
 stA prog 77 (⟨r8, 0, none⟩ : Addr) #[.bool b20_0, .slice l20_1.a l20_1.len l20_1.cap] w21 fun w22 =>
 zQd prog ds w22 fun w23 =>
 ∃ bR0_0, w23.cell? ((⟨r8, 0, none⟩ : Addr).add 0) = some (.bool bR0_0) /\
 ∃ lR0_1 : SV, w23.cell? ((⟨r8, 0, none⟩ : Addr).add 1) = some (.slice lR0_1.a lR0_1.len lR0_1.cap) /\
 R (.returned (.agg #[.bool bR0_0, .slice lR0_1.a lR0_1.len lR0_1.cap])) w23) (
 Br (decide (n2 < 0)) (
 zQi p0 fun a24 =>
 0 <= n1 /\ n1 < (4 : Int) /\
 ∃ l29 : SV, w19.cell? (((a24.add 3).add (n1.toNat * 4)).add 3) = some (.slice l29.a l29.len l29.cap) /\
 ∃ a25, l29.a = some a25 /\ 0 <= (IntKind.i64.wrap ((IntKind.i64.wrap (0 - n2)) - 1)) /\ (IntKind.i64.wrap ((IntKind.i64.wrap (0 - n2)) - 1)) < (l29.len : Int) /\
 ∃ b34_0, w19.cell? ((a25.add ((IntKind.i64.wrap ((IntKind.i64.wrap (0 - n2)) - 1)).toNat * 2)).add 0) = some (.bool b34_0) /\
 ∃ l34_1 : SV, w19.cell? ((a25.add ((IntKind.i64.wrap ((IntKind.i64.wrap (0 - n2)) - 1)).toNat * 2)).add 1) = some (.slice l34_1.a l34_1.len l34_1.cap) /\
 stA prog 77 (⟨r8, 0, none⟩ : Addr) #[.bool b34_0, .slice l34_1.a l34_1.len l34_1.cap] w19 fun w26 =>
 zQd prog ds w26 fun w27 =>
 ∃ bR0_0, w27.cell? ((⟨r8, 0, none⟩ : Addr).add 0) = some (.bool bR0_0) /\
 ∃ lR0_1 : SV, w27.cell? ((⟨r8, 0, none⟩ : Addr).add 1) = some (.slice lR0_1.a lR0_1.len lR0_1.cap) /\
 R (.returned (.agg #[.bool bR0_0, .slice lR0_1.a lR0_1.len lR0_1.cap])) w27) (
 Calls prog 130 #[.pointer p0, .int .i64 n1, .int .i64 n2] w19 fun e w28 =>
 ∃ n38 : Int, e = .returned (.int .i64 n38) /\
 Br (decide (n38 >= 0)) (
 zYy R p0 n1 n2 (some (⟨r8, 0, none⟩ : Addr)) n38 b3 ds w28) (
 zYy R p0 n1 n2 (some (⟨r8, 0, none⟩ : Addr)) n38 false ds w28)))) (
 Br (decide (n2 < 0)) (
 zQi p0 fun a29 =>
 0 <= n1 /\ n1 < (4 : Int) /\
 ∃ l29 : SV, w19.cell? (((a29.add 3).add (n1.toNat * 4)).add 3) = some (.slice l29.a l29.len l29.cap) /\
 ∃ a30, l29.a = some a30 /\ 0 <= (IntKind.i64.wrap ((IntKind.i64.wrap (0 - n2)) - 1)) /\ (IntKind.i64.wrap ((IntKind.i64.wrap (0 - n2)) - 1)) < (l29.len : Int) /\
 ∃ b34_0, w19.cell? ((a30.add ((IntKind.i64.wrap ((IntKind.i64.wrap (0 - n2)) - 1)).toNat * 2)).add 0) = some (.bool b34_0) /\
 ∃ l34_1 : SV, w19.cell? ((a30.add ((IntKind.i64.wrap ((IntKind.i64.wrap (0 - n2)) - 1)).toNat * 2)).add 1) = some (.slice l34_1.a l34_1.len l34_1.cap) /\
 stA prog 77 (⟨r8, 0, none⟩ : Addr) #[.bool b34_0, .slice l34_1.a l34_1.len l34_1.cap] w19 fun w31 =>
 zQd prog ds w31 fun w32 =>
 ∃ bR0_0, w32.cell? ((⟨r8, 0, none⟩ : Addr).add 0) = some (.bool bR0_0) /\
 ∃ lR0_1 : SV, w32.cell? ((⟨r8, 0, none⟩ : Addr).add 1) = some (.slice lR0_1.a lR0_1.len lR0_1.cap) /\
 R (.returned (.agg #[.bool bR0_0, .slice lR0_1.a lR0_1.len lR0_1.cap])) w32) (
 Calls prog 130 #[.pointer p0, .int .i64 n1, .int .i64 n2] w19 fun e w33 =>
 ∃ n38 : Int, e = .returned (.int .i64 n38) /\
 Br (decide (n38 >= 0)) (
 zYy R p0 n1 n2 (some (⟨r8, 0, none⟩ : Addr)) n38 b3 ds w33) (
 zYy R p0 n1 n2 (some (⟨r8, 0, none⟩ : Addr)) n38 false ds w33)))
theorem F164_p : Pl prog f164 [pS 0, iS 1, iS 2, bS 3] xX1 := fun R =>
 pc 7 (zQx [pS 0, iS 1, iS 2, pS 8, iS 9, bS 43] (zYy R) lf)
theorem yZc (p0 : Option Addr) (n1 n2 : Int) (b3 : Bool) (w : World) (R : Rt) (h : xX1 R p0 n1 n2 b3 [] w) : Calls prog 164 #[.pointer p0, .int .i64 n1, .int .i64 n2, .bool b3] w R :=
 plC F164_p func164 h
end Go.Proofs.YtcihcbfcgjepfaaGreatDoor
/- Shallow texts of functions, printed by program, each checked by the kernel against the loaded code. No condition. -/
namespace Go.Proofs.YtcihcbfcgjepfaaGreatDoor
open Go.Sh Tryz
def F23_1 (R : Rt) (ds : Ds) (w : World) : Prop :=
 zQd prog ds w fun w1 =>
 R (.returned (.bool true)) w1
def F23_2 (R : Rt) (J1 : (Int) -> World -> Prop) (p2 p3 : Option Addr) (n5 : Int) (ds : Ds) (w : World) : Prop :=
 zQi p2 fun a2 =>
 ∃ l30 : SV, w.cell? (a2.add 2) = some (.slice l30.a l30.len l30.cap) /\
 Br (decide (n5 < (l30.len : Int))) (
 dwE w fun w3 =>
 zQi p2 fun a4 =>
 ∃ l36 : SV, w3.cell? (a4.add 2) = some (.slice l36.a l36.len l36.cap) /\
 ∃ a5, l36.a = some a5 /\ 0 <= n5 /\ n5 < (l36.len : Int) /\
 ∃ b39_0, w3.cell? ((a5.add (n5.toNat * 2)).add 0) = some (.bool b39_0) /\
 ∃ l39_1 : SV, w3.cell? ((a5.add (n5.toNat * 2)).add 1) = some (.slice l39_1.a l39_1.len l39_1.cap) /\
 zQi p3 fun a6 =>
 ∃ l41 : SV, w3.cell? (a6.add 2) = some (.slice l41.a l41.len l41.cap) /\
 ∃ a7, l41.a = some a7 /\ 0 <= n5 /\ n5 < (l41.len : Int) /\
 ∃ b44_0, w3.cell? ((a7.add (n5.toNat * 2)).add 0) = some (.bool b44_0) /\
 ∃ l44_1 : SV, w3.cell? ((a7.add (n5.toNat * 2)).add 1) = some (.slice l44_1.a l44_1.len l44_1.cap) /\
 Calls prog 60 #[.agg #[.bool b39_0, .slice l39_1.a l39_1.len l39_1.cap], .agg #[.bool b44_0, .slice l44_1.a l44_1.len l44_1.cap]] w3 fun e w8 =>
 ∃ b45 : Bool, e = .returned (.bool b45) /\
 Br (!b45) (
 zQd prog ds w8 fun w9 =>
 R (.returned (.bool false)) w9) (
 J1 (IntKind.i64.wrap (n5 + 1)) w8)) (
 F23_1 R ds w)
def F23_3 (R : Rt) (p2 p3 : Option Addr) (n5 : Int) (ds : Ds) (w : World) : Prop :=
 zQD (fun (J1 : (Int) -> World -> Prop) (s : Int) (w : World) => F23_2 R J1 p2 p3 s ds w) n5 w
def F23_5 (R : Rt) (n0_0 : Int) (l0_1 l0_2 : SV) (n1_0 : Int) (l1_1 l1_2 : SV) (ds : Ds) (w : World) : Prop :=
 alE (.cells #[.int .i64 n0_0, .slice l0_1.a l0_1.len l0_1.cap, .slice l0_2.a l0_2.len l0_2.cap] 25) w fun r2 w10 =>
 alE (.cells #[.int .i64 n1_0, .slice l1_1.a l1_1.len l1_1.cap, .slice l1_2.a l1_2.len l1_2.cap] 25) w10 fun r3 w11 =>
 ∃ n7, w11.cell? (⟨r2, 0, none⟩ : Addr) = some (.int .i64 n7) /\
 ∃ n9, w11.cell? (⟨r3, 0, none⟩ : Addr) = some (.int .i64 n9) /\
 Br (n7 != n9) (
 zQd prog ds w11 fun w12 =>
 R (.returned (.bool false)) w12) (
 ∃ l13 : SV, w11.cell? ((⟨r2, 0, none⟩ : Addr).add 1) = some (.slice l13.a l13.len l13.cap) /\
 ∃ l15 : SV, w11.cell? ((⟨r3, 0, none⟩ : Addr).add 1) = some (.slice l15.a l15.len l15.cap) /\
 Calls prog 59 #[.slice l13.a l13.len l13.cap, .slice l15.a l15.len l15.cap] w11 fun e w13 =>
 ∃ b16 : Bool, e = .returned (.bool b16) /\
 Br (!b16) (
 zQd prog ds w13 fun w14 =>
 R (.returned (.bool false)) w14) (
 ∃ l21 : SV, w13.cell? ((⟨r2, 0, none⟩ : Addr).add 2) = some (.slice l21.a l21.len l21.cap) /\
 ∃ l24 : SV, w13.cell? ((⟨r3, 0, none⟩ : Addr).add 2) = some (.slice l24.a l24.len l24.cap) /\
 Br ((l21.len : Int) != (l24.len : Int)) (
 zQd prog ds w13 fun w15 =>
 R (.returned (.bool false)) w15) (
 F23_3 R (some (⟨r2, 0, none⟩ : Addr)) (some (⟨r3, 0, none⟩ : Addr)) 0 ds w13)))
theorem F23_p : Pl prog f23 [aS 0 [.int .i64, .slice, .slice], aS 1 [.int .i64, .slice, .slice]] F23_5 := fun R =>
 pc 4 (zQx [pS 2, pS 3, iS 5] (F23_3 R) (bk 0 (zQx [] (F23_1 R) lf) (lp [iS 5] [pS 2, pS 3, iS 5] (F23_2 R) zXz fun J1 => lf)))
theorem yWq (n0_0 : Int) (l0_1 l0_2 : SV) (n1_0 : Int) (l1_1 l1_2 : SV) (w : World) (R : Rt) (h : F23_5 R n0_0 l0_1 l0_2 n1_0 l1_1 l1_2 [] w) : Calls prog 23 #[.agg #[.int .i64 n0_0, .slice l0_1.a l0_1.len l0_1.cap, .slice l0_2.a l0_2.len l0_2.cap], .agg #[.int .i64 n1_0, .slice l1_1.a l1_1.len l1_1.cap, .slice l1_2.a l1_2.len l1_2.cap]] w R :=
 plC F23_p func23 h
end Go.Proofs.YtcihcbfcgjepfaaGreatDoor
/- Shallow texts of functions, printed by program, each checked by the kernel against the loaded code. No condition. -/
namespace Go.Proofs.YtcihcbfcgjepfaaGreatDoor
open Go.Sh Tryz
def F9_1 (R : Rt) (l1 : SV) (n5 : Int) (ds : Ds) (w : World) : Prop :=
 Br (decide (n5 > 2000000)) (
 zQd prog ds w fun w1 =>
 R (.returned (.bool true)) w1) (
 zQd prog ds w fun w2 =>
 R (.returned (.bool (decide ((l1.len : Int) > 200)))) w2)
def F9_2 (R : Rt) (J1 : (Int × Int) -> World -> Prop) (l1 : SV) (n5 n6 : Int) (ds : Ds) (w : World) : Prop :=
 Br (decide (n6 < (l1.len : Int))) (
 dwE w fun w3 =>
 ∃ a4, l1.a = some a4 /\ 0 <= n6 /\ n6 < (l1.len : Int) /\
 ∃ s20, w3.cell? ((a4.add (n6.toNat * 6)).add 4) = some (.string s20) /\
 ∃ a5, l1.a = some a5 /\ 0 <= n6 /\ n6 < (l1.len : Int) /\
 ∃ s26, w3.cell? ((a5.add (n6.toNat * 6)).add 5) = some (.string s26) /\
 J1 ((IntKind.i64.wrap (n5 + (IntKind.i64.wrap ((s20.size : Int) + (s26.size : Int))))), (IntKind.i64.wrap (n6 + 1))) w3) (
 F9_1 R l1 n5 ds w)
def F9_3 (R : Rt) (l1 : SV) (n5 n6 : Int) (ds : Ds) (w : World) : Prop :=
 zQD (fun (J1 : (Int × Int) -> World -> Prop) (s : Int × Int) (w : World) => F9_2 R J1 l1 s.1 s.2 ds w) (n5, n6) w
def F9_5 (R : Rt) (n0_0 : Int) (l0_1 l0_2 l1 : SV) (ds : Ds) (w : World) : Prop :=
 alE (.cells #[.int .i64 n0_0, .slice l0_1.a l0_1.len l0_1.cap, .slice l0_2.a l0_2.len l0_2.cap] 25) w fun r2 w6 =>
 ∃ n7_0, w6.cell? ((⟨r2, 0, none⟩ : Addr).add 0) = some (.int .i64 n7_0) /\
 ∃ l7_1 : SV, w6.cell? ((⟨r2, 0, none⟩ : Addr).add 1) = some (.slice l7_1.a l7_1.len l7_1.cap) /\
 ∃ l7_2 : SV, w6.cell? ((⟨r2, 0, none⟩ : Addr).add 2) = some (.slice l7_2.a l7_2.len l7_2.cap) /\
 Calls prog 36 #[.agg #[.int .i64 n7_0, .slice l7_1.a l7_1.len l7_1.cap, .slice l7_2.a l7_2.len l7_2.cap]] w6 fun e w7 =>
 ∃ n8 : Int, e = .returned (.int .i64 n8) /\
 F9_3 R l1 n8 0 ds w7
theorem F9_p : Pl prog f9 [aS 0 [.int .i64, .slice, .slice], lS 1] F9_5 := fun R =>
 pc 3 (zQx [lS 1, iS 5, iS 6] (F9_3 R) (bk 0 (zQx [lS 1, iS 5] (F9_1 R) lf) (lp [iS 5, iS 6] [lS 1, iS 5, iS 6] (F9_2 R) zXz fun J1 => lf)))
theorem yVk (n0_0 : Int) (l0_1 l0_2 l1 : SV) (w : World) (R : Rt) (h : F9_5 R n0_0 l0_1 l0_2 l1 [] w) : Calls prog 9 #[.agg #[.int .i64 n0_0, .slice l0_1.a l0_1.len l0_1.cap, .slice l0_2.a l0_2.len l0_2.cap], .slice l1.a l1.len l1.cap] w R :=
 plC F9_p func9 h
def F21_1 (R : Rt) (n0_0 n0_1 n0_2 n0_3 : Int) (s0_4 s0_5 : ByteArray) (ds : Ds) (w : World) : Prop :=
 alE (.cells #[.int .i64 n0_0, .int .i64 n0_1, .int .i64 n0_2, .int .i64 n0_3, .string s0_4, .string s0_5] 51) w fun r1 w1 =>
 alE (.cells #[.int .i64 0, .int .i64 0, .string (⟨#[]⟩ : ByteArray)] 28) w1 fun r2 w2 =>
 ∃ n4, w2.cell? ((⟨r1, 0, none⟩ : Addr).add 3) = some (.int .i64 n4) /\
 ∃ n6, w2.cell? ((⟨r1, 0, none⟩ : Addr).add 2) = some (.int .i64 n6) /\
 ∃ s8, w2.cell? ((⟨r1, 0, none⟩ : Addr).add 5) = some (.string s8) /\
 stA prog 28 (⟨r2, 0, none⟩ : Addr) #[.int .i64 n4, .int .i64 n6, .string s8] w2 fun w3 =>
 zQd prog ds w3 fun w4 =>
 ∃ nR0_0, w4.cell? ((⟨r2, 0, none⟩ : Addr).add 0) = some (.int .i64 nR0_0) /\
 ∃ nR0_1, w4.cell? ((⟨r2, 0, none⟩ : Addr).add 1) = some (.int .i64 nR0_1) /\
 ∃ sR0_2, w4.cell? ((⟨r2, 0, none⟩ : Addr).add 2) = some (.string sR0_2) /\
 R (.returned (.agg #[.int .i64 nR0_0, .int .i64 nR0_1, .string sR0_2])) w4
theorem F21_p : Pl prog f21 [aS 0 [.int .i64, .int .i64, .int .i64, .int .i64, .str, .str]] F21_1 := fun R =>
 lf
theorem yJs (n0_0 n0_1 n0_2 n0_3 : Int) (s0_4 s0_5 : ByteArray) (w : World) (R : Rt) (h : F21_1 R n0_0 n0_1 n0_2 n0_3 s0_4 s0_5 [] w) : Calls prog 21 #[.agg #[.int .i64 n0_0, .int .i64 n0_1, .int .i64 n0_2, .int .i64 n0_3, .string s0_4, .string s0_5]] w R :=
 plC F21_p func21 h
end Go.Proofs.YtcihcbfcgjepfaaGreatDoor
/- Shallow texts of functions, printed by program, each checked by the kernel against the loaded code. No condition. -/
namespace Go.Proofs.YtcihcbfcgjepfaaGreatDoor
open Go.Sh Tryz
def F10_1 (R : Rt) (p1 : Option Addr) (ds : Ds) (w : World) : Prop :=
 Calls prog 17 #[.pointer p1, .int .i64 0, .bool false] w fun e w1 =>
 ∃ l54_0 : SV, ∃ n54_1 : Int, e = .returned (.tuple #[.slice l54_0.a l54_0.len l54_0.cap, .int .i64 n54_1]) /\
 Calls prog 17 #[.pointer p1, .int .i64 1, .bool false] w1 fun e w2 =>
 ∃ l59_0 : SV, ∃ n59_1 : Int, e = .returned (.tuple #[.slice l59_0.a l59_0.len l59_0.cap, .int .i64 n59_1]) /\
 Calls prog 17 #[.pointer p1, .int .i64 1, .bool true] w2 fun e w3 =>
 ∃ l64_0 : SV, ∃ n64_1 : Int, e = .returned (.tuple #[.slice l64_0.a l64_0.len l64_0.cap, .int .i64 n64_1]) /\
 Calls prog 18 #[.pointer p1, .int .i64 1, .string (⟨#[65]⟩ : ByteArray)] w3 fun e w4 =>
 ∃ n69_0_0 : Int, ∃ n69_0_1 : Int, ∃ s69_0_2 : ByteArray, ∃ n69_1 : Int, e = .returned (.tuple #[.agg #[.int .i64 n69_0_0, .int .i64 n69_0_1, .string s69_0_2], .int .i64 n69_1]) /\
 alE (.cells #[.int .i64 0, .int .i64 0, .string (⟨#[]⟩ : ByteArray)] 28) w4 fun r10 w5 =>
 stA prog 28 (⟨r10, 0, none⟩ : Addr) #[.int .i64 n69_0_0, .int .i64 n69_0_1, .string s69_0_2] w5 fun w6 =>
 Br (n54_1 == 0) (
 Br (n59_1 == 13) (
 Br (n64_1 == 0) (
 Br (n69_1 == 0) (
 ∃ n88, w6.cell? ((⟨r10, 0, none⟩ : Addr).add 1) = some (.int .i64 n88) /\
 zQd prog ds w6 fun w7 =>
 R (.returned (.bool (n88 == 2))) w7) (
 zQd prog ds w6 fun w8 =>
 R (.returned (.bool false)) w8)) (
 zQd prog ds w6 fun w9 =>
 R (.returned (.bool false)) w9)) (
 zQd prog ds w6 fun w10 =>
 R (.returned (.bool false)) w10)) (
 zQd prog ds w6 fun w11 =>
 R (.returned (.bool false)) w11)
def F10_2 (R : Rt) (J1 : (Int) -> World -> Prop) (p1 : Option Addr) (n3 : Int) (ds : Ds) (w : World) : Prop :=
 Br (decide (n3 < 2)) (
 Calls prog 14 #[.pointer p1, .int .i64 n3, .int .i64 2] w fun e w12 =>
 ∃ n35 : Int, e = .returned (.int .i64 n35) /\
 Br (n35 != 0) (
 zQd prog ds w12 fun w13 =>
 R (.returned (.bool false)) w13) (
 Calls prog 15 #[.pointer p1, .int .i64 n3, .int .i64 1] w12 fun e w14 =>
 ∃ n40 : Int, e = .returned (.int .i64 n40) /\
 Br (n40 != 0) (
 zQd prog ds w14 fun w15 =>
 R (.returned (.bool false)) w15) (
 Calls prog 37 #[.int .i64 (IntKind.i64.wrap (n3 + 1))] w14 fun e w16 =>
 ∃ n48_0 : Int, ∃ n48_1 : Int, ∃ s48_2 : ByteArray, e = .returned (.agg #[.int .i64 n48_0, .int .i64 n48_1, .string s48_2]) /\
 Calls prog 16 #[.pointer p1, .int .i64 n3, .string (⟨#[65]⟩ : ByteArray), .agg #[.int .i64 n48_0, .int .i64 n48_1, .string s48_2]] w16 fun e w17 =>
 ∃ n49 : Int, e = .returned (.int .i64 n49) /\
 Br (n49 != 0) (
 zQd prog ds w17 fun w18 =>
 R (.returned (.bool false)) w18) (
 J1 (IntKind.i64.wrap (n3 + 1)) w17)))) (
 F10_1 R p1 ds w)
def xZu (R : Rt) (p1 : Option Addr) (n3 : Int) (ds : Ds) (w : World) : Prop :=
 zQD (fun (J1 : (Int) -> World -> Prop) (s : Int) (w : World) => F10_2 R J1 p1 s ds w) n3 w
def F10_5 (R : Rt) (ds : Ds) (w : World) : Prop :=
 alE (.cells #[.string (⟨#[65]⟩ : ByteArray), .int .i64 2, .int .i64 5, .bool false] 38) w fun r14 w19 =>
 Calls prog 37 #[.int .i64 0] w19 fun e w20 =>
 ∃ n15_0 : Int, ∃ n15_1 : Int, ∃ s15_2 : ByteArray, e = .returned (.agg #[.int .i64 n15_0, .int .i64 n15_1, .string s15_2]) /\
 alE (.cells #[.int .i64 n15_0, .int .i64 n15_1, .string s15_2] 28) w20 fun r16 w21 =>
 alE (.cells #[.bool false, .slice (some ⟨r16, 0, none⟩) 1 1] 77) w21 fun r18 w22 =>
 Calls prog 11 #[.agg #[.int .i64 0, .slice (some ⟨r14, 0, none⟩) 1 1, .slice (some ⟨r18, 0, none⟩) 1 1]] w22 fun e w23 =>
 ∃ p20_0 : Option Addr, ∃ n20_1 : Int, e = .returned (.tuple #[.pointer p20_0, .int .i64 n20_1]) /\
 Br (n20_1 != 0) (
 zQd prog ds w23 fun w24 =>
 R (.returned (.bool false)) w24) (
 ∃ b27 : Bool, ∃ w25, (eqS .eql 32 (.tmp 26) (.const (.pointer none)) (.pointer p20_0) (.pointer none)).run prog w23 = .ok (.bool b27) w25 /\
 Br b27 (
 zQd prog ds w25 fun w26 =>
 R (.returned (.bool false)) w26) (
 xZu R p20_0 0 ds w25))
theorem F10_p : Pl prog f10 [] F10_5 := fun R =>
 pc 5 (zQx [pS 1, iS 3] (xZu R) (bk 0 (zQx [pS 1] (F10_1 R) lf) (lp [iS 3] [pS 1, iS 3] (F10_2 R) zXz fun J1 => lf)))
theorem yWL  (w : World) (R : Rt) (h : F10_5 R [] w) : Calls prog 10 #[] w R :=
 plC F10_p func10 h
end Go.Proofs.YtcihcbfcgjepfaaGreatDoor
/- Shallow texts of functions, printed by program, each checked by the kernel against the loaded code. No condition. -/
namespace Go.Proofs.YtcihcbfcgjepfaaGreatDoor
open Go.Sh Tryz
def F25_1 (R : Rt) (n0_0 : Int) (l0_1 l0_2 : SV) (ds : Ds) (w : World) : Prop :=
 alE (.cells #[.int .i64 n0_0, .slice l0_1.a l0_1.len l0_1.cap, .slice l0_2.a l0_2.len l0_2.cap] 25) w fun r1 w1 =>
 ∃ n10_0, w1.cell? ((⟨r1, 0, none⟩ : Addr).add 0) = some (.int .i64 n10_0) /\
 ∃ l10_1 : SV, w1.cell? ((⟨r1, 0, none⟩ : Addr).add 1) = some (.slice l10_1.a l10_1.len l10_1.cap) /\
 ∃ l10_2 : SV, w1.cell? ((⟨r1, 0, none⟩ : Addr).add 2) = some (.slice l10_2.a l10_2.len l10_2.cap) /\
 Calls prog 11 #[.agg #[.int .i64 n10_0, .slice l10_1.a l10_1.len l10_1.cap, .slice l10_2.a l10_2.len l10_2.cap]] w1 fun e w2 =>
 ∃ p11_0 : Option Addr, ∃ n11_1 : Int, e = .returned (.tuple #[.pointer p11_0, .int .i64 n11_1]) /\
 ∃ n15_0, w2.cell? ((⟨r1, 0, none⟩ : Addr).add 0) = some (.int .i64 n15_0) /\
 ∃ l15_1 : SV, w2.cell? ((⟨r1, 0, none⟩ : Addr).add 1) = some (.slice l15_1.a l15_1.len l15_1.cap) /\
 ∃ l15_2 : SV, w2.cell? ((⟨r1, 0, none⟩ : Addr).add 2) = some (.slice l15_2.a l15_2.len l15_2.cap) /\
 Calls prog 61 #[.agg #[.int .i64 n15_0, .slice l15_1.a l15_1.len l15_1.cap, .slice l15_2.a l15_2.len l15_2.cap]] w2 fun e w3 =>
 ∃ p16_0 : Option Addr, ∃ n16_1 : Int, e = .returned (.tuple #[.pointer p16_0, .int .i64 n16_1]) /\
 Br (n11_1 == n16_1) (
 ∃ b26 : Bool, ∃ w4, (eqS .eql 32 (.tmp 25) (.const (.pointer none)) (.pointer p11_0) (.pointer none)).run prog w3 = .ok (.bool b26) w4 /\
 ∃ b28 : Bool, ∃ w5, (eqS .eql 59 (.tmp 27) (.const (.pointer none)) (.pointer p16_0) (.pointer none)).run prog w4 = .ok (.bool b28) w5 /\
 zQd prog ds w5 fun w6 =>
 R (.returned (.tuple #[.pointer p11_0, .pointer p16_0, .bool (b26 == b28)])) w6) (
 zQd prog ds w3 fun w7 =>
 R (.returned (.tuple #[.pointer p11_0, .pointer p16_0, .bool false])) w7)
theorem F25_p : Pl prog f25 [aS 0 [.int .i64, .slice, .slice]] F25_1 := fun R =>
 lf
theorem yWf (n0_0 : Int) (l0_1 l0_2 : SV) (w : World) (R : Rt) (h : F25_1 R n0_0 l0_1 l0_2 [] w) : Calls prog 25 #[.agg #[.int .i64 n0_0, .slice l0_1.a l0_1.len l0_1.cap, .slice l0_2.a l0_2.len l0_2.cap]] w R :=
 plC F25_p func25 h
def F26_1 (R : Rt) (p0 p1 : Option Addr) (n2_0 n2_1 n2_2 n2_3 : Int) (s2_4 s2_5 : ByteArray) (ds : Ds) (w : World) : Prop :=
 alE (.cells #[.int .i64 n2_0, .int .i64 n2_1, .int .i64 n2_2, .int .i64 n2_3, .string s2_4, .string s2_5] 51) w fun r5 w1 =>
 ∃ n46, w1.cell? (⟨r5, 0, none⟩ : Addr) = some (.int .i64 n46) /\
 IntKind.i64 = IntKind.i64 /\ (14 : Int) ≠ 0 /\
 IntKind.i64 = IntKind.i64 /\ (14 : Int) ≠ 0 /\
 Br (((IntKind.i64.wrap ((n46.tmod 14) + 14)).tmod 14) == 0) (
 dwE w1 fun w2 =>
 ∃ S1 : World -> Prop, S1 w2 /\
 ∃ n54, (∀ w', S1 w' -> w'.cell? ((⟨r5, 0, none⟩ : Addr).add 1) = some (.int .i64 n54)) /\
 ∃ n56, (∀ w', S1 w' -> w'.cell? ((⟨r5, 0, none⟩ : Addr).add 2) = some (.int .i64 n56)) /\
 ∃ n60, (∀ w', S1 w' -> w'.cell? ((⟨r5, 0, none⟩ : Addr).add 1) = some (.int .i64 n60)) /\
 ∃ n62, (∀ w', S1 w' -> w'.cell? ((⟨r5, 0, none⟩ : Addr).add 2) = some (.int .i64 n62)) /\
 Calls prog 14 #[.pointer p0, .int .i64 n54, .int .i64 n56] w2 fun e w3 =>
 ∃ n57 : Int, e = .returned (.int .i64 n57) /\
 S1 w3 /\
 Calls prog 62 #[.pointer p1, .int .i64 n60, .int .i64 n62] w3 fun e w4 =>
 ∃ n63 : Int, e = .returned (.int .i64 n63) /\
 zQd prog ds w4 fun w5 =>
 R (.returned (.bool (n57 == n63))) w5) (
 Br (((IntKind.i64.wrap ((n46.tmod 14) + 14)).tmod 14) == 1) (
 dwE w1 fun w6 =>
 ∃ S2 : World -> Prop, S2 w6 /\
 ∃ n69, (∀ w', S2 w' -> w'.cell? ((⟨r5, 0, none⟩ : Addr).add 1) = some (.int .i64 n69)) /\
 ∃ n71, (∀ w', S2 w' -> w'.cell? ((⟨r5, 0, none⟩ : Addr).add 2) = some (.int .i64 n71)) /\
 ∃ n75, (∀ w', S2 w' -> w'.cell? ((⟨r5, 0, none⟩ : Addr).add 1) = some (.int .i64 n75)) /\
 ∃ n77, (∀ w', S2 w' -> w'.cell? ((⟨r5, 0, none⟩ : Addr).add 2) = some (.int .i64 n77)) /\
 Calls prog 15 #[.pointer p0, .int .i64 n69, .int .i64 n71] w6 fun e w7 =>
 ∃ n72 : Int, e = .returned (.int .i64 n72) /\
 S2 w7 /\
 Calls prog 63 #[.pointer p1, .int .i64 n75, .int .i64 n77] w7 fun e w8 =>
 ∃ n78 : Int, e = .returned (.int .i64 n78) /\
 zQd prog ds w8 fun w9 =>
 R (.returned (.bool (n72 == n78))) w9) (
 Br (((IntKind.i64.wrap ((n46.tmod 14) + 14)).tmod 14) == 2) (
 dwE w1 fun w10 =>
 ∃ S3 : World -> Prop, S3 w10 /\
 ∃ n84, (∀ w', S3 w' -> w'.cell? ((⟨r5, 0, none⟩ : Addr).add 1) = some (.int .i64 n84)) /\
 ∃ s86, (∀ w', S3 w' -> w'.cell? ((⟨r5, 0, none⟩ : Addr).add 4) = some (.string s86)) /\
 ∃ n87_0, (∀ w', S3 w' -> w'.cell? ((⟨r5, 0, none⟩ : Addr).add 0) = some (.int .i64 n87_0)) /\
 ∃ n87_1, (∀ w', S3 w' -> w'.cell? ((⟨r5, 0, none⟩ : Addr).add 1) = some (.int .i64 n87_1)) /\
 ∃ n87_2, (∀ w', S3 w' -> w'.cell? ((⟨r5, 0, none⟩ : Addr).add 2) = some (.int .i64 n87_2)) /\
 ∃ n87_3, (∀ w', S3 w' -> w'.cell? ((⟨r5, 0, none⟩ : Addr).add 3) = some (.int .i64 n87_3)) /\
 ∃ s87_4, (∀ w', S3 w' -> w'.cell? ((⟨r5, 0, none⟩ : Addr).add 4) = some (.string s87_4)) /\
 ∃ s87_5, (∀ w', S3 w' -> w'.cell? ((⟨r5, 0, none⟩ : Addr).add 5) = some (.string s87_5)) /\
 ∃ n92, (∀ w', S3 w' -> w'.cell? ((⟨r5, 0, none⟩ : Addr).add 1) = some (.int .i64 n92)) /\
 ∃ s94, (∀ w', S3 w' -> w'.cell? ((⟨r5, 0, none⟩ : Addr).add 4) = some (.string s94)) /\
 ∃ n95_0, (∀ w', S3 w' -> w'.cell? ((⟨r5, 0, none⟩ : Addr).add 0) = some (.int .i64 n95_0)) /\
 ∃ n95_1, (∀ w', S3 w' -> w'.cell? ((⟨r5, 0, none⟩ : Addr).add 1) = some (.int .i64 n95_1)) /\
 ∃ n95_2, (∀ w', S3 w' -> w'.cell? ((⟨r5, 0, none⟩ : Addr).add 2) = some (.int .i64 n95_2)) /\
 ∃ n95_3, (∀ w', S3 w' -> w'.cell? ((⟨r5, 0, none⟩ : Addr).add 3) = some (.int .i64 n95_3)) /\
 ∃ s95_4, (∀ w', S3 w' -> w'.cell? ((⟨r5, 0, none⟩ : Addr).add 4) = some (.string s95_4)) /\
 ∃ s95_5, (∀ w', S3 w' -> w'.cell? ((⟨r5, 0, none⟩ : Addr).add 5) = some (.string s95_5)) /\
 Calls prog 21 #[.agg #[.int .i64 n87_0, .int .i64 n87_1, .int .i64 n87_2, .int .i64 n87_3, .string s87_4, .string s87_5]] w10 fun e w11 =>
 ∃ n88_0 : Int, ∃ n88_1 : Int, ∃ s88_2 : ByteArray, e = .returned (.agg #[.int .i64 n88_0, .int .i64 n88_1, .string s88_2]) /\
 S3 w11 /\
 Calls prog 16 #[.pointer p0, .int .i64 n84, .string s86, .agg #[.int .i64 n88_0, .int .i64 n88_1, .string s88_2]] w11 fun e w12 =>
 ∃ n89 : Int, e = .returned (.int .i64 n89) /\
 S3 w12 /\
 Calls prog 21 #[.agg #[.int .i64 n95_0, .int .i64 n95_1, .int .i64 n95_2, .int .i64 n95_3, .string s95_4, .string s95_5]] w12 fun e w13 =>
 ∃ n96_0 : Int, ∃ n96_1 : Int, ∃ s96_2 : ByteArray, e = .returned (.agg #[.int .i64 n96_0, .int .i64 n96_1, .string s96_2]) /\
 S3 w13 /\
 Calls prog 64 #[.pointer p1, .int .i64 n92, .string s94, .agg #[.int .i64 n96_0, .int .i64 n96_1, .string s96_2]] w13 fun e w14 =>
 ∃ n97 : Int, e = .returned (.int .i64 n97) /\
 zQd prog ds w14 fun w15 =>
 R (.returned (.bool (n89 == n97))) w15) (
 Br (((IntKind.i64.wrap ((n46.tmod 14) + 14)).tmod 14) == 3) (
 dwE w1 fun w16 =>
 ∃ S4 : World -> Prop, S4 w16 /\
 ∃ n103, (∀ w', S4 w' -> w'.cell? ((⟨r5, 0, none⟩ : Addr).add 1) = some (.int .i64 n103)) /\
 ∃ n105, (∀ w', S4 w' -> w'.cell? ((⟨r5, 0, none⟩ : Addr).add 2) = some (.int .i64 n105)) /\
 ∃ n110, (∀ w', S4 w' -> w'.cell? ((⟨r5, 0, none⟩ : Addr).add 1) = some (.int .i64 n110)) /\
 ∃ n112, (∀ w', S4 w' -> w'.cell? ((⟨r5, 0, none⟩ : Addr).add 2) = some (.int .i64 n112)) /\
 Calls prog 20 #[.pointer p0, .int .i64 n103, .bool (decide (n105 > 0))] w16 fun e w17 =>
 ∃ n107 : Int, e = .returned (.int .i64 n107) /\
 S4 w17 /\
 Calls prog 65 #[.pointer p1, .int .i64 n110, .bool (decide (n112 > 0))] w17 fun e w18 =>
 ∃ n114 : Int, e = .returned (.int .i64 n114) /\
 zQd prog ds w18 fun w19 =>
 R (.returned (.bool (n107 == n114))) w19) (
 Br (((IntKind.i64.wrap ((n46.tmod 14) + 14)).tmod 14) == 4) (
 ∃ n121, w1.cell? ((⟨r5, 0, none⟩ : Addr).add 1) = some (.int .i64 n121) /\
 Calls prog 28 #[.pointer p0, .int .i64 n121] w1 fun e w20 =>
 ∃ n122_0 : Int, ∃ n122_1 : Int, e = .returned (.tuple #[.int .i64 n122_0, .int .i64 n122_1]) /\
 ∃ n128, w20.cell? ((⟨r5, 0, none⟩ : Addr).add 1) = some (.int .i64 n128) /\
 Calls prog 66 #[.pointer p1, .int .i64 n128] w20 fun e w21 =>
 ∃ n129_0 : Int, ∃ n129_1 : Int, e = .returned (.tuple #[.int .i64 n129_0, .int .i64 n129_1]) /\
 Br (n122_0 == n129_0) (
 zQd prog ds w21 fun w22 =>
 R (.returned (.bool (n122_1 == n129_1))) w22) (
 zQd prog ds w21 fun w23 =>
 R (.returned (.bool false)) w23)) (
 Br (((IntKind.i64.wrap ((n46.tmod 14) + 14)).tmod 14) == 5) (
 ∃ n145, w1.cell? ((⟨r5, 0, none⟩ : Addr).add 1) = some (.int .i64 n145) /\
 ∃ n147, w1.cell? ((⟨r5, 0, none⟩ : Addr).add 2) = some (.int .i64 n147) /\
 ∃ s149, w1.cell? ((⟨r5, 0, none⟩ : Addr).add 4) = some (.string s149) /\
 Calls prog 29 #[.pointer p0, .int .i64 n145, .int .i64 n147, .string s149] w1 fun e w24 =>
 ∃ n150_0_0 : Int, ∃ n150_0_1 : Int, ∃ s150_0_2 : ByteArray, ∃ n150_1 : Int, e = .returned (.tuple #[.agg #[.int .i64 n150_0_0, .int .i64 n150_0_1, .string s150_0_2], .int .i64 n150_1]) /\
 alE (.cells #[.int .i64 0, .int .i64 0, .string (⟨#[]⟩ : ByteArray)] 28) w24 fun r11 w25 =>
 stA prog 28 (⟨r11, 0, none⟩ : Addr) #[.int .i64 n150_0_0, .int .i64 n150_0_1, .string s150_0_2] w25 fun w26 =>
 ∃ n156, w26.cell? ((⟨r5, 0, none⟩ : Addr).add 1) = some (.int .i64 n156) /\
 ∃ n158, w26.cell? ((⟨r5, 0, none⟩ : Addr).add 2) = some (.int .i64 n158) /\
 ∃ s160, w26.cell? ((⟨r5, 0, none⟩ : Addr).add 4) = some (.string s160) /\
 Calls prog 67 #[.pointer p1, .int .i64 n156, .int .i64 n158, .string s160] w26 fun e w27 =>
 ∃ n161_0_0 : Int, ∃ n161_0_1 : Int, ∃ s161_0_2 : ByteArray, ∃ n161_1 : Int, e = .returned (.tuple #[.agg #[.int .i64 n161_0_0, .int .i64 n161_0_1, .string s161_0_2], .int .i64 n161_1]) /\
 alE (.cells #[.int .i64 0, .int .i64 0, .string (⟨#[]⟩ : ByteArray)] 28) w27 fun r13 w28 =>
 stA prog 28 (⟨r13, 0, none⟩ : Addr) #[.int .i64 n161_0_0, .int .i64 n161_0_1, .string s161_0_2] w28 fun w29 =>
 ∃ n164_0, w29.cell? ((⟨r11, 0, none⟩ : Addr).add 0) = some (.int .i64 n164_0) /\
 ∃ n164_1, w29.cell? ((⟨r11, 0, none⟩ : Addr).add 1) = some (.int .i64 n164_1) /\
 ∃ s164_2, w29.cell? ((⟨r11, 0, none⟩ : Addr).add 2) = some (.string s164_2) /\
 ∃ n165_0, w29.cell? ((⟨r13, 0, none⟩ : Addr).add 0) = some (.int .i64 n165_0) /\
 ∃ n165_1, w29.cell? ((⟨r13, 0, none⟩ : Addr).add 1) = some (.int .i64 n165_1) /\
 ∃ s165_2, w29.cell? ((⟨r13, 0, none⟩ : Addr).add 2) = some (.string s165_2) /\
 Calls prog 19 #[.agg #[.int .i64 n164_0, .int .i64 n164_1, .string s164_2], .agg #[.int .i64 n165_0, .int .i64 n165_1, .string s165_2]] w29 fun e w30 =>
 ∃ b166 : Bool, e = .returned (.bool b166) /\
 Br b166 (
 zQd prog ds w30 fun w31 =>
 R (.returned (.bool (n150_1 == n161_1))) w31) (
 zQd prog ds w30 fun w32 =>
 R (.returned (.bool false)) w32)) (
 Br (((IntKind.i64.wrap ((n46.tmod 14) + 14)).tmod 14) == 6) (
 ∃ n177, w1.cell? ((⟨r5, 0, none⟩ : Addr).add 1) = some (.int .i64 n177) /\
 ∃ n179, w1.cell? ((⟨r5, 0, none⟩ : Addr).add 2) = some (.int .i64 n179) /\
 ∃ s181, w1.cell? ((⟨r5, 0, none⟩ : Addr).add 4) = some (.string s181) /\
 Calls prog 68 #[.pointer p0, .int .i64 n177, .int .i64 n179, .string s181] w1 fun e w33 =>
 ∃ n182_0_0 : Int, ∃ n182_0_1 : Int, ∃ s182_0_2 : ByteArray, ∃ n182_1 : Int, e = .returned (.tuple #[.agg #[.int .i64 n182_0_0, .int .i64 n182_0_1, .string s182_0_2], .int .i64 n182_1]) /\
 alE (.cells #[.int .i64 0, .int .i64 0, .string (⟨#[]⟩ : ByteArray)] 28) w33 fun r15 w34 =>
 stA prog 28 (⟨r15, 0, none⟩ : Addr) #[.int .i64 n182_0_0, .int .i64 n182_0_1, .string s182_0_2] w34 fun w35 =>
 ∃ n188, w35.cell? ((⟨r5, 0, none⟩ : Addr).add 1) = some (.int .i64 n188) /\
 ∃ n190, w35.cell? ((⟨r5, 0, none⟩ : Addr).add 2) = some (.int .i64 n190) /\
 ∃ s192, w35.cell? ((⟨r5, 0, none⟩ : Addr).add 4) = some (.string s192) /\
 Calls prog 69 #[.pointer p1, .int .i64 n188, .int .i64 n190, .string s192] w35 fun e w36 =>
 ∃ n193_0_0 : Int, ∃ n193_0_1 : Int, ∃ s193_0_2 : ByteArray, ∃ n193_1 : Int, e = .returned (.tuple #[.agg #[.int .i64 n193_0_0, .int .i64 n193_0_1, .string s193_0_2], .int .i64 n193_1]) /\
 alE (.cells #[.int .i64 0, .int .i64 0, .string (⟨#[]⟩ : ByteArray)] 28) w36 fun r17 w37 =>
 stA prog 28 (⟨r17, 0, none⟩ : Addr) #[.int .i64 n193_0_0, .int .i64 n193_0_1, .string s193_0_2] w37 fun w38 =>
 ∃ n196_0, w38.cell? ((⟨r15, 0, none⟩ : Addr).add 0) = some (.int .i64 n196_0) /\
 ∃ n196_1, w38.cell? ((⟨r15, 0, none⟩ : Addr).add 1) = some (.int .i64 n196_1) /\
 ∃ s196_2, w38.cell? ((⟨r15, 0, none⟩ : Addr).add 2) = some (.string s196_2) /\
 ∃ n197_0, w38.cell? ((⟨r17, 0, none⟩ : Addr).add 0) = some (.int .i64 n197_0) /\
 ∃ n197_1, w38.cell? ((⟨r17, 0, none⟩ : Addr).add 1) = some (.int .i64 n197_1) /\
 ∃ s197_2, w38.cell? ((⟨r17, 0, none⟩ : Addr).add 2) = some (.string s197_2) /\
 Calls prog 19 #[.agg #[.int .i64 n196_0, .int .i64 n196_1, .string s196_2], .agg #[.int .i64 n197_0, .int .i64 n197_1, .string s197_2]] w38 fun e w39 =>
 ∃ b198 : Bool, e = .returned (.bool b198) /\
 Br b198 (
 zQd prog ds w39 fun w40 =>
 R (.returned (.bool (n182_1 == n193_1))) w40) (
 zQd prog ds w39 fun w41 =>
 R (.returned (.bool false)) w41)) (
 Br (((IntKind.i64.wrap ((n46.tmod 14) + 14)).tmod 14) == 7) (
 ∃ n209, w1.cell? ((⟨r5, 0, none⟩ : Addr).add 2) = some (.int .i64 n209) /\
 ∃ s211, w1.cell? ((⟨r5, 0, none⟩ : Addr).add 4) = some (.string s211) /\
 Calls prog 18 #[.pointer p0, .int .i64 n209, .string s211] w1 fun e w42 =>
 ∃ n212_0_0 : Int, ∃ n212_0_1 : Int, ∃ s212_0_2 : ByteArray, ∃ n212_1 : Int, e = .returned (.tuple #[.agg #[.int .i64 n212_0_0, .int .i64 n212_0_1, .string s212_0_2], .int .i64 n212_1]) /\
 alE (.cells #[.int .i64 0, .int .i64 0, .string (⟨#[]⟩ : ByteArray)] 28) w42 fun r19 w43 =>
 stA prog 28 (⟨r19, 0, none⟩ : Addr) #[.int .i64 n212_0_0, .int .i64 n212_0_1, .string s212_0_2] w43 fun w44 =>
 ∃ n218, w44.cell? ((⟨r5, 0, none⟩ : Addr).add 2) = some (.int .i64 n218) /\
 ∃ s220, w44.cell? ((⟨r5, 0, none⟩ : Addr).add 4) = some (.string s220) /\
 Calls prog 70 #[.pointer p1, .int .i64 n218, .string s220] w44 fun e w45 =>
 ∃ n221_0_0 : Int, ∃ n221_0_1 : Int, ∃ s221_0_2 : ByteArray, ∃ n221_1 : Int, e = .returned (.tuple #[.agg #[.int .i64 n221_0_0, .int .i64 n221_0_1, .string s221_0_2], .int .i64 n221_1]) /\
 alE (.cells #[.int .i64 0, .int .i64 0, .string (⟨#[]⟩ : ByteArray)] 28) w45 fun r21 w46 =>
 stA prog 28 (⟨r21, 0, none⟩ : Addr) #[.int .i64 n221_0_0, .int .i64 n221_0_1, .string s221_0_2] w46 fun w47 =>
 ∃ n224_0, w47.cell? ((⟨r19, 0, none⟩ : Addr).add 0) = some (.int .i64 n224_0) /\
 ∃ n224_1, w47.cell? ((⟨r19, 0, none⟩ : Addr).add 1) = some (.int .i64 n224_1) /\
 ∃ s224_2, w47.cell? ((⟨r19, 0, none⟩ : Addr).add 2) = some (.string s224_2) /\
 ∃ n225_0, w47.cell? ((⟨r21, 0, none⟩ : Addr).add 0) = some (.int .i64 n225_0) /\
 ∃ n225_1, w47.cell? ((⟨r21, 0, none⟩ : Addr).add 1) = some (.int .i64 n225_1) /\
 ∃ s225_2, w47.cell? ((⟨r21, 0, none⟩ : Addr).add 2) = some (.string s225_2) /\
 Calls prog 19 #[.agg #[.int .i64 n224_0, .int .i64 n224_1, .string s224_2], .agg #[.int .i64 n225_0, .int .i64 n225_1, .string s225_2]] w47 fun e w48 =>
 ∃ b226 : Bool, e = .returned (.bool b226) /\
 Br b226 (
 zQd prog ds w48 fun w49 =>
 R (.returned (.bool (n212_1 == n221_1))) w49) (
 zQd prog ds w48 fun w50 =>
 R (.returned (.bool false)) w50)) (
 Br (((IntKind.i64.wrap ((n46.tmod 14) + 14)).tmod 14) == 8) (
 ∃ n237, w1.cell? ((⟨r5, 0, none⟩ : Addr).add 1) = some (.int .i64 n237) /\
 ∃ n239, w1.cell? ((⟨r5, 0, none⟩ : Addr).add 2) = some (.int .i64 n239) /\
 Calls prog 17 #[.pointer p0, .int .i64 n237, .bool (decide (n239 > 0))] w1 fun e w51 =>
 ∃ l241_0 : SV, ∃ n241_1 : Int, e = .returned (.tuple #[.slice l241_0.a l241_0.len l241_0.cap, .int .i64 n241_1]) /\
 ∃ n247, w51.cell? ((⟨r5, 0, none⟩ : Addr).add 1) = some (.int .i64 n247) /\
 ∃ n249, w51.cell? ((⟨r5, 0, none⟩ : Addr).add 2) = some (.int .i64 n249) /\
 Calls prog 71 #[.pointer p1, .int .i64 n247, .bool (decide (n249 > 0))] w51 fun e w52 =>
 ∃ l251_0 : SV, ∃ n251_1 : Int, e = .returned (.tuple #[.slice l251_0.a l251_0.len l251_0.cap, .int .i64 n251_1]) /\
 Calls prog 72 #[.slice l241_0.a l241_0.len l241_0.cap, .slice l251_0.a l251_0.len l251_0.cap] w52 fun e w53 =>
 ∃ b256 : Bool, e = .returned (.bool b256) /\
 Br b256 (
 zQd prog ds w53 fun w54 =>
 R (.returned (.bool (n241_1 == n251_1))) w54) (
 zQd prog ds w53 fun w55 =>
 R (.returned (.bool false)) w55)) (
 Br (((IntKind.i64.wrap ((n46.tmod 14) + 14)).tmod 14) == 9) (
 ∃ n267, w1.cell? ((⟨r5, 0, none⟩ : Addr).add 1) = some (.int .i64 n267) /\
 Calls prog 22 #[.pointer p0, .int .i64 n267] w1 fun e w56 =>
 ∃ n268_0 : Int, ∃ n268_1 : Int, e = .returned (.tuple #[.int .i64 n268_0, .int .i64 n268_1]) /\
 ∃ n274, w56.cell? ((⟨r5, 0, none⟩ : Addr).add 1) = some (.int .i64 n274) /\
 Calls prog 73 #[.pointer p1, .int .i64 n274] w56 fun e w57 =>
 ∃ n275_0 : Int, ∃ n275_1 : Int, e = .returned (.tuple #[.int .i64 n275_0, .int .i64 n275_1]) /\
 Br (n268_0 == n275_0) (
 zQd prog ds w57 fun w58 =>
 R (.returned (.bool (n268_1 == n275_1))) w58) (
 zQd prog ds w57 fun w59 =>
 R (.returned (.bool false)) w59)) (
 Br (((IntKind.i64.wrap ((n46.tmod 14) + 14)).tmod 14) == 10) (
 dwE w1 fun w60 =>
 ∃ S5 : World -> Prop, S5 w60 /\
 ∃ n290, (∀ w', S5 w' -> w'.cell? ((⟨r5, 0, none⟩ : Addr).add 1) = some (.int .i64 n290)) /\
 ∃ n294, (∀ w', S5 w' -> w'.cell? ((⟨r5, 0, none⟩ : Addr).add 1) = some (.int .i64 n294)) /\
 Calls prog 31 #[.pointer p0, .int .i64 n290] w60 fun e w61 =>
 ∃ n291 : Int, e = .returned (.int .i64 n291) /\
 S5 w61 /\
 Calls prog 74 #[.pointer p1, .int .i64 n294] w61 fun e w62 =>
 ∃ n295 : Int, e = .returned (.int .i64 n295) /\
 zQd prog ds w62 fun w63 =>
 R (.returned (.bool (n291 == n295))) w63) (
 Br (((IntKind.i64.wrap ((n46.tmod 14) + 14)).tmod 14) == 11) (
 ∃ n302, w1.cell? ((⟨r5, 0, none⟩ : Addr).add 2) = some (.int .i64 n302) /\
 Calls prog 30 #[.pointer p0, .int .i64 n302] w1 fun e w64 =>
 ∃ n303_0 : Int, ∃ b303_1 : Bool, ∃ n303_2 : Int, e = .returned (.tuple #[.int .i64 n303_0, .bool b303_1, .int .i64 n303_2]) /\
 ∃ n310, w64.cell? ((⟨r5, 0, none⟩ : Addr).add 2) = some (.int .i64 n310) /\
 Calls prog 75 #[.pointer p1, .int .i64 n310] w64 fun e w65 =>
 ∃ n311_0 : Int, ∃ b311_1 : Bool, ∃ n311_2 : Int, e = .returned (.tuple #[.int .i64 n311_0, .bool b311_1, .int .i64 n311_2]) /\
 Br (n303_0 == n311_0) (
 Br (b303_1 == b311_1) (
 zQd prog ds w65 fun w66 =>
 R (.returned (.bool (n303_2 == n311_2))) w66) (
 zQd prog ds w65 fun w67 =>
 R (.returned (.bool false)) w67)) (
 zQd prog ds w65 fun w68 =>
 R (.returned (.bool false)) w68)) (
 Br (((IntKind.i64.wrap ((n46.tmod 14) + 14)).tmod 14) == 12) (
 ∃ n333, w1.cell? ((⟨r5, 0, none⟩ : Addr).add 1) = some (.int .i64 n333) /\
 Calls prog 76 #[.pointer p0, .int .i64 n333] w1 fun e w69 =>
 ∃ l334_0 : SV, ∃ n334_1 : Int, e = .returned (.tuple #[.slice l334_0.a l334_0.len l334_0.cap, .int .i64 n334_1]) /\
 ∃ n340, w69.cell? ((⟨r5, 0, none⟩ : Addr).add 1) = some (.int .i64 n340) /\
 Calls prog 77 #[.pointer p1, .int .i64 n340] w69 fun e w70 =>
 ∃ l341_0 : SV, ∃ n341_1 : Int, e = .returned (.tuple #[.slice l341_0.a l341_0.len l341_0.cap, .int .i64 n341_1]) /\
 Calls prog 72 #[.slice l334_0.a l334_0.len l334_0.cap, .slice l341_0.a l341_0.len l341_0.cap] w70 fun e w71 =>
 ∃ b346 : Bool, e = .returned (.bool b346) /\
 Br b346 (
 zQd prog ds w71 fun w72 =>
 R (.returned (.bool (n334_1 == n341_1))) w72) (
 zQd prog ds w71 fun w73 =>
 R (.returned (.bool false)) w73)) (
 ∃ n355, w1.cell? ((⟨r5, 0, none⟩ : Addr).add 1) = some (.int .i64 n355) /\
 Calls prog 78 #[.pointer p0, .int .i64 n355] w1 fun e w74 =>
 ∃ l356_0 : SV, ∃ n356_1 : Int, e = .returned (.tuple #[.slice l356_0.a l356_0.len l356_0.cap, .int .i64 n356_1]) /\
 ∃ n362, w74.cell? ((⟨r5, 0, none⟩ : Addr).add 1) = some (.int .i64 n362) /\
 Calls prog 79 #[.pointer p1, .int .i64 n362] w74 fun e w75 =>
 ∃ l363_0 : SV, ∃ n363_1 : Int, e = .returned (.tuple #[.slice l363_0.a l363_0.len l363_0.cap, .int .i64 n363_1]) /\
 Calls prog 72 #[.slice l356_0.a l356_0.len l356_0.cap, .slice l363_0.a l363_0.len l363_0.cap] w75 fun e w76 =>
 ∃ b368 : Bool, e = .returned (.bool b368) /\
 Br b368 (
 zQd prog ds w76 fun w77 =>
 R (.returned (.bool (n356_1 == n363_1))) w77) (
 zQd prog ds w76 fun w78 =>
 R (.returned (.bool false)) w78))))))))))))))
theorem F26_p : Pl prog f26 [pS 0, pS 1, aS 2 [.int .i64, .int .i64, .int .i64, .int .i64, .str, .str]] F26_1 := fun R =>
 lf
theorem yKT (p0 p1 : Option Addr) (n2_0 n2_1 n2_2 n2_3 : Int) (s2_4 s2_5 : ByteArray) (w : World) (R : Rt) (h : F26_1 R p0 p1 n2_0 n2_1 n2_2 n2_3 s2_4 s2_5 [] w) : Calls prog 26 #[.pointer p0, .pointer p1, .agg #[.int .i64 n2_0, .int .i64 n2_1, .int .i64 n2_2, .int .i64 n2_3, .string s2_4, .string s2_5]] w R :=
 plC F26_p func26 h
end Go.Proofs.YtcihcbfcgjepfaaGreatDoor
/- Shallow texts of functions, printed by program, each checked by the kernel against the loaded code. No condition. -/
namespace Go.Proofs.YtcihcbfcgjepfaaGreatDoor
open Go.Sh Tryz
def F5_1 (R : Rt) (ds : Ds) (w : World) : Prop :=
 Calls prog 10 #[] w fun e w1 =>
 ∃ b100 : Bool, e = .returned (.bool b100) /\
 zQd prog ds w1 fun w2 =>
 R (.returned (.bool b100)) w2
def F5_2 (R : Rt) (J1 : (Int) -> World -> Prop) (p2 p5 p6 : Option Addr) (n9 : Int) (ds : Ds) (w : World) : Prop :=
 J1 (IntKind.i64.wrap (n9 + 1)) w
def F5_3 (R : Rt) (J1 : (Int) -> World -> Prop) (p2 p5 p6 : Option Addr) (n9 : Int) (ds : Ds) (w : World) : Prop :=
 Calls prog 26 #[.pointer p5, .pointer p6, .agg #[.int .i64 12, .int .i64 n9, .int .i64 0, .int .i64 0, .string (⟨#[]⟩ : ByteArray), .string (⟨#[]⟩ : ByteArray)]] w fun e w3 =>
 ∃ b90 : Bool, e = .returned (.bool b90) /\
 Br (!b90) (
 zQd prog ds w3 fun w4 =>
 R (.returned (.bool false)) w4) (
 Calls prog 26 #[.pointer p5, .pointer p6, .agg #[.int .i64 13, .int .i64 n9, .int .i64 0, .int .i64 0, .string (⟨#[]⟩ : ByteArray), .string (⟨#[]⟩ : ByteArray)]] w3 fun e w5 =>
 ∃ b97 : Bool, e = .returned (.bool b97) /\
 Br (!b97) (
 zQd prog ds w5 fun w6 =>
 R (.returned (.bool false)) w6) (
 F5_2 R J1 p2 p5 p6 n9 ds w5))
def F5_4 (R : Rt) (J1 : (Int) -> World -> Prop) (J2 : (Int) -> World -> Prop) (p2 p5 p6 : Option Addr) (n9 n10 : Int) (ds : Ds) (w : World) : Prop :=
 J2 (IntKind.i64.wrap (n10 + 1)) w
def F5_5 (R : Rt) (J1 : (Int) -> World -> Prop) (J2 : (Int) -> World -> Prop) (J3 : (Int) -> World -> Prop) (p2 p5 p6 : Option Addr) (n9 n10 n11 : Int) (ds : Ds) (w : World) : Prop :=
 J3 (IntKind.i64.wrap (n11 + 1)) w
def F5_6 (R : Rt) (J1 : (Int) -> World -> Prop) (J2 : (Int) -> World -> Prop) (J3 : (Int) -> World -> Prop) (J4 : (Int) -> World -> Prop) (p2 p5 p6 : Option Addr) (n9 n10 n11 n12 : Int) (ds : Ds) (w : World) : Prop :=
 Br (decide (n12 < 8)) (
 zQi p2 fun a7 =>
 ∃ l78 : SV, w.cell? (a7.add 1) = some (.slice l78.a l78.len l78.cap) /\
 ∃ a8, l78.a = some a8 /\ 0 <= n11 /\ n11 < (l78.len : Int) /\
 ∃ s82, w.cell? (a8.add (n11.toNat * 4)) = some (.string s82) /\
 Calls prog 26 #[.pointer p5, .pointer p6, .agg #[.int .i64 n12, .int .i64 n9, .int .i64 n10, .int .i64 0, .string s82, .string (⟨#[]⟩ : ByteArray)]] w fun e w9 =>
 ∃ b84 : Bool, e = .returned (.bool b84) /\
 Br (!b84) (
 zQd prog ds w9 fun w10 =>
 R (.returned (.bool false)) w10) (
 J4 (IntKind.i64.wrap (n12 + 1)) w9)) (
 F5_5 R J1 J2 J3 p2 p5 p6 n9 n10 n11 ds w)
def F5_7 (R : Rt) (J1 : (Int) -> World -> Prop) (J2 : (Int) -> World -> Prop) (J3 : (Int) -> World -> Prop) (p2 p5 p6 : Option Addr) (n9 n10 n11 n12 : Int) (ds : Ds) (w : World) : Prop :=
 zQD (fun (J4 : (Int) -> World -> Prop) (s : Int) (w : World) => F5_6 R J1 J2 J3 J4 p2 p5 p6 n9 n10 n11 s ds w) n12 w
def F5_9 (R : Rt) (J1 : (Int) -> World -> Prop) (J2 : (Int) -> World -> Prop) (J3 : (Int) -> World -> Prop) (p2 p5 p6 : Option Addr) (n9 n10 n11 : Int) (ds : Ds) (w : World) : Prop :=
 F5_7 R J1 J2 J3 p2 p5 p6 n9 n10 n11 5 ds w
def F5_11 (R : Rt) (J1 : (Int) -> World -> Prop) (J2 : (Int) -> World -> Prop) (J3 : (Int) -> World -> Prop) (p2 p5 p6 : Option Addr) (n9 n10 n11 : Int) (ds : Ds) (w : World) : Prop :=
 zQi p2 fun a11 =>
 ∃ l63 : SV, w.cell? (a11.add 1) = some (.slice l63.a l63.len l63.cap) /\
 Br (decide (n11 < (l63.len : Int))) (
 F5_9 R J1 J2 J3 p2 p5 p6 n9 n10 n11 ds w) (
 F5_4 R J1 J2 p2 p5 p6 n9 n10 ds w)
def xX9 (R : Rt) (J1 : (Int) -> World -> Prop) (J2 : (Int) -> World -> Prop) (p2 p5 p6 : Option Addr) (n9 n10 n11 : Int) (ds : Ds) (w : World) : Prop :=
 zQD (fun (J3 : (Int) -> World -> Prop) (s : Int) (w : World) => F5_11 R J1 J2 J3 p2 p5 p6 n9 n10 s ds w) n11 w
def F5_14 (R : Rt) (J1 : (Int) -> World -> Prop) (J2 : (Int) -> World -> Prop) (p2 p5 p6 : Option Addr) (n9 n10 : Int) (ds : Ds) (w : World) : Prop :=
 xX9 R J1 J2 p2 p5 p6 n9 n10 0 ds w
def F5_16 (R : Rt) (J1 : (Int) -> World -> Prop) (J2 : (Int) -> World -> Prop) (p2 p5 p6 : Option Addr) (n9 n10 : Int) (ds : Ds) (w : World) : Prop :=
 Calls prog 27 #[.pointer p6] w fun e w12 =>
 ∃ n53_0 : Int, ∃ l53_1 : SV, ∃ l53_2 : SV, e = .returned (.agg #[.int .i64 n53_0, .slice l53_1.a l53_1.len l53_1.cap, .slice l53_2.a l53_2.len l53_2.cap]) /\
 ∃ n57 : Int, ∃ w13, (Builtin.min_ #[3, 3] 3 #[.int .i64 (IntKind.i64.wrap ((l53_2.len : Int) + 1)), .int .i64 12]).run prog w12 = .ok (.int .i64 n57) w13 /\
 Br (decide (n10 <= n57)) (
 F5_14 R J1 J2 p2 p5 p6 n9 n10 ds w13) (
 F5_3 R J1 p2 p5 p6 n9 ds w13)
def xZp (R : Rt) (J1 : (Int) -> World -> Prop) (p2 p5 p6 : Option Addr) (n9 n10 : Int) (ds : Ds) (w : World) : Prop :=
 zQD (fun (J2 : (Int) -> World -> Prop) (s : Int) (w : World) => F5_16 R J1 J2 p2 p5 p6 n9 s ds w) n10 w
def F5_19 (R : Rt) (J1 : (Int) -> World -> Prop) (p2 p5 p6 : Option Addr) (n9 : Int) (ds : Ds) (w : World) : Prop :=
 xZp R J1 p2 p5 p6 n9 (-4) ds w
def F5_21 (R : Rt) (J1 : (Int) -> World -> Prop) (p2 p5 p6 : Option Addr) (n9 : Int) (ds : Ds) (w : World) : Prop :=
 Br (decide (n9 < 4)) (
 F5_19 R J1 p2 p5 p6 n9 ds w) (
 F5_1 R ds w)
def xZk (R : Rt) (p2 p5 p6 : Option Addr) (n9 : Int) (ds : Ds) (w : World) : Prop :=
 zQD (fun (J1 : (Int) -> World -> Prop) (s : Int) (w : World) => F5_21 R J1 p2 p5 p6 s ds w) n9 w
def xX7 (R : Rt) (p2 p5 p6 : Option Addr) (ds : Ds) (w : World) : Prop :=
 xZk R p2 p5 p6 0 ds w
def F5_25 (R : Rt) (J1 : (Int) -> World -> Prop) (l1 : SV) (p2 p5 p6 : Option Addr) (n8 : Int) (ds : Ds) (w : World) : Prop :=
 Br (decide (n8 < (l1.len : Int))) (
 ∃ a14, l1.a = some a14 /\ 0 <= n8 /\ n8 < (l1.len : Int) /\
 ∃ n44_0, w.cell? ((a14.add (n8.toNat * 6)).add 0) = some (.int .i64 n44_0) /\
 ∃ n44_1, w.cell? ((a14.add (n8.toNat * 6)).add 1) = some (.int .i64 n44_1) /\
 ∃ n44_2, w.cell? ((a14.add (n8.toNat * 6)).add 2) = some (.int .i64 n44_2) /\
 ∃ n44_3, w.cell? ((a14.add (n8.toNat * 6)).add 3) = some (.int .i64 n44_3) /\
 ∃ s44_4, w.cell? ((a14.add (n8.toNat * 6)).add 4) = some (.string s44_4) /\
 ∃ s44_5, w.cell? ((a14.add (n8.toNat * 6)).add 5) = some (.string s44_5) /\
 Calls prog 26 #[.pointer p5, .pointer p6, .agg #[.int .i64 n44_0, .int .i64 n44_1, .int .i64 n44_2, .int .i64 n44_3, .string s44_4, .string s44_5]] w fun e w15 =>
 ∃ b45 : Bool, e = .returned (.bool b45) /\
 Br (!b45) (
 zQd prog ds w15 fun w16 =>
 R (.returned (.bool false)) w16) (
 J1 (IntKind.i64.wrap (n8 + 1)) w15)) (
 xX7 R p2 p5 p6 ds w)
def F5_26 (R : Rt) (l1 : SV) (p2 p5 p6 : Option Addr) (n8 : Int) (ds : Ds) (w : World) : Prop :=
 zQD (fun (J1 : (Int) -> World -> Prop) (s : Int) (w : World) => F5_25 R J1 l1 p2 p5 p6 s ds w) n8 w
def F5_28 (R : Rt) (n0_0 : Int) (l0_1 l0_2 l1 : SV) (ds : Ds) (w : World) : Prop :=
 alE (.cells #[.int .i64 n0_0, .slice l0_1.a l0_1.len l0_1.cap, .slice l0_2.a l0_2.len l0_2.cap] 25) w fun r2 w17 =>
 ∃ n13_0, w17.cell? ((⟨r2, 0, none⟩ : Addr).add 0) = some (.int .i64 n13_0) /\
 ∃ l13_1 : SV, w17.cell? ((⟨r2, 0, none⟩ : Addr).add 1) = some (.slice l13_1.a l13_1.len l13_1.cap) /\
 ∃ l13_2 : SV, w17.cell? ((⟨r2, 0, none⟩ : Addr).add 2) = some (.slice l13_2.a l13_2.len l13_2.cap) /\
 Calls prog 9 #[.agg #[.int .i64 n13_0, .slice l13_1.a l13_1.len l13_1.cap, .slice l13_2.a l13_2.len l13_2.cap], .slice l1.a l1.len l1.cap] w17 fun e w18 =>
 ∃ b15 : Bool, e = .returned (.bool b15) /\
 Br b15 (
 Calls prog 10 #[] w18 fun e w19 =>
 ∃ b16 : Bool, e = .returned (.bool b16) /\
 zQd prog ds w19 fun w20 =>
 R (.returned (.bool b16)) w20) (
 ∃ n18_0, w18.cell? ((⟨r2, 0, none⟩ : Addr).add 0) = some (.int .i64 n18_0) /\
 ∃ l18_1 : SV, w18.cell? ((⟨r2, 0, none⟩ : Addr).add 1) = some (.slice l18_1.a l18_1.len l18_1.cap) /\
 ∃ l18_2 : SV, w18.cell? ((⟨r2, 0, none⟩ : Addr).add 2) = some (.slice l18_2.a l18_2.len l18_2.cap) /\
 Calls prog 25 #[.agg #[.int .i64 n18_0, .slice l18_1.a l18_1.len l18_1.cap, .slice l18_2.a l18_2.len l18_2.cap]] w18 fun e w21 =>
 ∃ p19_0 : Option Addr, ∃ p19_1 : Option Addr, ∃ b19_2 : Bool, e = .returned (.tuple #[.pointer p19_0, .pointer p19_1, .bool b19_2]) /\
 Br (!b19_2) (
 Br b19_2 (
 Calls prog 10 #[] w21 fun e w22 =>
 ∃ b31 : Bool, e = .returned (.bool b31) /\
 zQd prog ds w22 fun w23 =>
 R (.returned (.bool b31)) w23) (
 zQd prog ds w21 fun w24 =>
 R (.returned (.bool false)) w24)) (
 ∃ b27 : Bool, ∃ w25, (eqS .eql 59 (.tmp 26) (.const (.pointer none)) (.pointer p19_1) (.pointer none)).run prog w21 = .ok (.bool b27) w25 /\
 Br b27 (
 Br b19_2 (
 Calls prog 10 #[] w25 fun e w26 =>
 ∃ b31 : Bool, e = .returned (.bool b31) /\
 zQd prog ds w26 fun w27 =>
 R (.returned (.bool b31)) w27) (
 zQd prog ds w25 fun w28 =>
 R (.returned (.bool false)) w28)) (
 F5_26 R l1 (some (⟨r2, 0, none⟩ : Addr)) p19_0 p19_1 0 ds w25)))
theorem F5_p : Pl prog f5 [aS 0 [.int .i64, .slice, .slice], lS 1] F5_28 := fun R =>
 pc 7 (zQx [lS 1, pS 2, pS 5, pS 6, iS 8] (F5_26 R) (bk 0 (zQx [pS 2, pS 5, pS 6] (xX7 R) (pc 1 (zQx [pS 2, pS 5, pS 6, iS 9] (xZk R) (bk 2 (zQx [] (F5_1 R) lf) (lp [iS 9] [pS 2, pS 5, pS 6, iS 9] (F5_21 R) zXz fun J1 => pc 2 (zQx [pS 2, pS 5, pS 6, iS 9] (F5_19 R J1) (bk 3 (zQx [pS 2, pS 5, pS 6, iS 9] (F5_2 R J1) lf) (pc 1 (zQx [pS 2, pS 5, pS 6, iS 9, iS 10] (xZp R J1) (bk 4 (zQx [pS 2, pS 5, pS 6, iS 9] (F5_3 R J1) lf) (lp [iS 10] [pS 2, pS 5, pS 6, iS 9, iS 10] (F5_16 R J1) zXz fun J2 => pc 2 (zQx [pS 2, pS 5, pS 6, iS 9, iS 10] (F5_14 R J1 J2) (bk 5 (zQx [pS 2, pS 5, pS 6, iS 9, iS 10] (F5_4 R J1 J2) lf) (pc 1 (zQx [pS 2, pS 5, pS 6, iS 9, iS 10, iS 11] (xX9 R J1 J2) (bk 6 zXz (lp [iS 11] [pS 2, pS 5, pS 6, iS 9, iS 10, iS 11] (F5_11 R J1 J2) zXz fun J3 => pc 2 (zQx [pS 2, pS 5, pS 6, iS 9, iS 10, iS 11] (F5_9 R J1 J2 J3) (bk 7 (zQx [pS 2, pS 5, pS 6, iS 9, iS 10, iS 11] (F5_5 R J1 J2 J3) lf) (pc 1 (zQx [pS 2, pS 5, pS 6, iS 9, iS 10, iS 11, iS 12] (F5_7 R J1 J2 J3) (bk 8 zXz (lp [iS 12] [pS 2, pS 5, pS 6, iS 9, iS 10, iS 11, iS 12] (F5_6 R J1 J2 J3) zXz fun J4 => lf))))))))))))))))))))))) (lp [iS 8] [lS 1, pS 2, pS 5, pS 6, iS 8] (F5_25 R) zXz fun J1 => lf)))
theorem yVL (n0_0 : Int) (l0_1 l0_2 l1 : SV) (w : World) (R : Rt) (h : F5_28 R n0_0 l0_1 l0_2 l1 [] w) : Calls prog 5 #[.agg #[.int .i64 n0_0, .slice l0_1.a l0_1.len l0_1.cap, .slice l0_2.a l0_2.len l0_2.cap], .slice l1.a l1.len l1.cap] w R :=
 plC F5_p func5 h
end Go.Proofs.YtcihcbfcgjepfaaGreatDoor
