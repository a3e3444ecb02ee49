import Derived.Test.YtjbfehippchniaaGreatDoorProg
import Derived.Test.YtjbfehippchniaaGreatDoorShTwentyEight
/- The head of a function whose tail ranges over a function: its shallow text, printed by program, with a hole for the tail. No condition. -/
set_option maxRecDepth 100000
set_option linter.unusedVariables false
namespace Go.Proofs.YtjbfehippchniaaGreatDoor
open Go.Sh
abbrev T49:=Option Addr → Option Addr → Option Addr → Option Addr → Option Addr → Ds → World → Prop
def F49_2 (R:Rt) (T:T49) (J1:(Int) → World → Prop) (p0:Option Addr) (p3:Option Addr) (p4:Option Addr) (p5:Option Addr) (p6:Option Addr) (l21:SV) (n22:Int) (n23:Int) (ds:Ds) (w:World):Prop:=
 J1 (IntKind.i64.wrap (n23+1)) w
def F49_3 (R:Rt) (T:T49) (J1:(Int) → World → Prop) (p3:Option Addr) (p4:Option Addr) (p5:Option Addr) (p6:Option Addr) (n7:Int) (l11:SV) (ds:Ds) (w:World):Prop:=
 dwE w λw10=>
 ptrE p3 λa11=>
 ∃l75:SV,w10.cell? a11=some (.slice l75.a l75.len l75.cap) ∧
 0 ≤ n7 ∧ n7.toNat ≤ l75.cap ∧ 0 ≤ n7.toNat ∧
 ptrE p3 λa12=>
 ∃l79:SV,w10.cell? a12=some (.slice l79.a l79.len l79.cap) ∧
 l79.len ≤ l79.cap ∧ 0 ≤ (IntKind.i64.wrap (n7+1)) ∧ (IntKind.i64.wrap (n7+1)).toNat ≤ l79.len ∧
 alE (.cells #[.slice (if l75.cap=0 then l75.a else l75.a.map (λx=>x.add (0 * 4))) (n7.toNat - 0) (l75.cap - 0),.slice l11.a l11.len l11.cap,.slice (if l79.cap=(IntKind.i64.wrap (n7+1)).toNat then l79.a else l79.a.map (λx=>x.add ((IntKind.i64.wrap (n7+1)).toNat * 4))) (l79.len - (IntKind.i64.wrap (n7+1)).toNat) (l79.cap - (IntKind.i64.wrap (n7+1)).toNat)] 84) w10 λr83 w13=>
 Calls Tryz.prog 85 #[.slice (some ⟨r83,0,none⟩) 3 3] w13 λe w14=>
 ∃l84:SV,e=.returned (.slice l84.a l84.len l84.cap) ∧
 ptrE p4 λa15=>
 st1 a15 (.slice l84.a l84.len l84.cap) w14 λw16=>
 ptrE p5 λa17=>
 st1 a17 (.bool true) w16 λw18=>
 ptrE p6 λa19=>
 st1 a19 (.int .i64 0) w18 λw20=>
 runD Tryz.prog ds w20 λw21=>
 ptrE p4 λa22=>
 ∃lR0:SV,w21.cell? a22=some (.slice lR0.a lR0.len lR0.cap) ∧
 ptrE p5 λa23=>
 ∃bR1:Bool,w21.cell? a23=some (.bool bR1) ∧
 ptrE p6 λa24=>
 ∃nR2:Int,w21.cell? a24=some (.int .i64 nR2) ∧
 R (.returned (.tuple #[.slice lR0.a lR0.len lR0.cap,.bool bR1,.int .i64 nR2])) w21
def F49_4 (R:Rt) (T:T49) (J1:(Int) → World → Prop) (J2:(SV × Int) → World → Prop) (p3:Option Addr) (p4:Option Addr) (p5:Option Addr) (p6:Option Addr) (n7:Int) (p8:Option Addr) (l11:SV) (l55:SV) (n56:Int) (n57:Int) (ds:Ds) (w:World):Prop:=
 Br (decide (n57<n56)) (
 ∃a25:Addr,l55.a=some a25 ∧ 0 ≤ n57 ∧ n57<((l55.len:Nat):Int) ∧
 ∃n60_0:Int,w.cell? ((a25.add (n57.toNat * 3)).add 0)=some (.int .i64 n60_0) ∧
 ∃n60_1:Int,w.cell? ((a25.add (n57.toNat * 3)).add 1)=some (.int .i64 n60_1) ∧
 ∃s60_2:ByteArray,w.cell? ((a25.add (n57.toNat * 3)).add 2)=some (.string s60_2) ∧
 alE (.cells #[.int .i64 0,.int .i64 0,.string (⟨#[]⟩:ByteArray)] 30) w λr13 w26=>
 stA Tryz.prog 30 (⟨r13,0,none⟩:Addr) #[.int .i64 n60_0,.int .i64 n60_1,.string s60_2] w26 λw27=>
 dwE w27 λw28=>
 ∃S2:World → Prop,S2 w28 ∧
 ∃n62_0:Int,(∀w',S2 w' → w'.cell? ((⟨r13,0,none⟩:Addr).add 0)=some (.int .i64 n62_0)) ∧
 ∃n62_1:Int,(∀w',S2 w' → w'.cell? ((⟨r13,0,none⟩:Addr).add 1)=some (.int .i64 n62_1)) ∧
 ∃s62_2:ByteArray,(∀w',S2 w' → w'.cell? ((⟨r13,0,none⟩:Addr).add 2)=some (.string s62_2)) ∧
 ptrE p8 λa29=>
 ∃l64:SV,(∀w',S2 w' → w'.cell? (a29.add 3)=some (.slice l64.a l64.len l64.cap)) ∧
 ptrE p8 λa30=>
 ∃s68:ByteArray,(∀w',S2 w' → w'.cell? (a30.add 2)=some (.string s68)) ∧
 (
 Calls Tryz.prog 84 #[.slice l64.a l64.len l64.cap] w28 λe w31=>
 ∃l65:SV,e=.returned (.slice l65.a l65.len l65.cap) ∧
 S2 w31 ∧
 alE (.cells #[.string s68] 9) w31 λr69 w32=>
 S2 w32 ∧
 ∃l70:SV,∃w33:World,(Builtin.append_ #[33,33] 33 #[.slice l65.a l65.len l65.cap,.slice (some ⟨r69,0,none⟩) 1 1]).run Tryz.prog w32=.ok (.slice l70.a l70.len l70.cap) w33 ∧
 S2 w33 ∧
 alE (.cells #[.int .i64 n62_0,.int .i64 n62_1,.string s62_2,.slice l70.a l70.len l70.cap] 112) w33 λr72 w34=>
 ∃l73:SV,∃w35:World,(Builtin.append_ #[84,84] 84 #[.slice l11.a l11.len l11.cap,.slice (some ⟨r72,0,none⟩) 1 1]).run Tryz.prog w34=.ok (.slice l73.a l73.len l73.cap) w35 ∧
 J2 (l73,(IntKind.i64.wrap (n57+1))) w35) ∧ (
 alE (.cells #[.string s68] 9) w28 λr69 w36=>
 S2 w36 ∧
 Calls Tryz.prog 84 #[.slice l64.a l64.len l64.cap] w36 λe w37=>
 ∃l65:SV,e=.returned (.slice l65.a l65.len l65.cap) ∧
 S2 w37 ∧
 ∃l70:SV,∃w38:World,(Builtin.append_ #[33,33] 33 #[.slice l65.a l65.len l65.cap,.slice (some ⟨r69,0,none⟩) 1 1]).run Tryz.prog w37=.ok (.slice l70.a l70.len l70.cap) w38 ∧
 S2 w38 ∧
 alE (.cells #[.int .i64 n62_0,.int .i64 n62_1,.string s62_2,.slice l70.a l70.len l70.cap] 112) w38 λr72 w39=>
 ∃l73:SV,∃w40:World,(Builtin.append_ #[84,84] 84 #[.slice l11.a l11.len l11.cap,.slice (some ⟨r72,0,none⟩) 1 1]).run Tryz.prog w39=.ok (.slice l73.a l73.len l73.cap) w40 ∧
 J2 (l73,(IntKind.i64.wrap (n57+1))) w40)) (
 F49_3 R T J1 p3 p4 p5 p6 n7 l11 ds w)
def F49_5 (R:Rt) (T:T49) (J1:(Int) → World → Prop) (p3:Option Addr) (p4:Option Addr) (p5:Option Addr) (p6:Option Addr) (n7:Int) (p8:Option Addr) (l11:SV) (l55:SV) (n56:Int) (n57:Int) (ds:Ds) (w:World):Prop:=
 loopT (λ(J2:(SV × Int) → World → Prop) (s:SV × Int) (w:World)=>F49_4 R T J1 J2 p3 p4 p5 p6 n7 p8 s.1 l55 n56 s.2 ds w) (l11,n57) w
def F49_7 (R:Rt) (T:T49) (J1:(Int) → World → Prop) (p0:Option Addr) (p3:Option Addr) (p4:Option Addr) (p5:Option Addr) (p6:Option Addr) (l21:SV) (n22:Int) (n23:Int) (ds:Ds) (w:World):Prop:=
 ∃a41:Addr,l21.a=some a41 ∧ 0 ≤ n23 ∧ n23<((l21.len:Nat):Int) ∧
 ∃n27_0:Int,w.cell? ((a41.add (n23.toNat * 4)).add 0)=some (.int .i64 n27_0) ∧
 ∃n27_1:Int,w.cell? ((a41.add (n23.toNat * 4)).add 1)=some (.int .i64 n27_1) ∧
 ∃s27_2:ByteArray,w.cell? ((a41.add (n23.toNat * 4)).add 2)=some (.string s27_2) ∧
 ∃l27_3:SV,w.cell? ((a41.add (n23.toNat * 4)).add 3)=some (.slice l27_3.a l27_3.len l27_3.cap) ∧
 alE (.cells #[.int .i64 0,.int .i64 0,.string (⟨#[]⟩:ByteArray),.slice none 0 0] 112) w λr8 w42=>
 stA Tryz.prog 112 (⟨r8,0,none⟩:Addr) #[.int .i64 n27_0,.int .i64 n27_1,.string s27_2,.slice l27_3.a l27_3.len l27_3.cap] w42 λw43=>
 dwE w43 λw44=>
 ptrE p0 λa45=>
 ∃m32:Option Nat,w44.cell? a45=some (.map m32) ∧
 ∃s35:ByteArray,w44.cell? ((⟨r8,0,none⟩:Addr).add 2)=some (.string s35) ∧
 ∃l36_0:SV,∃b36_1:Bool,(Instr.lookup 43 (.map m32) (.string s35) true).run Tryz.prog w44=.ok (.tuple #[.slice l36_0.a l36_0.len l36_0.cap,.bool b36_1]) w44 ∧
 ∃n41:Int,w44.cell? (⟨r8,0,none⟩:Addr)=some (.int .i64 n41) ∧
 Br (n41 != 0) (
 F49_2 R T J1 p0 p3 p4 p5 p6 l21 n22 n23 ds w44) (
 Br (!b36_1) (
 F49_2 R T J1 p0 p3 p4 p5 p6 l21 n22 n23 ds w44) (
 ∃l49:SV,w44.cell? ((⟨r8,0,none⟩:Addr).add 3)=some (.slice l49.a l49.len l49.cap) ∧
 ∃s52:ByteArray,w44.cell? ((⟨r8,0,none⟩:Addr).add 2)=some (.string s52) ∧
 Calls Tryz.prog 76 #[.slice l49.a l49.len l49.cap,.string s52] w44 λe w46=>
 ∃b53:Bool,e=.returned (.bool b53) ∧
 Br b53 (
 F49_2 R T J1 p0 p3 p4 p5 p6 l21 n22 n23 ds w46) (
 F49_5 R T J1 p3 p4 p5 p6 n23 (some (⟨r8,0,none⟩:Addr)) ⟨none,0,0⟩ l36_0 ((l36_0.len:Nat):Int) 0 ds w46)))
def F49_9 (R:Rt) (T:T49) (J1:(Int) → World → Prop) (p0:Option Addr) (p3:Option Addr) (p4:Option Addr) (p5:Option Addr) (p6:Option Addr) (l21:SV) (n22:Int) (n23:Int) (ds:Ds) (w:World):Prop:=
 Br (decide (n23<n22)) (
 F49_7 R T J1 p0 p3 p4 p5 p6 l21 n22 n23 ds w) (
 T p0 p3 p4 p5 p6 ds w)
def F49_10(R:Rt)(T:T49)(p0:Option Addr)(p3:Option Addr)(p4:Option Addr)(p5:Option Addr)(p6:Option Addr)(l21:SV)(n22:Int)(n23:Int)(ds:Ds)(w:World):Prop:=
 loopT (λ(J1:(Int) → World → Prop) (s:Int) (w:World)=>F49_9 R T J1 p0 p3 p4 p5 p6 l21 n22 s ds w) n23 w
def F49_12(R:Rt)(T:T49)(p0:Option Addr)(l1:SV)(ds:Ds)(w:World):Prop:=
 alE (.cells #[.slice l1.a l1.len l1.cap] 84) w λr3 w47=>
 alE (.cells #[.slice none 0 0] 84) w47 λr4 w48=>
 alE (.cells #[.bool false] 4) w48 λr5 w49=>
 alE (.cells #[.int .i64 0] 26) w49 λr6 w50=>
 ∃l21:SV,w50.cell? (⟨r3,0,none⟩:Addr)=some (.slice l21.a l21.len l21.cap) ∧
 F49_10 R T p0 (some (⟨r3,0,none⟩:Addr)) (some (⟨r4,0,none⟩:Addr)) (some (⟨r5,0,none⟩:Addr)) (some (⟨r6,0,none⟩:Addr)) l21 ((l21.len:Nat):Int) 0 ds w50
theorem F49_p(R:Rt)(T:T49):POk Tryz.prog 119 ((flat (bodyOf Tryz.f49)).take 3) (thenQ (Kof [pS 0,pS 3,pS 4,pS 5,pS 6] T) (endQ Tryz.prog Tryz.f49.results.toList R)) [pS 0,lS 1] (F49_12 R T):=
  pc 2 (rest [pS 0,pS 3,pS 4,pS 5,pS 6,lS 21,iS 22,iS 23] (F49_10 R T) (bk 0 rnil (lp [iS 23] [pS 0,pS 3,pS 4,pS 5,pS 6,lS 21,iS 22,iS 23] (F49_9 R T) rnil λJ1=>pc 2 (rest [pS 0,pS 3,pS 4,pS 5,pS 6,lS 21,iS 22,iS 23] (F49_7 R T J1) (bk 1 (rest [pS 0,pS 3,pS 4,pS 5,pS 6,lS 21,iS 22,iS 23] (F49_2 R T J1) lf) (pc 6 (rest [pS 3,pS 4,pS 5,pS 6,iS 7,pS 8,lS 11,lS 55,iS 56,iS 57] (F49_5 R T J1) (bk 2 (rest [pS 3,pS 4,pS 5,pS 6,iS 7,lS 11] (F49_3 R T J1) lf) (lp [lS 11,iS 57] [pS 3,pS 4,pS 5,pS 6,iS 7,pS 8,lS 11,lS 55,iS 56,iS 57] (F49_4 R T J1) rnil λJ2=>lf)))))))))
end Go.Proofs.YtjbfehippchniaaGreatDoor
