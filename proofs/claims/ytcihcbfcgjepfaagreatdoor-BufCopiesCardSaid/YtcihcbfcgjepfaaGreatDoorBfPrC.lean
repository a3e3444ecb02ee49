import Derived.Test.YtcihcbfcgjepfaaGreatDoorProg
import Derived.Test.YtcihcbfcgjepfaaGreatDoorShTwentyEight
/- Shallow texts of functions, printed by program, each checked by the kernel against the loaded code. No condition. -/
set_option maxRecDepth 100000
set_option linter.unusedVariables false
namespace Go.Proofs.YtcihcbfcgjepfaaGreatDoor
open Go.Sh Tryz
def F8_1(R:Rt)(p7 p8 p11 p12:Option Addr)(ds:Ds)(w:World):Prop:=
 Calls prog 32 #[.pointer p7,.pointer p11] w λe w1=>
 ∃b81:Bool,e=.returned (.bool b81)/\
 Calls prog 35 #[.pointer p8,.pointer p12] w1 λe w2=>
 ∃b84:Bool,e=.returned (.bool b84)/\
 Br (b81 == b84) (
 Calls prog 24 #[.pointer p7] w2 λe w3=>
 ∃oZ:Int,∃eZ:SV,∃mH:SV,e=.returned (.agg #[.int .i64 oZ,eZ.v,mH.v])/\
 Calls prog 27 #[.pointer p8] w3 λe w4=>
 ∃dC:Int,∃mI:SV,∃mJ:SV,e=.returned (.agg #[.int .i64 dC,mI.v,mJ.v])/\
 Calls prog 23 #[.agg #[.int .i64 oZ,eZ.v,mH.v],.agg #[.int .i64 dC,mI.v,mJ.v]] w4 λe w5=>
 ∃b91:Bool,e=.returned (.bool b91)/\
 Br b91 (
 Calls prog 10 #[] w5 λe w6=>
 ∃b94:Bool,e=.returned (.bool b94)/\
 zQe prog ds w6 λw7=>
 R (.returned (.bool b94)) w7) (
 zQe prog ds w5 λw8=>
 R (.returned (.bool false)) w8)) (
 zQe prog ds w2 λw9=>
 R (.returned (.bool false)) w9)
def F8_2 (R:Rt) (J1:(Int)->World->Prop) (l2:SV) (p7 p8 p11 p12:Option Addr) (ba:Int) (ds:Ds) (w:World):Prop:=
 Br (decide (ba<(l2.len:Int))) (
 ∃cW,l2.a=some cW/\0<=ba/\ba<(l2.len:Int)/\
 ∃n76_0,w.cell? ((cW.add (ba.toNat * 6)).add 0)=some (.int .i64 n76_0)/\
 ∃n76_1,w.cell? ((cW.add (ba.toNat * 6)).add 1)=some (.int .i64 n76_1)/\
 ∃n76_2,w.cell? ((cW.add (ba.toNat * 6)).add 2)=some (.int .i64 n76_2)/\
 ∃n76_3,w.cell? ((cW.add (ba.toNat * 6)).add 3)=some (.int .i64 n76_3)/\
 ∃s76_4,w.cell? ((cW.add (ba.toNat * 6)).add 4)=some (.string s76_4)/\
 ∃s76_5,w.cell? ((cW.add (ba.toNat * 6)).add 5)=some (.string s76_5)/\
 Calls prog 26 #[.pointer p11,.pointer p12,.agg #[.int .i64 n76_0,.int .i64 n76_1,.int .i64 n76_2,.int .i64 n76_3,.string s76_4,.string s76_5]] w λe av=>
 ∃b77:Bool,e=.returned (.bool b77)/\
 Br (!b77) (
 zQe prog ds av λao=>
 R (.returned (.bool false)) ao) (
 J1 (IntKind.i64.wrap (ba+1)) av)) (
 F8_1 R p7 p8 p11 p12 ds w)
def F8_3(R:Rt)(l2:SV)(p7 p8 p11 p12:Option Addr)(ba:Int)(ds:Ds)(w:World):Prop:=
 zQ8 (λ(J1:(Int)->World->Prop) (s:Int) (w:World)=>F8_2 R J1 l2 p7 p8 p11 p12 s ds w) ba w
def F8_5(R:Rt)(l2:SV)(p7 p8:Option Addr)(ds:Ds)(w:World):Prop:=
 Calls prog 33 #[.pointer p7] w λe aE=>
 ∃p54:Option Addr,e=.returned (.pointer p54)/\
 Calls prog 34 #[.pointer p8] aE λe aI=>
 ∃p56:Option Addr,e=.returned (.pointer p56)/\
 ∃b58:Bool,∃aD,(eqS .eql 32 (.tmp 57) (.const (.pointer none)) (.pointer p54) (.pointer none)).run prog aI=.ok (.bool b58) aD/\
 Br b58 (
 zQe prog ds aD λaU=>
 R (.returned (.bool false)) aU) (
 Calls prog 32 #[.pointer p7,.pointer p54] aD λe br=>
 ∃b62:Bool,e=.returned (.bool b62)/\
 Br (!b62) (
 zQe prog ds br λbD=>
 R (.returned (.bool false)) bD) (
 F8_3 R l2 p7 p8 p54 p56 0 ds br))
def F8_6 (R:Rt) (J1:(Int)->World->Prop) (l1 l2:SV) (p7 p8:Option Addr) (ia:Int) (ds:Ds) (w:World):Prop:=
 Br (decide (ia<(l1.len:Int))) (
 ∃j4,l1.a=some j4/\0<=ia/\ia<(l1.len:Int)/\
 ∃oY,w.cell? ((j4.add (ia.toNat * 6)).add 0)=some (.int .i64 oY)/\
 ∃oo,w.cell? ((j4.add (ia.toNat * 6)).add 1)=some (.int .i64 oo)/\
 ∃ou,w.cell? ((j4.add (ia.toNat * 6)).add 2)=some (.int .i64 ou)/\
 ∃n50_3,w.cell? ((j4.add (ia.toNat * 6)).add 3)=some (.int .i64 n50_3)/\
 ∃s50_4,w.cell? ((j4.add (ia.toNat * 6)).add 4)=some (.string s50_4)/\
 ∃s50_5,w.cell? ((j4.add (ia.toNat * 6)).add 5)=some (.string s50_5)/\
 Calls prog 26 #[.pointer p7,.pointer p8,.agg #[.int .i64 oY,.int .i64 oo,.int .i64 ou,.int .i64 n50_3,.string s50_4,.string s50_5]] w λe cX=>
 ∃b51:Bool,e=.returned (.bool b51)/\
 Br (!b51) (
 zQe prog ds cX λcO=>
 R (.returned (.bool false)) cO) (
 J1 (IntKind.i64.wrap (ia+1)) cX)) (
 F8_5 R l2 p7 p8 ds w)
def F8_7(R:Rt)(l1 l2:SV)(p7 p8:Option Addr)(ia:Int)(ds:Ds)(w:World):Prop:=
 zQ8 (λ(J1:(Int)->World->Prop) (s:Int) (w:World)=>F8_6 R J1 l1 l2 p7 p8 s ds w) ia w
def F8_9(R:Rt)(az:Int)(ai ax l1 l2:SV)(ds:Ds)(w:World):Prop:=
 alE (.cells #[.int .i64 az,ai.v,ax.v] 25) w λr3 cS=>
 ∃jK,cS.cell? ((⟨r3,0,none⟩:Addr).add 0)=some (.int .i64 jK)/\
 ∃aN:SV,cS.cell? ((⟨r3,0,none⟩:Addr).add 1)=some (aN.v)/\
 ∃cb:SV,cS.cell? ((⟨r3,0,none⟩:Addr).add 2)=some (cb.v)/\
 Calls prog 9 #[.agg #[.int .i64 jK,aN.v,cb.v],l1.v] cS λe cJ=>
 ∃kY:Bool,e=.returned (.bool kY)/\
 Br kY (
 Calls prog 10 #[] cJ λe cP=>
 ∃kK:Bool,e=.returned (.bool kK)/\
 zQe prog ds cP λdQ=>
 R (.returned (.bool kK)) dQ) (
 ∃nD,cJ.cell? ((⟨r3,0,none⟩:Addr).add 0)=some (.int .i64 nD)/\
 ∃mK:SV,cJ.cell? ((⟨r3,0,none⟩:Addr).add 1)=some (mK.v)/\
 ∃mL:SV,cJ.cell? ((⟨r3,0,none⟩:Addr).add 2)=some (mL.v)/\
 Calls prog 9 #[.agg #[.int .i64 nD,mK.v,mL.v],l2.v] cJ λe bV=>
 ∃b20:Bool,e=.returned (.bool b20)/\
 Br b20 (
 Calls prog 10 #[] bV λe dR=>
 ∃kK:Bool,e=.returned (.bool kK)/\
 zQe prog ds dR λcR=>
 R (.returned (.bool kK)) cR) (
 ∃dJ,bV.cell? ((⟨r3,0,none⟩:Addr).add 0)=some (.int .i64 dJ)/\
 ∃ca:SV,bV.cell? ((⟨r3,0,none⟩:Addr).add 1)=some (ca.v)/\
 ∃mM:SV,bV.cell? ((⟨r3,0,none⟩:Addr).add 2)=some (mM.v)/\
 Calls prog 25 #[.agg #[.int .i64 dJ,ca.v,mM.v]] bV λe dj=>
 ∃p25_0:Option Addr,∃uF:Option Addr,∃qV:Bool,e=.returned (.tuple #[.pointer p25_0,.pointer uF,.bool qV])/\
 Br (!qV) (
 Br qV (
 Calls prog 10 #[] dj λe dw=>
 ∃sM:Bool,e=.returned (.bool sM)/\
 zQe prog ds dw λgB=>
 R (.returned (.bool sM)) gB) (
 zQe prog ds dj λgZ=>
 R (.returned (.bool false)) gZ)) (
 ∃b33:Bool,∃cK,(eqS .eql 59 (.tmp 32) (.const (.pointer none)) (.pointer uF) (.pointer none)).run prog dj=.ok (.bool b33) cK/\
 Br b33 (
 Br qV (
 Calls prog 10 #[] cK λe bn=>
 ∃sM:Bool,e=.returned (.bool sM)/\
 zQe prog ds bn λfT=>
 R (.returned (.bool sM)) fT) (
 zQe prog ds cK λqm=>
 R (.returned (.bool false)) qm)) (
 F8_7 R l1 l2 p25_0 uF 0 ds cK))))
theorem F8_p:Pl prog f8 [aS 0 [.int .i64,.slice,.slice],lS 1,lS 2] F8_9:=λR=>
 pc 7 (zQz [lS 1,lS 2,pS 7,pS 8,iS 10] (F8_7 R) (bk 0 (zQz [lS 2,pS 7,pS 8] (F8_5 R) (pc 4 (zQz [lS 2,pS 7,pS 8,pS 11,pS 12,iS 13] (F8_3 R) (bk 2 (zQz [pS 7,pS 8,pS 11,pS 12] (F8_1 R) lf) (lp [iS 13] [lS 2,pS 7,pS 8,pS 11,pS 12,iS 13] (F8_2 R) zXs λJ1=>lf))))) (lp [iS 10] [lS 1,lS 2,pS 7,pS 8,iS 10] (F8_6 R) zXs λJ1=>lf)))
theorem yYz (az:Int) (ai ax l1 l2:SV) (w:World) (R:Rt) (h:F8_9 R az ai ax l1 l2 [] w):Calls prog 8 #[.agg #[.int .i64 az,ai.v,ax.v],l1.v,l2.v] w R:=
 plC F8_p func8 h
end Go.Proofs.YtcihcbfcgjepfaaGreatDoor
