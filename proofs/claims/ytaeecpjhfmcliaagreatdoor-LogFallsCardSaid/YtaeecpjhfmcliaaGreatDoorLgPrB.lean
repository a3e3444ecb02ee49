import Derived.Test.YtaeecpjhfmcliaaGreatDoorProg
import Derived.Test.YtaeecpjhfmcliaaGreatDoorShTwentyEight
/- Shallow texts of functions, printed by program, each checked by the kernel against the loaded code. No condition. -/
set_option maxRecDepth 100000
set_option linter.unusedVariables false
namespace Go.Proofs.YtaeecpjhfmcliaaGreatDoor
open Go.Sh Tryz
def F87_1(R:Rt)(l0:SV)(ds:Ds)(w:World):Prop:=
 alE (.cells #[.int .i64 0,.slice none 0 0,.slice none 0 0] 35) w λr2 w1=>
 Calls prog 124 #[l0.v] w1 λe w2=>
 ∃rh:Int,∃jc:SV,∃jd:SV,∃re:Bool,e=.returned (.tuple #[.agg #[.int .i64 rh,jc.v,jd.v],.bool re])/\
 alE (.cells #[.int .i64 0,.slice none 0 0,.slice none 0 0] 35) w2 λr4 w3=>
 stA prog 35 (⟨r4,0,none⟩:Addr) #[.int .i64 rh,jc.v,jd.v] w3 λw4=>
 Br (!re) (
 stA prog 35 (⟨r2,0,none⟩:Addr) #[.int .i64 0,.slice none 0 0,.slice none 0 0] w4 λw5=>
 zQb prog ds w5 λw6=>
 ∃ag,w6.cell? ((⟨r2,0,none⟩:Addr).add 0)=some (.int .i64 ag)/\
 ∃ab:SV,w6.cell? ((⟨r2,0,none⟩:Addr).add 1)=some (ab.v)/\
 ∃ae:SV,w6.cell? ((⟨r2,0,none⟩:Addr).add 2)=some (ae.v)/\
 R (.returned (.tuple #[.agg #[.int .i64 ag,ab.v,ae.v],.int .i64 11])) w6) (
 ∃nJ,w4.cell? ((⟨r4,0,none⟩:Addr).add 0)=some (.int .i64 nJ)/\
 ∃cO:SV,w4.cell? ((⟨r4,0,none⟩:Addr).add 1)=some (cO.v)/\
 ∃fy:SV,w4.cell? ((⟨r4,0,none⟩:Addr).add 2)=some (fy.v)/\
 Calls prog 106 #[.agg #[.int .i64 nJ,cO.v,fy.v]] w4 λe w7=>
 ∃kJ:Int,e=.returned (.int .i64 kJ)/\
 Br (kJ != 0) (
 stA prog 35 (⟨r2,0,none⟩:Addr) #[.int .i64 0,.slice none 0 0,.slice none 0 0] w7 λw8=>
 zQb prog ds w8 λw9=>
 ∃ag,w9.cell? ((⟨r2,0,none⟩:Addr).add 0)=some (.int .i64 ag)/\
 ∃ab:SV,w9.cell? ((⟨r2,0,none⟩:Addr).add 1)=some (ab.v)/\
 ∃ae:SV,w9.cell? ((⟨r2,0,none⟩:Addr).add 2)=some (ae.v)/\
 R (.returned (.tuple #[.agg #[.int .i64 ag,ab.v,ae.v],.int .i64 11])) w9) (
 ∃dG,w7.cell? ((⟨r4,0,none⟩:Addr).add 0)=some (.int .i64 dG)/\
 ∃fA:SV,w7.cell? ((⟨r4,0,none⟩:Addr).add 1)=some (fA.v)/\
 ∃cP:SV,w7.cell? ((⟨r4,0,none⟩:Addr).add 2)=some (cP.v)/\
 Calls prog 123 #[.agg #[.int .i64 dG,fA.v,cP.v]] w7 λe aO=>
 ∃dW:SV,e=.returned (dW.v)/\
 Calls prog 125 #[dW.v,l0.v] aO λe aR=>
 ∃pY:Bool,e=.returned (.bool pY)/\
 Br (!pY) (
 stA prog 35 (⟨r2,0,none⟩:Addr) #[.int .i64 0,.slice none 0 0,.slice none 0 0] aR λaM=>
 zQb prog ds aM λaH=>
 ∃ag,aH.cell? ((⟨r2,0,none⟩:Addr).add 0)=some (.int .i64 ag)/\
 ∃ab:SV,aH.cell? ((⟨r2,0,none⟩:Addr).add 1)=some (ab.v)/\
 ∃ae:SV,aH.cell? ((⟨r2,0,none⟩:Addr).add 2)=some (ae.v)/\
 R (.returned (.tuple #[.agg #[.int .i64 ag,ab.v,ae.v],.int .i64 11])) aH) (
 ∃eO,aR.cell? ((⟨r4,0,none⟩:Addr).add 0)=some (.int .i64 eO)/\
 ∃bx:SV,aR.cell? ((⟨r4,0,none⟩:Addr).add 1)=some (bx.v)/\
 ∃cQ:SV,aR.cell? ((⟨r4,0,none⟩:Addr).add 2)=some (cQ.v)/\
 stA prog 35 (⟨r2,0,none⟩:Addr) #[.int .i64 eO,bx.v,cQ.v] aR λbo=>
 zQb prog ds bo λbt=>
 ∃ag,bt.cell? ((⟨r2,0,none⟩:Addr).add 0)=some (.int .i64 ag)/\
 ∃ab:SV,bt.cell? ((⟨r2,0,none⟩:Addr).add 1)=some (ab.v)/\
 ∃ae:SV,bt.cell? ((⟨r2,0,none⟩:Addr).add 2)=some (ae.v)/\
 R (.returned (.tuple #[.agg #[.int .i64 ag,ab.v,ae.v],.int .i64 0])) bt)))
theorem F87_p:Pl prog f87 [lS 0] F87_1:=λR=>
 lf
theorem xXA (l0:SV) (w:World) (R:Rt) (h:F87_1 R l0 [] w):Calls prog 87 #[l0.v] w R:=
 plC F87_p func87 h
def xYc(R:Rt)(p2 p4:Option Addr)(ds:Ds)(w:World):Prop:=
 zQg p4 λa1=>
 ∃gM,w.cell? (a1.add 0)=some (.int .i64 gM)/\
 ∃bW:SV,w.cell? (a1.add 1)=some (bW.v)/\
 ∃bX:SV,w.cell? (a1.add 2)=some (bX.v)/\
 zQg p2 λa2=>
 stA prog 35 a2 #[.int .i64 gM,bW.v,bX.v] w λw3=>
 zQb prog ds w3 λw4=>
 zQg p2 λa5=>
 ∃ag,w4.cell? (a5.add 0)=some (.int .i64 ag)/\
 ∃ab:SV,w4.cell? (a5.add 1)=some (ab.v)/\
 ∃ae:SV,w4.cell? (a5.add 2)=some (ae.v)/\
 R (.returned (.tuple #[.agg #[.int .i64 ag,ab.v,ae.v],.bool true])) w4
def xK0 (R:Rt) (J1:(Int)->World->Prop) (l0:SV) (p2 p4:Option Addr) (n6 n8 xt kZ:Int) (ds:Ds) (w:World):Prop:=
 Br (decide (kZ<xt)) (
 dwE w λw6=>
 ∃S1:World->Prop,S1 w6/\
 zQg p4 λa7=>
 ∃sC:SV,(∀w',S1 w'->w'.cell? (a7.add 1)=some (sC.v))/\
 0<=(IntKind.i64.wrap (n6+(IntKind.i64.wrap (n8 * (IntKind.i64.wrap (kZ+1))))))/\(IntKind.i64.wrap (n6+(IntKind.i64.wrap (n8 * (IntKind.i64.wrap (kZ+1)))))).toNat<=l0.cap/\0<=(IntKind.i64.wrap (n6+(IntKind.i64.wrap (n8 * kZ))))/\(IntKind.i64.wrap (n6+(IntKind.i64.wrap (n8 * kZ)))).toNat<=(IntKind.i64.wrap (n6+(IntKind.i64.wrap (n8 * (IntKind.i64.wrap (kZ+1)))))).toNat/\
 (
 Calls prog 163 #[sC.v,.slice (if l0.cap=(IntKind.i64.wrap (n6+(IntKind.i64.wrap (n8 * kZ)))).toNat then l0.a else l0.a.map (λx=>x.add ((IntKind.i64.wrap (n6+(IntKind.i64.wrap (n8 * kZ)))).toNat * 1))) ((IntKind.i64.wrap (n6+(IntKind.i64.wrap (n8 * (IntKind.i64.wrap (kZ+1)))))).toNat - (IntKind.i64.wrap (n6+(IntKind.i64.wrap (n8 * kZ)))).toNat) (l0.cap - (IntKind.i64.wrap (n6+(IntKind.i64.wrap (n8 * kZ)))).toNat)] w6 λe w8=>
 ∃gN:Bool,∃bY:SV,∃kr:Bool,e=.returned (.tuple #[.agg #[.bool gN,bY.v],.bool kr])/\
 alE (.cells #[.bool false,.slice none 0 0] 67) w8 λcn w9=>
 stA prog 67 (⟨cn,0,none⟩:Addr) #[.bool gN,bY.v] w9 λaO=>
 Br (!kr) (
 zQg p4 λdV=>
 ∃ku,aO.cell? (dV.add 0)=some (.int .i64 ku)/\
 ∃dA:SV,aO.cell? (dV.add 1)=some (dA.v)/\
 ∃dB:SV,aO.cell? (dV.add 2)=some (dB.v)/\
 zQg p2 λkF=>
 stA prog 35 kF #[.int .i64 ku,dA.v,dB.v] aO λaH=>
 zQb prog ds aH λbo=>
 zQg p2 λjr=>
 ∃ag,bo.cell? (jr.add 0)=some (.int .i64 ag)/\
 ∃ab:SV,bo.cell? (jr.add 1)=some (ab.v)/\
 ∃ae:SV,bo.cell? (jr.add 2)=some (ae.v)/\
 R (.returned (.tuple #[.agg #[.int .i64 ag,ab.v,ae.v],.bool false])) bo) (
 zQg p4 λiJ=>
 ∃fC:SV,aO.cell? (iJ.add 2)=some (fC.v)/\
 ∃gO,aO.cell? ((⟨cn,0,none⟩:Addr).add 0)=some (.bool gO)/\
 ∃bq:SV,aO.cell? ((⟨cn,0,none⟩:Addr).add 1)=some (bq.v)/\
 alE (.cells #[.bool gO,bq.v] 67) aO λri bG=>
 ∃fD:SV,∃bI,(Builtin.append_ #[33,33] 33 #[fC.v,.slice (some ⟨ri,0,none⟩) 1 1]).run prog bG=.ok (fD.v) bI/\
 zQg p4 λkH=>
 st1 (kH.add 2) (fD.v) bI λbO=>
 J1 (IntKind.i64.wrap (kZ+1)) bO))/\(
 alE (.cells #[.bool false,.slice none 0 0] 67) w6 λcn cq=>
 S1 cq/\
 Calls prog 163 #[sC.v,.slice (if l0.cap=(IntKind.i64.wrap (n6+(IntKind.i64.wrap (n8 * kZ)))).toNat then l0.a else l0.a.map (λx=>x.add ((IntKind.i64.wrap (n6+(IntKind.i64.wrap (n8 * kZ)))).toNat * 1))) ((IntKind.i64.wrap (n6+(IntKind.i64.wrap (n8 * (IntKind.i64.wrap (kZ+1)))))).toNat - (IntKind.i64.wrap (n6+(IntKind.i64.wrap (n8 * kZ)))).toNat) (l0.cap - (IntKind.i64.wrap (n6+(IntKind.i64.wrap (n8 * kZ)))).toNat)] cq λe d7=>
 ∃gN:Bool,∃bY:SV,∃kr:Bool,e=.returned (.tuple #[.agg #[.bool gN,bY.v],.bool kr])/\
 stA prog 67 (⟨cn,0,none⟩:Addr) #[.bool gN,bY.v] d7 λdU=>
 Br (!kr) (
 zQg p4 λwu=>
 ∃ku,dU.cell? (wu.add 0)=some (.int .i64 ku)/\
 ∃dA:SV,dU.cell? (wu.add 1)=some (dA.v)/\
 ∃dB:SV,dU.cell? (wu.add 2)=some (dB.v)/\
 zQg p2 λmK=>
 stA prog 35 mK #[.int .i64 ku,dA.v,dB.v] dU λfX=>
 zQb prog ds fX λiy=>
 zQg p2 λa28=>
 ∃ag,iy.cell? (a28.add 0)=some (.int .i64 ag)/\
 ∃ab:SV,iy.cell? (a28.add 1)=some (ab.v)/\
 ∃ae:SV,iy.cell? (a28.add 2)=some (ae.v)/\
 R (.returned (.tuple #[.agg #[.int .i64 ag,ab.v,ae.v],.bool false])) iy) (
 zQg p4 λrj=>
 ∃fC:SV,dU.cell? (rj.add 2)=some (fC.v)/\
 ∃gO,dU.cell? ((⟨cn,0,none⟩:Addr).add 0)=some (.bool gO)/\
 ∃bq:SV,dU.cell? ((⟨cn,0,none⟩:Addr).add 1)=some (bq.v)/\
 alE (.cells #[.bool gO,bq.v] 67) dU λri iK=>
 ∃fD:SV,∃il,(Builtin.append_ #[33,33] 33 #[fC.v,.slice (some ⟨ri,0,none⟩) 1 1]).run prog iK=.ok (fD.v) il/\
 zQg p4 λwi=>
 st1 (wi.add 2) (fD.v) il λgk=>
 J1 (IntKind.i64.wrap (kZ+1)) gk))) (
 xYc R p2 p4 ds w)
def xV9(R:Rt)(l0:SV)(p2 p4:Option Addr)(n6 n8 xt kZ:Int)(ds:Ds)(w:World):Prop:=
 zQA (λ(J1:(Int)->World->Prop) (s:Int) (w:World)=>xK0 R J1 l0 p2 p4 n6 n8 xt s ds w) kZ w
def xKG(R:Rt)(l0:SV)(p2 p4:Option Addr)(n6:Int)(ds:Ds)(w:World):Prop:=
 zQg p4 λsD=>
 ∃jN:SV,w.cell? (sD.add 1)=some (jN.v)/\
 Calls prog 141 #[jN.v] w λe jV=>
 ∃x7:Int,e=.returned (.int .i64 x7)/\
 Br (x7 != 0) (
 zQg p4 λqy=>
 ∃ux,jV.cell? (qy.add 0)=some (.int .i64 ux)/\
 ∃k7:SV,jV.cell? (qy.add 1)=some (k7.v)/\
 ∃k8:SV,jV.cell? (qy.add 2)=some (k8.v)/\
 zQg p2 λa37=>
 stA prog 35 a37 #[.int .i64 ux,k7.v,k8.v] jV λoP=>
 zQb prog ds oP λkI=>
 zQg p2 λsu=>
 ∃ag,kI.cell? (su.add 0)=some (.int .i64 ag)/\
 ∃ab:SV,kI.cell? (su.add 1)=some (ab.v)/\
 ∃ae:SV,kI.cell? (su.add 2)=some (ae.v)/\
 R (.returned (.tuple #[.agg #[.int .i64 ag,ab.v,ae.v],.bool false])) kI) (
 dwE jV λse=>
 zQg p4 λsv=>
 ∃mN:SV,se.cell? (sv.add 1)=some (mN.v)/\
 0<=(6:Int)/\(6:Int).toNat<=l0.cap/\0<=(2:Int)/\(2:Int).toNat<=(6:Int).toNat/\
 Calls prog 161 #[mN.v] se λe qO=>
 ∃sE:Int,e=.returned (.int .i64 sE)/\
 Calls prog 162 #[.slice (if l0.cap=(2:Int).toNat then l0.a else l0.a.map (λx=>x.add ((2:Int).toNat * 1))) ((6:Int).toNat - (2:Int).toNat) (l0.cap - (2:Int).toNat)] qO λe mL=>
 ∃n74:Int,e=.returned (.int .i64 n74)/\
 Br (decide (n74 > 300)) (
 zQg p4 λwj=>
 ∃nK,mL.cell? (wj.add 0)=some (.int .i64 nK)/\
 ∃fE:SV,mL.cell? (wj.add 1)=some (fE.v)/\
 ∃fF:SV,mL.cell? (wj.add 2)=some (fF.v)/\
 zQg p2 λa46=>
 stA prog 35 a46 #[.int .i64 nK,fE.v,fF.v] mL λyw=>
 zQb prog ds yw λmM=>
 zQg p2 λyx=>
 ∃ag,mM.cell? (yx.add 0)=some (.int .i64 ag)/\
 ∃ab:SV,mM.cell? (yx.add 1)=some (ab.v)/\
 ∃ae:SV,mM.cell? (yx.add 2)=some (ae.v)/\
 R (.returned (.tuple #[.agg #[.int .i64 ag,ab.v,ae.v],.bool false])) mM) (
 Br ((l0.len:Int) != (IntKind.i64.wrap ((IntKind.i64.wrap (n6+(IntKind.i64.wrap (sE * n74))))+1))) (
 zQg p4 λwk=>
 ∃nK,mL.cell? (wk.add 0)=some (.int .i64 nK)/\
 ∃fE:SV,mL.cell? (wk.add 1)=some (fE.v)/\
 ∃fF:SV,mL.cell? (wk.add 2)=some (fF.v)/\
 zQg p2 λa51=>
 stA prog 35 a51 #[.int .i64 nK,fE.v,fF.v] mL λw52=>
 zQb prog ds w52 λtq=>
 zQg p2 λyy=>
 ∃ag,tq.cell? (yy.add 0)=some (.int .i64 ag)/\
 ∃ab:SV,tq.cell? (yy.add 1)=some (ab.v)/\
 ∃ae:SV,tq.cell? (yy.add 2)=some (ae.v)/\
 R (.returned (.tuple #[.agg #[.int .i64 ag,ab.v,ae.v],.bool false])) tq) (
 xV9 R l0 p2 p4 n6 sE n74 0 ds mL)))
def xWS (R:Rt) (J1:(Int)->World->Prop) (l0:SV) (p2 p4:Option Addr) (n6 oD eF:Int) (ds:Ds) (w:World):Prop:=
 Br (decide (eF<oD)) (
 dwE w λsF=>
 ∃S3:World->Prop,S3 sF/\
 zQg p4 λyz=>
 ∃xu:SV,(∀w',S3 w'->w'.cell? (yz.add 1)=some (xu.v))/\
 ∃oY:SV,∃yb,(Instr.sliceAt 22 (l0.v) (some (.int .i64 (IntKind.i64.wrap ((12:Int)+(IntKind.i64.wrap ((16:Int) * eF)))))) (some (.int .i64 (IntKind.i64.wrap ((28:Int)+(IntKind.i64.wrap ((16:Int) * eF)))))) (some (.int .i64 (IntKind.i64.wrap ((28:Int)+(IntKind.i64.wrap ((16:Int) * eF))))))).run prog sF=.ok (oY.v) yb/\
 S3 yb/\
 Calls prog 160 #[oY.v] yb λe sb=>
 ∃uy:ByteArray,∃iC:Int,∃iD:Int,∃uz:Bool,e=.returned (.agg #[.string uy,.int .i64 iC,.int .i64 iD,.bool uz])/\
 S3 sb/\
 alE (.cells #[.string uy,.int .i64 iC,.int .i64 iD,.bool uz] 129) sb λr60 oQ=>
 S3 oQ/\
 ∃qd:SV,∃pj,(Builtin.append_ #[32,32] 32 #[xu.v,.slice (some ⟨r60,0,none⟩) 1 1]).run prog oQ=.ok (qd.v) pj/\
 zQg p4 λa61=>
 st1 (a61.add 1) (qd.v) pj λqP=>
 J1 (IntKind.i64.wrap (eF+1)) qP) (
 xKG R l0 p2 p4 n6 ds w)
def xWm(R:Rt)(l0:SV)(p2 p4:Option Addr)(n6 oD eF:Int)(ds:Ds)(w:World):Prop:=
 zQA (λ(J1:(Int)->World->Prop) (s:Int) (w:World)=>xWS R J1 l0 p2 p4 n6 oD s ds w) eF w
def xVE(R:Rt)(l0:SV)(ds:Ds)(w:World):Prop:=
 alE (.cells #[.int .i64 0,.slice none 0 0,.slice none 0 0] 35) w λr2 oE=>
 alE (.cells #[.int .i64 0,.slice none 0 0,.slice none 0 0] 35) oE λr4 oF=>
 Br (decide ((l0.len:Int)<14)) (
 ∃jO,oF.cell? ((⟨r4,0,none⟩:Addr).add 0)=some (.int .i64 jO)/\
 ∃bZ:SV,oF.cell? ((⟨r4,0,none⟩:Addr).add 1)=some (bZ.v)/\
 ∃cR:SV,oF.cell? ((⟨r4,0,none⟩:Addr).add 2)=some (cR.v)/\
 stA prog 35 (⟨r2,0,none⟩:Addr) #[.int .i64 jO,bZ.v,cR.v] oF λoR=>
 zQb prog ds oR λpk=>
 ∃ag,pk.cell? ((⟨r2,0,none⟩:Addr).add 0)=some (.int .i64 ag)/\
 ∃ab:SV,pk.cell? ((⟨r2,0,none⟩:Addr).add 1)=some (ab.v)/\
 ∃ae:SV,pk.cell? ((⟨r2,0,none⟩:Addr).add 2)=some (ae.v)/\
 R (.returned (.tuple #[.agg #[.int .i64 ag,ab.v,ae.v],.bool false])) pk) (
 ∃uA,l0.a=some uA/\0<=(0:Int)/\(0:Int)<(l0.len:Int)/\
 ∃jb,oF.cell? (uA.add ((0:Int).toNat * 1))=some (.int .u8 jb)/\
 Br (jb != 67) (
 ∃jO,oF.cell? ((⟨r4,0,none⟩:Addr).add 0)=some (.int .i64 jO)/\
 ∃bZ:SV,oF.cell? ((⟨r4,0,none⟩:Addr).add 1)=some (bZ.v)/\
 ∃cR:SV,oF.cell? ((⟨r4,0,none⟩:Addr).add 2)=some (cR.v)/\
 stA prog 35 (⟨r2,0,none⟩:Addr) #[.int .i64 jO,bZ.v,cR.v] oF λyc=>
 zQb prog ds yc λsw=>
 ∃ag,sw.cell? ((⟨r2,0,none⟩:Addr).add 0)=some (.int .i64 ag)/\
 ∃ab:SV,sw.cell? ((⟨r2,0,none⟩:Addr).add 1)=some (ab.v)/\
 ∃ae:SV,sw.cell? ((⟨r2,0,none⟩:Addr).add 2)=some (ae.v)/\
 R (.returned (.tuple #[.agg #[.int .i64 ag,ab.v,ae.v],.bool false])) sw) (
 ∃a70,l0.a=some a70/\0<=(1:Int)/\(1:Int)<(l0.len:Int)/\
 ∃ck,oF.cell? (a70.add ((1:Int).toNat * 1))=some (.int .u8 ck)/\
 st1 (⟨r4,0,none⟩:Addr) (.int .i64 (IntKind.i64.wrap ck)) oF λqz=>
 dwE qz λye=>
 ∃S4:World->Prop,S4 ye/\
 ∃a73,l0.a=some a73/\0<=(10:Int)/\(10:Int)<(l0.len:Int)/\
 ∃qT,(∀w',S4 w'->w'.cell? (a73.add ((10:Int).toNat * 1))=some (.int .u8 qT))/\
 ∃a74,l0.a=some a74/\0<=(10:Int)/\(10:Int)<(l0.len:Int)/\
 ∃rk,(∀w',S4 w'->w'.cell? (a74.add ((10:Int).toNat * 1))=some (.int .u8 rk))/\
 Calls prog 159 #[.int .i64 (IntKind.i64.wrap rk)] ye λe oS=>
 ∃i6:Int,e=.returned (.int .i64 i6)/\
 S4 oS/\
 Br (decide (i6 > (l0.len:Int))) (
 ∃nL,oS.cell? ((⟨r4,0,none⟩:Addr).add 0)=some (.int .i64 nL)/\
 ∃fG:SV,oS.cell? ((⟨r4,0,none⟩:Addr).add 1)=some (fG.v)/\
 ∃fH:SV,oS.cell? ((⟨r4,0,none⟩:Addr).add 2)=some (fH.v)/\
 stA prog 35 (⟨r2,0,none⟩:Addr) #[.int .i64 nL,fG.v,fH.v] oS λoJ=>
 zQb prog ds oJ λxv=>
 ∃ag,xv.cell? ((⟨r2,0,none⟩:Addr).add 0)=some (.int .i64 ag)/\
 ∃ab:SV,xv.cell? ((⟨r2,0,none⟩:Addr).add 1)=some (ab.v)/\
 ∃ae:SV,xv.cell? ((⟨r2,0,none⟩:Addr).add 2)=some (ae.v)/\
 R (.returned (.tuple #[.agg #[.int .i64 ag,ab.v,ae.v],.bool false])) xv) (
 xWm R l0 (some (⟨r2,0,none⟩:Addr)) (some (⟨r4,0,none⟩:Addr)) i6 (IntKind.i64.wrap qT) 0 ds oS)))
theorem F124_p:Pl prog f124 [lS 0] xVE:=λR=>
 pc 9 (rest [lS 0,pS 2,pS 4,iS 6,iS 42,iS 43] (xWm R) (bk 0 (rest [lS 0,pS 2,pS 4,iS 6] (xKG R) (pc 6 (rest [lS 0,pS 2,pS 4,iS 6,iS 8,iS 89,iS 90] (xV9 R) (bk 2 (rest [pS 2,pS 4] (xYc R) lf) (lp [iS 90] [lS 0,pS 2,pS 4,iS 6,iS 8,iS 89,iS 90] (xK0 R) zXH λJ1=>lf))))) (lp [iS 43] [lS 0,pS 2,pS 4,iS 6,iS 42,iS 43] (xWS R) zXH λJ1=>lf)))
theorem yVr (l0:SV) (w:World) (R:Rt) (h:xVE R l0 [] w):Calls prog 124 #[l0.v] w R:=
 plC F124_p func124 h
def xWO(R:Rt)(p2 p3:Option Addr)(ds:Ds)(w:World):Prop:=
 zQg p3 λa1=>
 ∃uB,w.cell? (a1.add 0)=some (.string uB)/\
 ∃nM,w.cell? (a1.add 1)=some (.int .i64 nM)/\
 ∃uC,w.cell? (a1.add 2)=some (.int .i64 uC)/\
 ∃uD,w.cell? (a1.add 3)=some (.bool uD)/\
 zQg p2 λa2=>
 stA prog 129 a2 #[.string uB,.int .i64 nM,.int .i64 uC,.bool uD] w λw3=>
 zQb prog ds w3 λw4=>
 zQg p2 λa5=>
 ∃uE,w4.cell? (a5.add 0)=some (.string uE)/\
 ∃aj,w4.cell? (a5.add 1)=some (.int .i64 aj)/\
 ∃uF,w4.cell? (a5.add 2)=some (.int .i64 uF)/\
 ∃uG,w4.cell? (a5.add 3)=some (.bool uG)/\
 R (.returned (.agg #[.string uE,.int .i64 aj,.int .i64 uF,.bool uG])) w4
def xYd (R:Rt) (J1:(Unit)->World->Prop) (l0:SV) (p2 p3 nN:Option Addr) (ds:Ds) (w:World):Prop:=
 (∃w6,(Instr.next (.pointer nN) false 0).run prog w=.ok (.tuple #[.bool false]) w6/\
 xWO R p2 p3 ds w6)∨(∃k21 v21:Value,∃w7,(Instr.next (.pointer nN) false 0).run prog w=.ok (.tuple #[.bool true,k21,v21]) w7/\
 ∃k23 v23:Value,∃w8,(Instr.entry (.pointer nN)).run prog w7=.ok (.tuple #[k23,v23]) w8/\
 yYa .i64 k23 λqc=>
 yYg v23 λq25=>
 dHd q25 λyA yB=>
 yYa .u8 yA λpr=>
 dHd yB λyC yD=>
 yYa .i64 yC λpv=>
 dHd yD λyE yF=>
 yYa .i64 yE λyG=>
 dHd yF λyH yI=>
 dHd yI λyJ yK=>
 xZm yK (
 alE (.cells #[.int .u8 0,.int .i64 0,.int .i64 0,.nilFunc,.nilFunc] 174) w8 λr5 w9=>
 stA prog 174 (⟨r5,0,none⟩:Addr) #[.int .u8 pr,.int .i64 pv,.int .i64 yG,yH,yJ] w9 λaO=>
 dwE aO λaR=>
 ∃gn,aR.cell? (⟨r5,0,none⟩:Addr)=some (.int .u8 gn)/\
 ∃kF,l0.a=some kF/\0<=(10:Int)/\(10:Int)<(l0.len:Int)/\
 ∃qT,aR.cell? (kF.add ((10:Int).toNat * 1))=some (.int .u8 qT)/\
 Br (gn == qT) (
 zQg p3 λkV=>
 st1 (kV.add 1) (.int .i64 qc) aR λbo=>
 J1 () bo) (
 J1 () aR)))
def yXL(R:Rt)(l0:SV)(p2 p3 nN:Option Addr)(ds:Ds)(w:World):Prop:=
 zQA (λ(J1:(Unit)->World->Prop) (_:Unit) (w:World)=>xYd R J1 l0 p2 p3 nN ds w) () w
def xK9(R:Rt)(l0:SV)(ds:Ds)(w:World):Prop:=
 alE (.cells #[.string (⟨#[]⟩:ByteArray),.int .i64 0,.int .i64 0,.bool false] 129) w λr2 bt=>
 dwE bt λbB=>
 ∃S2:World->Prop,S2 bB/\
 0<=(10:Int)/\(10:Int).toNat<=l0.cap/\0<=(10:Int).toNat/\
 ∃qY,l0.a=some qY/\0<=(11:Int)/\(11:Int)<(l0.len:Int)/\
 ∃dy,(∀w',S2 w'->w'.cell? (qY.add ((11:Int).toNat * 1))=some (.int .u8 dy))/\
 ∃jq,l0.a=some jq/\0<=(12:Int)/\(12:Int)<(l0.len:Int)/\
 ∃n16,(∀w',S2 w'->w'.cell? (jq.add ((12:Int).toNat * 1))=some (.int .u8 n16))/\
 (
 ∃s8:ByteArray,∃cE,(convert 22 9 (.slice (if l0.cap=0 then l0.a else l0.a.map (λx=>x.add (0 * 1))) ((10:Int).toNat - 0) (l0.cap - 0))).run prog bB=.ok (.string s8) cE/\
 S2 cE/\
 (
 Calls prog 119 #[.string s8,.string (⟨#[0]⟩:ByteArray)] cE λe bO=>
 ∃s9:ByteArray,e=.returned (.string s9)/\
 S2 bO/\
 alE (.cells #[.string (⟨#[]⟩:ByteArray),.int .i64 0,.int .i64 0,.bool false] 129) bO λr3 cq=>
 S2 cq/\
 stA prog 129 (⟨r3,0,none⟩:Addr) #[.string s9,.int .i64 0,.int .i64 (IntKind.i64.wrap dy),.bool (n16 == 1)] cq λd7=>
 Calls prog 145 #[] d7 λe dU=>
 ∃rm:Option Nat,e=.returned (.map rm)/\
 ∃nN:Option Addr,∃dD,(Instr.range 176 (.map rm)).run prog dU=.ok (.pointer nN) dD/\
 yXL R l0 (some (⟨r2,0,none⟩:Addr)) (some (⟨r3,0,none⟩:Addr)) nN ds dD)/\(
 alE (.cells #[.string (⟨#[]⟩:ByteArray),.int .i64 0,.int .i64 0,.bool false] 129) cE λr3 gy=>
 S2 gy/\
 Calls prog 119 #[.string s8,.string (⟨#[0]⟩:ByteArray)] gy λe fX=>
 ∃s9:ByteArray,e=.returned (.string s9)/\
 S2 fX/\
 stA prog 129 (⟨r3,0,none⟩:Addr) #[.string s9,.int .i64 0,.int .i64 (IntKind.i64.wrap dy),.bool (n16 == 1)] fX λiy=>
 Calls prog 145 #[] iy λe eg=>
 ∃rm:Option Nat,e=.returned (.map rm)/\
 ∃nN:Option Addr,∃gb,(Instr.range 176 (.map rm)).run prog eg=.ok (.pointer nN) gb/\
 yXL R l0 (some (⟨r2,0,none⟩:Addr)) (some (⟨r3,0,none⟩:Addr)) nN ds gb))/\(
 alE (.cells #[.string (⟨#[]⟩:ByteArray),.int .i64 0,.int .i64 0,.bool false] 129) bB λr3 iK=>
 S2 iK/\
 ∃s8:ByteArray,∃il,(convert 22 9 (.slice (if l0.cap=0 then l0.a else l0.a.map (λx=>x.add (0 * 1))) ((10:Int).toNat - 0) (l0.cap - 0))).run prog iK=.ok (.string s8) il/\
 S2 il/\
 Calls prog 119 #[.string s8,.string (⟨#[0]⟩:ByteArray)] il λe gz=>
 ∃s9:ByteArray,e=.returned (.string s9)/\
 S2 gz/\
 stA prog 129 (⟨r3,0,none⟩:Addr) #[.string s9,.int .i64 0,.int .i64 (IntKind.i64.wrap dy),.bool (n16 == 1)] gz λgk=>
 Calls prog 145 #[] gk λe gd=>
 ∃rm:Option Nat,e=.returned (.map rm)/\
 ∃nN:Option Addr,∃jV,(Instr.range 176 (.map rm)).run prog gd=.ok (.pointer nN) jV/\
 yXL R l0 (some (⟨r2,0,none⟩:Addr)) (some (⟨r3,0,none⟩:Addr)) nN ds jV)
theorem F160_p:Pl prog f160 [lS 0] xK9:=λR=>
 pc 3 (rest [lS 0,pS 2,pS 3,pS 20] (yXL R) (bk 0 (rest [pS 2,pS 3] (xWO R) lf) (lp [] [lS 0,pS 2,pS 3,pS 20] (xYd R) zXH λJ1=>lf)))
theorem yV2 (l0:SV) (w:World) (R:Rt) (h:xK9 R l0 [] w):Calls prog 160 #[l0.v] w R:=
 plC F160_p func160 h
def xVQ(R:Rt)(n3:Int)(ds:Ds)(w:World):Prop:=
 zQb prog ds w λw1=>
 R (.returned (.int .i64 n3)) w1
def xW4 (R:Rt) (J1:(Int × Int)->World->Prop) (l0:SV) (n3 n4:Int) (ds:Ds) (w:World):Prop:=
 Br (decide (n4 >= 0)) (
 0<=(8:Int)/\
 ∃a2,l0.a=some a2/\0<=n4/\n4<(l0.len:Int)/\
 ∃m4,w.cell? (a2.add (n4.toNat * 1))=some (.int .u8 m4)/\
 J1 ((IntKind.i64.wrap ((BitVec.ofInt 64 (IntKind.i64.wrap (n3 * 2 ^ 8)) ||| BitVec.ofInt 64 (IntKind.i64.wrap m4)).toNat:Nat)),(IntKind.i64.wrap (n4 - 1))) w) (
 xVQ R n3 ds w)
def xKf(R:Rt)(l0:SV)(n3 n4:Int)(ds:Ds)(w:World):Prop:=
 zQA (λ(J1:(Int × Int)->World->Prop) (s:Int × Int) (w:World)=>xW4 R J1 l0 s.1 s.2 ds w) (n3,n4) w
def yYu(R:Rt)(l0:SV)(ds:Ds)(w:World):Prop:=
 xKf R l0 0 (IntKind.i64.wrap ((l0.len:Int) - 1)) ds w
theorem F162_p:Pl prog f162 [lS 0] yYu:=λR=>
 pc 3 (rest [lS 0,iS 3,iS 4] (xKf R) (bk 0 (rest [iS 3] (xVQ R) lf) (lp [iS 3,iS 4] [lS 0,iS 3,iS 4] (xW4 R) zXH λJ1=>lf)))
theorem yWo (l0:SV) (w:World) (R:Rt) (h:yYu R l0 [] w):Calls prog 162 #[l0.v] w R:=
 plC F162_p func162 h
def xVG(R:Rt)(p4 p6:Option Addr)(b9:Bool)(ds:Ds)(w:World):Prop:=
 zQg p6 λa1=>
 ∃uH,w.cell? (a1.add 0)=some (.bool uH)/\
 ∃k9:SV,w.cell? (a1.add 1)=some (k9.v)/\
 zQg p4 λa2=>
 stA prog 67 a2 #[.bool uH,k9.v] w λw3=>
 zQb prog ds w3 λw4=>
 zQg p4 λa5=>
 ∃bL,w4.cell? (a5.add 0)=some (.bool bL)/\
 ∃ab:SV,w4.cell? (a5.add 1)=some (ab.v)/\
 R (.returned (.tuple #[.agg #[.bool bL,ab.v],.bool b9])) w4
def zQY (R:Rt) (J1:(Int × Int × Bool × Int)->World->Prop) (l1:SV) (p4 p6:Option Addr) (n7 n8:Int) (b9:Bool) (bU:SV) (ck cr:Int) (ds:Ds) (w:World):Prop:=
 J1 (n7,n8,b9,(IntKind.i64.wrap (cr+1))) w
def xVN (R:Rt) (J1:(Int × Int × Bool × Int)->World->Prop) (l1:SV) (p4 p6:Option Addr) (n7 n8:Int) (b9:Bool) (bU:SV) (ck cr:Int) (ds:Ds) (w:World):Prop:=
 ∃a6,bU.a=some a6/\0<=cr/\cr<(bU.len:Int)/\
 ∃uI,w.cell? ((a6.add (cr.toNat * 4)).add 0)=some (.string uI)/\
 ∃jJ,w.cell? ((a6.add (cr.toNat * 4)).add 1)=some (.int .i64 jJ)/\
 ∃uJ,w.cell? ((a6.add (cr.toNat * 4)).add 2)=some (.int .i64 uJ)/\
 ∃nO,w.cell? ((a6.add (cr.toNat * 4)).add 3)=some (.bool nO)/\
 alE (.cells #[.string (⟨#[]⟩:ByteArray),.int .i64 0,.int .i64 0,.bool false] 129) w λcn w7=>
 stA prog 129 (⟨cn,0,none⟩:Addr) #[.string uI,.int .i64 jJ,.int .i64 uJ,.bool nO] w7 λw8=>
 ∃rk,w8.cell? ((⟨cn,0,none⟩:Addr).add 2)=some (.int .i64 rk)/\
 ∃sd,w8.cell? ((⟨cn,0,none⟩:Addr).add 2)=some (.int .i64 sd)/\
 ∃bH:SV,∃w9,(Instr.sliceAt 22 (l1.v) (some (.int .i64 n7)) (some (.int .i64 (IntKind.i64.wrap (n7+rk)))) (some (.int .i64 (IntKind.i64.wrap (n7+sd))))).run prog w8=.ok (bH.v) w9/\
 ∃eF,w9.cell? ((⟨cn,0,none⟩:Addr).add 2)=some (.int .i64 eF)/\
 ∃b46,w9.cell? ((⟨cn,0,none⟩:Addr).add 3)=some (.bool b46)/\
 Br b46 (
 IntKind.i64=IntKind.i64/\(8:Int) ≠ 0/\
 ∃eE,l1.a=some eE/\0<=(IntKind.i64.wrap ((1:Int)+(IntKind.i64.wrap (n8.tdiv 8))))/\(IntKind.i64.wrap ((1:Int)+(IntKind.i64.wrap (n8.tdiv 8))))<(l1.len:Int)/\
 ∃qx,w9.cell? (eE.add ((IntKind.i64.wrap ((1:Int)+(IntKind.i64.wrap (n8.tdiv 8)))).toNat * 1))=some (.int .u8 qx)/\
 IntKind.i64=IntKind.i64/\(8:Int) ≠ 0/\
 0<=(n8.tmod 8)/\
 Br ((IntKind.u8.wrap ((BitVec.ofInt 8 (qx.fdiv (2 ^ (min (n8.tmod 8).toNat 8))) &&& BitVec.ofInt 8 1).toNat:Nat)) == 1) (
 zQg p6 λdV=>
 ∃jK:SV,w9.cell? (dV.add 1)=some (jK.v)/\
 alE (.cells #[.int .i64 0,.int .i64 0,.string (⟨#[]⟩:ByteArray)] 73) w9 λr64 aM=>
 ∃jN:SV,∃aH,(Builtin.append_ #[38,38] 38 #[jK.v,.slice (some ⟨r64,0,none⟩) 1 1]).run prog aM=.ok (jN.v) aH/\
 zQg p6 λga=>
 st1 (ga.add 1) (jN.v) aH λbt=>
 zQY R J1 l1 p4 p6 (IntKind.i64.wrap (n7+eF)) (IntKind.i64.wrap (n8+1)) b9 bU ck cr ds bt) (
 dwE w9 λbB=>
 ∃S1:World->Prop,S1 bB/\
 ∃kv,(∀w',S1 w'->w'.cell? ((⟨cn,0,none⟩:Addr).add 1)=some (.int .i64 kv))/\
 (
 Calls prog 145 #[] bB λe bG=>
 ∃eX:Option Nat,e=.returned (.map eX)/\
 ∃S2:World->Prop,S2 bG/\(∀u,S2 u->S1 u)/\
 ∃bE:Int,∃bF:Int,∃bM:Int,∃bN:Value,∃aT:Value,(∀w',S2 w'->(Instr.lookup 176 (.map eX) (.int .i64 kv) false).run prog w'=.ok (.agg #[.int .u8 bE,.int .i64 bF,.int .i64 bM,bN,aT]) w')/\
 (
 ∃dK:ByteArray,∃bI,(convert 22 9 (bH.v)).run prog bG=.ok (.string dK) bI/\
 ∃S3:World->Prop,S3 bI/\(∀u,S3 u->S2 u)/\
 (
 fnE aT λf75 first75 aZ=>
 zQ5 prog f75=true/\Calls prog f75 (first75.toList ++ (([.string dK]:List Value) ++ aZ.toList)).toArray bI λe cE=>
 ∃am:Int,∃ao:Int,∃ap:ByteArray,∃aG:Bool,e=.returned (.tuple #[.agg #[.int .i64 am,.int .i64 ao,.string ap],.bool aG])/\
 alE (.cells #[.int .i64 0,.int .i64 0,.string (⟨#[]⟩:ByteArray)] 73) cE λaL bO=>
 stA prog 73 (⟨aL,0,none⟩:Addr) #[.int .i64 am,.int .i64 ao,.string ap] bO λcq=>
 Br b9 (
 zQg p6 λoN=>
 ∃aD:SV,cq.cell? (oN.add 1)=some (aD.v)/\
 ∃az,cq.cell? ((⟨aL,0,none⟩:Addr).add 0)=some (.int .i64 az)/\
 ∃aA,cq.cell? ((⟨aL,0,none⟩:Addr).add 1)=some (.int .i64 aA)/\
 ∃aB,cq.cell? ((⟨aL,0,none⟩:Addr).add 2)=some (.string aB)/\
 alE (.cells #[.int .i64 az,.int .i64 aA,.string aB] 73) cq λcv dU=>
 ∃aE:SV,∃dD,(Builtin.append_ #[38,38] 38 #[aD.v,.slice (some ⟨cv,0,none⟩) 1 1]).run prog dU=.ok (aE.v) dD/\
 zQg p6 λmK=>
 st1 (mK.add 1) (aE.v) dD λfX=>
 zQY R J1 l1 p4 p6 (IntKind.i64.wrap (n7+eF)) (IntKind.i64.wrap (n8+1)) aG bU ck cr ds fX) (
 zQg p6 λa27=>
 ∃aD:SV,cq.cell? (a27.add 1)=some (aD.v)/\
 ∃az,cq.cell? ((⟨aL,0,none⟩:Addr).add 0)=some (.int .i64 az)/\
 ∃aA,cq.cell? ((⟨aL,0,none⟩:Addr).add 1)=some (.int .i64 aA)/\
 ∃aB,cq.cell? ((⟨aL,0,none⟩:Addr).add 2)=some (.string aB)/\
 alE (.cells #[.int .i64 az,.int .i64 aA,.string aB] 73) cq λcv eg=>
 ∃aE:SV,∃gb,(Builtin.append_ #[38,38] 38 #[aD.v,.slice (some ⟨cv,0,none⟩) 1 1]).run prog eg=.ok (aE.v) gb/\
 zQg p6 λoO=>
 st1 (oO.add 1) (aE.v) gb λil=>
 zQY R J1 l1 p4 p6 (IntKind.i64.wrap (n7+eF)) (IntKind.i64.wrap (n8+1)) false bU ck cr ds il))/\(
 alE (.cells #[.int .i64 0,.int .i64 0,.string (⟨#[]⟩:ByteArray)] 73) bI λaL gz=>
 ∃S4:World->Prop,S4 gz/\(∀u,S4 u->S3 u)/\
 fnE aT λf75 first75 aZ=>
 zQ5 prog f75=true/\Calls prog f75 (first75.toList ++ (([.string dK]:List Value) ++ aZ.toList)).toArray gz λe gk=>
 ∃am:Int,∃ao:Int,∃ap:ByteArray,∃aG:Bool,e=.returned (.tuple #[.agg #[.int .i64 am,.int .i64 ao,.string ap],.bool aG])/\
 stA prog 73 (⟨aL,0,none⟩:Addr) #[.int .i64 am,.int .i64 ao,.string ap] gk λgd=>
 Br b9 (
 zQg p6 λss=>
 ∃aD:SV,gd.cell? (ss.add 1)=some (aD.v)/\
 ∃az,gd.cell? ((⟨aL,0,none⟩:Addr).add 0)=some (.int .i64 az)/\
 ∃aA,gd.cell? ((⟨aL,0,none⟩:Addr).add 1)=some (.int .i64 aA)/\
 ∃aB,gd.cell? ((⟨aL,0,none⟩:Addr).add 2)=some (.string aB)/\
 alE (.cells #[.int .i64 az,.int .i64 aA,.string aB] 73) gd λcv sA=>
 ∃aE:SV,∃oT,(Builtin.append_ #[38,38] 38 #[aD.v,.slice (some ⟨cv,0,none⟩) 1 1]).run prog sA=.ok (aE.v) oT/\
 zQg p6 λa38=>
 st1 (a38.add 1) (aE.v) oT λkI=>
 zQY R J1 l1 p4 p6 (IntKind.i64.wrap (n7+eF)) (IntKind.i64.wrap (n8+1)) aG bU ck cr ds kI) (
 zQg p6 λsu=>
 ∃aD:SV,gd.cell? (su.add 1)=some (aD.v)/\
 ∃az,gd.cell? ((⟨aL,0,none⟩:Addr).add 0)=some (.int .i64 az)/\
 ∃aA,gd.cell? ((⟨aL,0,none⟩:Addr).add 1)=some (.int .i64 aA)/\
 ∃aB,gd.cell? ((⟨aL,0,none⟩:Addr).add 2)=some (.string aB)/\
 alE (.cells #[.int .i64 az,.int .i64 aA,.string aB] 73) gd λcv se=>
 ∃aE:SV,∃yt,(Builtin.append_ #[38,38] 38 #[aD.v,.slice (some ⟨cv,0,none⟩) 1 1]).run prog se=.ok (aE.v) yt/\
 zQg p6 λa43=>
 st1 (a43.add 1) (aE.v) yt λmL=>
 zQY R J1 l1 p4 p6 (IntKind.i64.wrap (n7+eF)) (IntKind.i64.wrap (n8+1)) false bU ck cr ds mL)))/\(
 alE (.cells #[.int .i64 0,.int .i64 0,.string (⟨#[]⟩:ByteArray)] 73) bG λaL wA=>
 ∃S5:World->Prop,S5 wA/\(∀u,S5 u->S2 u)/\
 ∃dK:ByteArray,∃gT,(convert 22 9 (bH.v)).run prog wA=.ok (.string dK) gT/\
 ∃S6:World->Prop,S6 gT/\(∀u,S6 u->S5 u)/\
 fnE aT λf75 first75 aZ=>
 zQ5 prog f75=true/\Calls prog f75 (first75.toList ++ (([.string dK]:List Value) ++ aZ.toList)).toArray gT λe yw=>
 ∃am:Int,∃ao:Int,∃ap:ByteArray,∃aG:Bool,e=.returned (.tuple #[.agg #[.int .i64 am,.int .i64 ao,.string ap],.bool aG])/\
 stA prog 73 (⟨aL,0,none⟩:Addr) #[.int .i64 am,.int .i64 ao,.string ap] yw λmM=>
 Br b9 (
 zQg p6 λyx=>
 ∃aD:SV,mM.cell? (yx.add 1)=some (aD.v)/\
 ∃az,mM.cell? ((⟨aL,0,none⟩:Addr).add 0)=some (.int .i64 az)/\
 ∃aA,mM.cell? ((⟨aL,0,none⟩:Addr).add 1)=some (.int .i64 aA)/\
 ∃aB,mM.cell? ((⟨aL,0,none⟩:Addr).add 2)=some (.string aB)/\
 alE (.cells #[.int .i64 az,.int .i64 aA,.string aB] 73) mM λcv xy=>
 ∃aE:SV,∃w51,(Builtin.append_ #[38,38] 38 #[aD.v,.slice (some ⟨cv,0,none⟩) 1 1]).run prog xy=.ok (aE.v) w51/\
 zQg p6 λwm=>
 st1 (wm.add 1) (aE.v) w51 λtq=>
 zQY R J1 l1 p4 p6 (IntKind.i64.wrap (n7+eF)) (IntKind.i64.wrap (n8+1)) aG bU ck cr ds tq) (
 zQg p6 λyy=>
 ∃aD:SV,mM.cell? (yy.add 1)=some (aD.v)/\
 ∃az,mM.cell? ((⟨aL,0,none⟩:Addr).add 0)=some (.int .i64 az)/\
 ∃aA,mM.cell? ((⟨aL,0,none⟩:Addr).add 1)=some (.int .i64 aA)/\
 ∃aB,mM.cell? ((⟨aL,0,none⟩:Addr).add 2)=some (.string aB)/\
 alE (.cells #[.int .i64 az,.int .i64 aA,.string aB] 73) mM λcv sF=>
 ∃aE:SV,∃w56,(Builtin.append_ #[38,38] 38 #[aD.v,.slice (some ⟨cv,0,none⟩) 1 1]).run prog sF=.ok (aE.v) w56/\
 zQg p6 λa57=>
 st1 (a57.add 1) (aE.v) w56 λsb=>
 zQY R J1 l1 p4 p6 (IntKind.i64.wrap (n7+eF)) (IntKind.i64.wrap (n8+1)) false bU ck cr ds sb)))/\(
 (
 ∃dK:ByteArray,∃oQ,(convert 22 9 (bH.v)).run prog bB=.ok (.string dK) oQ/\
 ∃S7:World->Prop,S7 oQ/\(∀u,S7 u->S1 u)/\
 (
 Calls prog 145 #[] oQ λe pj=>
 ∃eX:Option Nat,e=.returned (.map eX)/\
 ∃S8:World->Prop,S8 pj/\(∀u,S8 u->S7 u)/\
 ∃bE:Int,∃bF:Int,∃bM:Int,∃bN:Value,∃aT:Value,(∀w',S8 w'->(Instr.lookup 176 (.map eX) (.int .i64 kv) false).run prog w'=.ok (.agg #[.int .u8 bE,.int .i64 bF,.int .i64 bM,bN,aT]) w')/\
 (
 fnE aT λf75 first75 aZ=>
 zQ5 prog f75=true/\Calls prog f75 (first75.toList ++ (([.string dK]:List Value) ++ aZ.toList)).toArray pj λe pZ=>
 ∃am:Int,∃ao:Int,∃ap:ByteArray,∃aG:Bool,e=.returned (.tuple #[.agg #[.int .i64 am,.int .i64 ao,.string ap],.bool aG])/\
 alE (.cells #[.int .i64 0,.int .i64 0,.string (⟨#[]⟩:ByteArray)] 73) pZ λaL qP=>
 stA prog 73 (⟨aL,0,none⟩:Addr) #[.int .i64 am,.int .i64 ao,.string ap] qP λoE=>
 Br b9 (
 zQg p6 λa64=>
 ∃aD:SV,oE.cell? (a64.add 1)=some (aD.v)/\
 ∃az,oE.cell? ((⟨aL,0,none⟩:Addr).add 0)=some (.int .i64 az)/\
 ∃aA,oE.cell? ((⟨aL,0,none⟩:Addr).add 1)=some (.int .i64 aA)/\
 ∃aB,oE.cell? ((⟨aL,0,none⟩:Addr).add 2)=some (.string aB)/\
 alE (.cells #[.int .i64 az,.int .i64 aA,.string aB] 73) oE λcv oR=>
 ∃aE:SV,∃pk,(Builtin.append_ #[38,38] 38 #[aD.v,.slice (some ⟨cv,0,none⟩) 1 1]).run prog oR=.ok (aE.v) pk/\
 zQg p6 λuA=>
 st1 (uA.add 1) (aE.v) pk λyc=>
 zQY R J1 l1 p4 p6 (IntKind.i64.wrap (n7+eF)) (IntKind.i64.wrap (n8+1)) aG bU ck cr ds yc) (
 zQg p6 λa69=>
 ∃aD:SV,oE.cell? (a69.add 1)=some (aD.v)/\
 ∃az,oE.cell? ((⟨aL,0,none⟩:Addr).add 0)=some (.int .i64 az)/\
 ∃aA,oE.cell? ((⟨aL,0,none⟩:Addr).add 1)=some (.int .i64 aA)/\
 ∃aB,oE.cell? ((⟨aL,0,none⟩:Addr).add 2)=some (.string aB)/\
 alE (.cells #[.int .i64 az,.int .i64 aA,.string aB] 73) oE λcv yd=>
 ∃aE:SV,∃qz,(Builtin.append_ #[38,38] 38 #[aD.v,.slice (some ⟨cv,0,none⟩) 1 1]).run prog yd=.ok (aE.v) qz/\
 zQg p6 λa72=>
 st1 (a72.add 1) (aE.v) qz λtx=>
 zQY R J1 l1 p4 p6 (IntKind.i64.wrap (n7+eF)) (IntKind.i64.wrap (n8+1)) false bU ck cr ds tx))/\(
 alE (.cells #[.int .i64 0,.int .i64 0,.string (⟨#[]⟩:ByteArray)] 73) pj λaL wq=>
 ∃S9:World->Prop,S9 wq/\(∀u,S9 u->S8 u)/\
 fnE aT λf75 first75 aZ=>
 zQ5 prog f75=true/\Calls prog f75 (first75.toList ++ (([.string dK]:List Value) ++ aZ.toList)).toArray wq λe oS=>
 ∃am:Int,∃ao:Int,∃ap:ByteArray,∃aG:Bool,e=.returned (.tuple #[.agg #[.int .i64 am,.int .i64 ao,.string ap],.bool aG])/\
 stA prog 73 (⟨aL,0,none⟩:Addr) #[.int .i64 am,.int .i64 ao,.string ap] oS λoJ=>
 Br b9 (
 zQg p6 λa77=>
 ∃aD:SV,oJ.cell? (a77.add 1)=some (aD.v)/\
 ∃az,oJ.cell? ((⟨aL,0,none⟩:Addr).add 0)=some (.int .i64 az)/\
 ∃aA,oJ.cell? ((⟨aL,0,none⟩:Addr).add 1)=some (.int .i64 aA)/\
 ∃aB,oJ.cell? ((⟨aL,0,none⟩:Addr).add 2)=some (.string aB)/\
 alE (.cells #[.int .i64 az,.int .i64 aA,.string aB] 73) oJ λcv w78=>
 ∃aE:SV,∃qD,(Builtin.append_ #[38,38] 38 #[aD.v,.slice (some ⟨cv,0,none⟩) 1 1]).run prog w78=.ok (aE.v) qD/\
 zQg p6 λa80=>
 st1 (a80.add 1) (aE.v) qD λxz=>
 zQY R J1 l1 p4 p6 (IntKind.i64.wrap (n7+eF)) (IntKind.i64.wrap (n8+1)) aG bU ck cr ds xz) (
 zQg p6 λa82=>
 ∃aD:SV,oJ.cell? (a82.add 1)=some (aD.v)/\
 ∃az,oJ.cell? ((⟨aL,0,none⟩:Addr).add 0)=some (.int .i64 az)/\
 ∃aA,oJ.cell? ((⟨aL,0,none⟩:Addr).add 1)=some (.int .i64 aA)/\
 ∃aB,oJ.cell? ((⟨aL,0,none⟩:Addr).add 2)=some (.string aB)/\
 alE (.cells #[.int .i64 az,.int .i64 aA,.string aB] 73) oJ λcv xA=>
 ∃aE:SV,∃w84,(Builtin.append_ #[38,38] 38 #[aD.v,.slice (some ⟨cv,0,none⟩) 1 1]).run prog xA=.ok (aE.v) w84/\
 zQg p6 λa85=>
 st1 (a85.add 1) (aE.v) w84 λw86=>
 zQY R J1 l1 p4 p6 (IntKind.i64.wrap (n7+eF)) (IntKind.i64.wrap (n8+1)) false bU ck cr ds w86)))/\(
 alE (.cells #[.int .i64 0,.int .i64 0,.string (⟨#[]⟩:ByteArray)] 73) oQ λaL yL=>
 ∃S10:World->Prop,S10 yL/\(∀u,S10 u->S7 u)/\
 Calls prog 145 #[] yL λe yM=>
 ∃eX:Option Nat,e=.returned (.map eX)/\
 ∃S11:World->Prop,S11 yM/\(∀u,S11 u->S10 u)/\
 ∃bE:Int,∃bF:Int,∃bM:Int,∃bN:Value,∃aT:Value,(∀w',S11 w'->(Instr.lookup 176 (.map eX) (.int .i64 kv) false).run prog w'=.ok (.agg #[.int .u8 bE,.int .i64 bF,.int .i64 bM,bN,aT]) w')/\
 fnE aT λf75 first75 aZ=>
 zQ5 prog f75=true/\Calls prog f75 (first75.toList ++ (([.string dK]:List Value) ++ aZ.toList)).toArray yM λe w89=>
 ∃am:Int,∃ao:Int,∃ap:ByteArray,∃aG:Bool,e=.returned (.tuple #[.agg #[.int .i64 am,.int .i64 ao,.string ap],.bool aG])/\
 stA prog 73 (⟨aL,0,none⟩:Addr) #[.int .i64 am,.int .i64 ao,.string ap] w89 λqE=>
 Br b9 (
 zQg p6 λa91=>
 ∃aD:SV,qE.cell? (a91.add 1)=some (aD.v)/\
 ∃az,qE.cell? ((⟨aL,0,none⟩:Addr).add 0)=some (.int .i64 az)/\
 ∃aA,qE.cell? ((⟨aL,0,none⟩:Addr).add 1)=some (.int .i64 aA)/\
 ∃aB,qE.cell? ((⟨aL,0,none⟩:Addr).add 2)=some (.string aB)/\
 alE (.cells #[.int .i64 az,.int .i64 aA,.string aB] 73) qE λcv w92=>
 ∃aE:SV,∃w93,(Builtin.append_ #[38,38] 38 #[aD.v,.slice (some ⟨cv,0,none⟩) 1 1]).run prog w92=.ok (aE.v) w93/\
 zQg p6 λa94=>
 st1 (a94.add 1) (aE.v) w93 λw95=>
 zQY R J1 l1 p4 p6 (IntKind.i64.wrap (n7+eF)) (IntKind.i64.wrap (n8+1)) aG bU ck cr ds w95) (
 zQg p6 λa96=>
 ∃aD:SV,qE.cell? (a96.add 1)=some (aD.v)/\
 ∃az,qE.cell? ((⟨aL,0,none⟩:Addr).add 0)=some (.int .i64 az)/\
 ∃aA,qE.cell? ((⟨aL,0,none⟩:Addr).add 1)=some (.int .i64 aA)/\
 ∃aB,qE.cell? ((⟨aL,0,none⟩:Addr).add 2)=some (.string aB)/\
 alE (.cells #[.int .i64 az,.int .i64 aA,.string aB] 73) qE λcv w97=>
 ∃aE:SV,∃w98,(Builtin.append_ #[38,38] 38 #[aD.v,.slice (some ⟨cv,0,none⟩) 1 1]).run prog w97=.ok (aE.v) w98/\
 zQg p6 λa99=>
 st1 (a99.add 1) (aE.v) w98 λw100=>
 zQY R J1 l1 p4 p6 (IntKind.i64.wrap (n7+eF)) (IntKind.i64.wrap (n8+1)) false bU ck cr ds w100)))/\(
 alE (.cells #[.int .i64 0,.int .i64 0,.string (⟨#[]⟩:ByteArray)] 73) bB λaL oZ=>
 ∃S12:World->Prop,S12 oZ/\(∀u,S12 u->S1 u)/\
 (
 Calls prog 145 #[] oZ λe ro=>
 ∃eX:Option Nat,e=.returned (.map eX)/\
 ∃S13:World->Prop,S13 ro/\(∀u,S13 u->S12 u)/\
 ∃bE:Int,∃bF:Int,∃bM:Int,∃bN:Value,∃aT:Value,(∀w',S13 w'->(Instr.lookup 176 (.map eX) (.int .i64 kv) false).run prog w'=.ok (.agg #[.int .u8 bE,.int .i64 bF,.int .i64 bM,bN,aT]) w')/\
 ∃dK:ByteArray,∃o0,(convert 22 9 (bH.v)).run prog ro=.ok (.string dK) o0/\
 ∃S14:World->Prop,S14 o0/\(∀u,S14 u->S13 u)/\
 fnE aT λf75 first75 aZ=>
 zQ5 prog f75=true/\Calls prog f75 (first75.toList ++ (([.string dK]:List Value) ++ aZ.toList)).toArray o0 λe wB=>
 ∃am:Int,∃ao:Int,∃ap:ByteArray,∃aG:Bool,e=.returned (.tuple #[.agg #[.int .i64 am,.int .i64 ao,.string ap],.bool aG])/\
 stA prog 73 (⟨aL,0,none⟩:Addr) #[.int .i64 am,.int .i64 ao,.string ap] wB λjY=>
 Br b9 (
 zQg p6 λa106=>
 ∃aD:SV,jY.cell? (a106.add 1)=some (aD.v)/\
 ∃az,jY.cell? ((⟨aL,0,none⟩:Addr).add 0)=some (.int .i64 az)/\
 ∃aA,jY.cell? ((⟨aL,0,none⟩:Addr).add 1)=some (.int .i64 aA)/\
 ∃aB,jY.cell? ((⟨aL,0,none⟩:Addr).add 2)=some (.string aB)/\
 alE (.cells #[.int .i64 az,.int .i64 aA,.string aB] 73) jY λcv w107=>
 ∃aE:SV,∃yN,(Builtin.append_ #[38,38] 38 #[aD.v,.slice (some ⟨cv,0,none⟩) 1 1]).run prog w107=.ok (aE.v) yN/\
 zQg p6 λa109=>
 st1 (a109.add 1) (aE.v) yN λw110=>
 zQY R J1 l1 p4 p6 (IntKind.i64.wrap (n7+eF)) (IntKind.i64.wrap (n8+1)) aG bU ck cr ds w110) (
 zQg p6 λa111=>
 ∃aD:SV,jY.cell? (a111.add 1)=some (aD.v)/\
 ∃az,jY.cell? ((⟨aL,0,none⟩:Addr).add 0)=some (.int .i64 az)/\
 ∃aA,jY.cell? ((⟨aL,0,none⟩:Addr).add 1)=some (.int .i64 aA)/\
 ∃aB,jY.cell? ((⟨aL,0,none⟩:Addr).add 2)=some (.string aB)/\
 alE (.cells #[.int .i64 az,.int .i64 aA,.string aB] 73) jY λcv w112=>
 ∃aE:SV,∃yO,(Builtin.append_ #[38,38] 38 #[aD.v,.slice (some ⟨cv,0,none⟩) 1 1]).run prog w112=.ok (aE.v) yO/\
 zQg p6 λa114=>
 st1 (a114.add 1) (aE.v) yO λw115=>
 zQY R J1 l1 p4 p6 (IntKind.i64.wrap (n7+eF)) (IntKind.i64.wrap (n8+1)) false bU ck cr ds w115))/\(
 ∃dK:ByteArray,∃o1,(convert 22 9 (bH.v)).run prog oZ=.ok (.string dK) o1/\
 ∃S15:World->Prop,S15 o1/\(∀u,S15 u->S12 u)/\
 Calls prog 145 #[] o1 λe rp=>
 ∃eX:Option Nat,e=.returned (.map eX)/\
 ∃S16:World->Prop,S16 rp/\(∀u,S16 u->S15 u)/\
 ∃bE:Int,∃bF:Int,∃bM:Int,∃bN:Value,∃aT:Value,(∀w',S16 w'->(Instr.lookup 176 (.map eX) (.int .i64 kv) false).run prog w'=.ok (.agg #[.int .u8 bE,.int .i64 bF,.int .i64 bM,bN,aT]) w')/\
 fnE aT λf75 first75 aZ=>
 zQ5 prog f75=true/\Calls prog f75 (first75.toList ++ (([.string dK]:List Value) ++ aZ.toList)).toArray rp λe wC=>
 ∃am:Int,∃ao:Int,∃ap:ByteArray,∃aG:Bool,e=.returned (.tuple #[.agg #[.int .i64 am,.int .i64 ao,.string ap],.bool aG])/\
 stA prog 73 (⟨aL,0,none⟩:Addr) #[.int .i64 am,.int .i64 ao,.string ap] wC λjZ=>
 Br b9 (
 zQg p6 λa120=>
 ∃aD:SV,jZ.cell? (a120.add 1)=some (aD.v)/\
 ∃az,jZ.cell? ((⟨aL,0,none⟩:Addr).add 0)=some (.int .i64 az)/\
 ∃aA,jZ.cell? ((⟨aL,0,none⟩:Addr).add 1)=some (.int .i64 aA)/\
 ∃aB,jZ.cell? ((⟨aL,0,none⟩:Addr).add 2)=some (.string aB)/\
 alE (.cells #[.int .i64 az,.int .i64 aA,.string aB] 73) jZ λcv w121=>
 ∃aE:SV,∃yP,(Builtin.append_ #[38,38] 38 #[aD.v,.slice (some ⟨cv,0,none⟩) 1 1]).run prog w121=.ok (aE.v) yP/\
 zQg p6 λa123=>
 st1 (a123.add 1) (aE.v) yP λw124=>
 zQY R J1 l1 p4 p6 (IntKind.i64.wrap (n7+eF)) (IntKind.i64.wrap (n8+1)) aG bU ck cr ds w124) (
 zQg p6 λa125=>
 ∃aD:SV,jZ.cell? (a125.add 1)=some (aD.v)/\
 ∃az,jZ.cell? ((⟨aL,0,none⟩:Addr).add 0)=some (.int .i64 az)/\
 ∃aA,jZ.cell? ((⟨aL,0,none⟩:Addr).add 1)=some (.int .i64 aA)/\
 ∃aB,jZ.cell? ((⟨aL,0,none⟩:Addr).add 2)=some (.string aB)/\
 alE (.cells #[.int .i64 az,.int .i64 aA,.string aB] 73) jZ λcv w126=>
 ∃aE:SV,∃yQ,(Builtin.append_ #[38,38] 38 #[aD.v,.slice (some ⟨cv,0,none⟩) 1 1]).run prog w126=.ok (aE.v) yQ/\
 zQg p6 λa128=>
 st1 (a128.add 1) (aE.v) yQ λw129=>
 zQY R J1 l1 p4 p6 (IntKind.i64.wrap (n7+eF)) (IntKind.i64.wrap (n8+1)) false bU ck cr ds w129)))))) (
 dwE w9 λsG=>
 ∃S17:World->Prop,S17 sG/\
 ∃kv,(∀w',S17 w'->w'.cell? ((⟨cn,0,none⟩:Addr).add 1)=some (.int .i64 kv))/\
 (
 Calls prog 145 #[] sG λe wD=>
 ∃eX:Option Nat,e=.returned (.map eX)/\
 ∃S18:World->Prop,S18 wD/\(∀u,S18 u->S17 u)/\
 ∃bE:Int,∃bF:Int,∃bM:Int,∃bN:Value,∃aT:Value,(∀w',S18 w'->(Instr.lookup 176 (.map eX) (.int .i64 kv) false).run prog w'=.ok (.agg #[.int .u8 bE,.int .i64 bF,.int .i64 bM,bN,aT]) w')/\
 (
 ∃dK:ByteArray,∃sH,(convert 22 9 (bH.v)).run prog wD=.ok (.string dK) sH/\
 ∃S19:World->Prop,S19 sH/\(∀u,S19 u->S18 u)/\
 (
 fnE aT λf75 first75 aZ=>
 zQ5 prog f75=true/\Calls prog f75 (first75.toList ++ (([.string dK]:List Value) ++ aZ.toList)).toArray sH λe w133=>
 ∃am:Int,∃ao:Int,∃ap:ByteArray,∃aG:Bool,e=.returned (.tuple #[.agg #[.int .i64 am,.int .i64 ao,.string ap],.bool aG])/\
 alE (.cells #[.int .i64 0,.int .i64 0,.string (⟨#[]⟩:ByteArray)] 73) w133 λaL w134=>
 stA prog 73 (⟨aL,0,none⟩:Addr) #[.int .i64 am,.int .i64 ao,.string ap] w134 λkK=>
 Br b9 (
 zQg p6 λa136=>
 ∃aD:SV,kK.cell? (a136.add 1)=some (aD.v)/\
 ∃az,kK.cell? ((⟨aL,0,none⟩:Addr).add 0)=some (.int .i64 az)/\
 ∃aA,kK.cell? ((⟨aL,0,none⟩:Addr).add 1)=some (.int .i64 aA)/\
 ∃aB,kK.cell? ((⟨aL,0,none⟩:Addr).add 2)=some (.string aB)/\
 alE (.cells #[.int .i64 az,.int .i64 aA,.string aB] 73) kK λcv w137=>
 ∃aE:SV,∃yR,(Builtin.append_ #[38,38] 38 #[aD.v,.slice (some ⟨cv,0,none⟩) 1 1]).run prog w137=.ok (aE.v) yR/\
 zQg p6 λa139=>
 st1 (a139.add 1) (aE.v) yR λw140=>
 zQY R J1 l1 p4 p6 (IntKind.i64.wrap (n7+eF)) n8 aG bU ck cr ds w140) (
 zQg p6 λa141=>
 ∃aD:SV,kK.cell? (a141.add 1)=some (aD.v)/\
 ∃az,kK.cell? ((⟨aL,0,none⟩:Addr).add 0)=some (.int .i64 az)/\
 ∃aA,kK.cell? ((⟨aL,0,none⟩:Addr).add 1)=some (.int .i64 aA)/\
 ∃aB,kK.cell? ((⟨aL,0,none⟩:Addr).add 2)=some (.string aB)/\
 alE (.cells #[.int .i64 az,.int .i64 aA,.string aB] 73) kK λcv w142=>
 ∃aE:SV,∃yS,(Builtin.append_ #[38,38] 38 #[aD.v,.slice (some ⟨cv,0,none⟩) 1 1]).run prog w142=.ok (aE.v) yS/\
 zQg p6 λa144=>
 st1 (a144.add 1) (aE.v) yS λw145=>
 zQY R J1 l1 p4 p6 (IntKind.i64.wrap (n7+eF)) n8 false bU ck cr ds w145))/\(
 alE (.cells #[.int .i64 0,.int .i64 0,.string (⟨#[]⟩:ByteArray)] 73) sH λaL yT=>
 ∃S20:World->Prop,S20 yT/\(∀u,S20 u->S19 u)/\
 fnE aT λf75 first75 aZ=>
 zQ5 prog f75=true/\Calls prog f75 (first75.toList ++ (([.string dK]:List Value) ++ aZ.toList)).toArray yT λe w147=>
 ∃am:Int,∃ao:Int,∃ap:ByteArray,∃aG:Bool,e=.returned (.tuple #[.agg #[.int .i64 am,.int .i64 ao,.string ap],.bool aG])/\
 stA prog 73 (⟨aL,0,none⟩:Addr) #[.int .i64 am,.int .i64 ao,.string ap] w147 λkL=>
 Br b9 (
 zQg p6 λa149=>
 ∃aD:SV,kL.cell? (a149.add 1)=some (aD.v)/\
 ∃az,kL.cell? ((⟨aL,0,none⟩:Addr).add 0)=some (.int .i64 az)/\
 ∃aA,kL.cell? ((⟨aL,0,none⟩:Addr).add 1)=some (.int .i64 aA)/\
 ∃aB,kL.cell? ((⟨aL,0,none⟩:Addr).add 2)=some (.string aB)/\
 alE (.cells #[.int .i64 az,.int .i64 aA,.string aB] 73) kL λcv w150=>
 ∃aE:SV,∃yU,(Builtin.append_ #[38,38] 38 #[aD.v,.slice (some ⟨cv,0,none⟩) 1 1]).run prog w150=.ok (aE.v) yU/\
 zQg p6 λa152=>
 st1 (a152.add 1) (aE.v) yU λw153=>
 zQY R J1 l1 p4 p6 (IntKind.i64.wrap (n7+eF)) n8 aG bU ck cr ds w153) (
 zQg p6 λa154=>
 ∃aD:SV,kL.cell? (a154.add 1)=some (aD.v)/\
 ∃az,kL.cell? ((⟨aL,0,none⟩:Addr).add 0)=some (.int .i64 az)/\
 ∃aA,kL.cell? ((⟨aL,0,none⟩:Addr).add 1)=some (.int .i64 aA)/\
 ∃aB,kL.cell? ((⟨aL,0,none⟩:Addr).add 2)=some (.string aB)/\
 alE (.cells #[.int .i64 az,.int .i64 aA,.string aB] 73) kL λcv w155=>
 ∃aE:SV,∃yV,(Builtin.append_ #[38,38] 38 #[aD.v,.slice (some ⟨cv,0,none⟩) 1 1]).run prog w155=.ok (aE.v) yV/\
 zQg p6 λa157=>
 st1 (a157.add 1) (aE.v) yV λw158=>
 zQY R J1 l1 p4 p6 (IntKind.i64.wrap (n7+eF)) n8 false bU ck cr ds w158)))/\(
 alE (.cells #[.int .i64 0,.int .i64 0,.string (⟨#[]⟩:ByteArray)] 73) wD λaL yW=>
 ∃S21:World->Prop,S21 yW/\(∀u,S21 u->S18 u)/\
 ∃dK:ByteArray,∃wE,(convert 22 9 (bH.v)).run prog yW=.ok (.string dK) wE/\
 ∃S22:World->Prop,S22 wE/\(∀u,S22 u->S21 u)/\
 fnE aT λf75 first75 aZ=>
 zQ5 prog f75=true/\Calls prog f75 (first75.toList ++ (([.string dK]:List Value) ++ aZ.toList)).toArray wE λe w161=>
 ∃am:Int,∃ao:Int,∃ap:ByteArray,∃aG:Bool,e=.returned (.tuple #[.agg #[.int .i64 am,.int .i64 ao,.string ap],.bool aG])/\
 stA prog 73 (⟨aL,0,none⟩:Addr) #[.int .i64 am,.int .i64 ao,.string ap] w161 λkM=>
 Br b9 (
 zQg p6 λa163=>
 ∃aD:SV,kM.cell? (a163.add 1)=some (aD.v)/\
 ∃az,kM.cell? ((⟨aL,0,none⟩:Addr).add 0)=some (.int .i64 az)/\
 ∃aA,kM.cell? ((⟨aL,0,none⟩:Addr).add 1)=some (.int .i64 aA)/\
 ∃aB,kM.cell? ((⟨aL,0,none⟩:Addr).add 2)=some (.string aB)/\
 alE (.cells #[.int .i64 az,.int .i64 aA,.string aB] 73) kM λcv w164=>
 ∃aE:SV,∃yX,(Builtin.append_ #[38,38] 38 #[aD.v,.slice (some ⟨cv,0,none⟩) 1 1]).run prog w164=.ok (aE.v) yX/\
 zQg p6 λa166=>
 st1 (a166.add 1) (aE.v) yX λw167=>
 zQY R J1 l1 p4 p6 (IntKind.i64.wrap (n7+eF)) n8 aG bU ck cr ds w167) (
 zQg p6 λa168=>
 ∃aD:SV,kM.cell? (a168.add 1)=some (aD.v)/\
 ∃az,kM.cell? ((⟨aL,0,none⟩:Addr).add 0)=some (.int .i64 az)/\
 ∃aA,kM.cell? ((⟨aL,0,none⟩:Addr).add 1)=some (.int .i64 aA)/\
 ∃aB,kM.cell? ((⟨aL,0,none⟩:Addr).add 2)=some (.string aB)/\
 alE (.cells #[.int .i64 az,.int .i64 aA,.string aB] 73) kM λcv w169=>
 ∃aE:SV,∃yY,(Builtin.append_ #[38,38] 38 #[aD.v,.slice (some ⟨cv,0,none⟩) 1 1]).run prog w169=.ok (aE.v) yY/\
 zQg p6 λa171=>
 st1 (a171.add 1) (aE.v) yY λw172=>
 zQY R J1 l1 p4 p6 (IntKind.i64.wrap (n7+eF)) n8 false bU ck cr ds w172)))/\(
 (
 ∃dK:ByteArray,∃sI,(convert 22 9 (bH.v)).run prog sG=.ok (.string dK) sI/\
 ∃S23:World->Prop,S23 sI/\(∀u,S23 u->S17 u)/\
 (
 Calls prog 145 #[] sI λe wF=>
 ∃eX:Option Nat,e=.returned (.map eX)/\
 ∃S24:World->Prop,S24 wF/\(∀u,S24 u->S23 u)/\
 ∃bE:Int,∃bF:Int,∃bM:Int,∃bN:Value,∃aT:Value,(∀w',S24 w'->(Instr.lookup 176 (.map eX) (.int .i64 kv) false).run prog w'=.ok (.agg #[.int .u8 bE,.int .i64 bF,.int .i64 bM,bN,aT]) w')/\
 (
 fnE aT λf75 first75 aZ=>
 zQ5 prog f75=true/\Calls prog f75 (first75.toList ++ (([.string dK]:List Value) ++ aZ.toList)).toArray wF λe w175=>
 ∃am:Int,∃ao:Int,∃ap:ByteArray,∃aG:Bool,e=.returned (.tuple #[.agg #[.int .i64 am,.int .i64 ao,.string ap],.bool aG])/\
 alE (.cells #[.int .i64 0,.int .i64 0,.string (⟨#[]⟩:ByteArray)] 73) w175 λaL w176=>
 stA prog 73 (⟨aL,0,none⟩:Addr) #[.int .i64 am,.int .i64 ao,.string ap] w176 λkN=>
 Br b9 (
 zQg p6 λa178=>
 ∃aD:SV,kN.cell? (a178.add 1)=some (aD.v)/\
 ∃az,kN.cell? ((⟨aL,0,none⟩:Addr).add 0)=some (.int .i64 az)/\
 ∃aA,kN.cell? ((⟨aL,0,none⟩:Addr).add 1)=some (.int .i64 aA)/\
 ∃aB,kN.cell? ((⟨aL,0,none⟩:Addr).add 2)=some (.string aB)/\
 alE (.cells #[.int .i64 az,.int .i64 aA,.string aB] 73) kN λcv w179=>
 ∃aE:SV,∃yZ,(Builtin.append_ #[38,38] 38 #[aD.v,.slice (some ⟨cv,0,none⟩) 1 1]).run prog w179=.ok (aE.v) yZ/\
 zQg p6 λa181=>
 st1 (a181.add 1) (aE.v) yZ λw182=>
 zQY R J1 l1 p4 p6 (IntKind.i64.wrap (n7+eF)) n8 aG bU ck cr ds w182) (
 zQg p6 λa183=>
 ∃aD:SV,kN.cell? (a183.add 1)=some (aD.v)/\
 ∃az,kN.cell? ((⟨aL,0,none⟩:Addr).add 0)=some (.int .i64 az)/\
 ∃aA,kN.cell? ((⟨aL,0,none⟩:Addr).add 1)=some (.int .i64 aA)/\
 ∃aB,kN.cell? ((⟨aL,0,none⟩:Addr).add 2)=some (.string aB)/\
 alE (.cells #[.int .i64 az,.int .i64 aA,.string aB] 73) kN λcv w184=>
 ∃aE:SV,∃y2,(Builtin.append_ #[38,38] 38 #[aD.v,.slice (some ⟨cv,0,none⟩) 1 1]).run prog w184=.ok (aE.v) y2/\
 zQg p6 λa186=>
 st1 (a186.add 1) (aE.v) y2 λw187=>
 zQY R J1 l1 p4 p6 (IntKind.i64.wrap (n7+eF)) n8 false bU ck cr ds w187))/\(
 alE (.cells #[.int .i64 0,.int .i64 0,.string (⟨#[]⟩:ByteArray)] 73) wF λaL y3=>
 ∃S25:World->Prop,S25 y3/\(∀u,S25 u->S24 u)/\
 fnE aT λf75 first75 aZ=>
 zQ5 prog f75=true/\Calls prog f75 (first75.toList ++ (([.string dK]:List Value) ++ aZ.toList)).toArray y3 λe w189=>
 ∃am:Int,∃ao:Int,∃ap:ByteArray,∃aG:Bool,e=.returned (.tuple #[.agg #[.int .i64 am,.int .i64 ao,.string ap],.bool aG])/\
 stA prog 73 (⟨aL,0,none⟩:Addr) #[.int .i64 am,.int .i64 ao,.string ap] w189 λkO=>
 Br b9 (
 zQg p6 λa191=>
 ∃aD:SV,kO.cell? (a191.add 1)=some (aD.v)/\
 ∃az,kO.cell? ((⟨aL,0,none⟩:Addr).add 0)=some (.int .i64 az)/\
 ∃aA,kO.cell? ((⟨aL,0,none⟩:Addr).add 1)=some (.int .i64 aA)/\
 ∃aB,kO.cell? ((⟨aL,0,none⟩:Addr).add 2)=some (.string aB)/\
 alE (.cells #[.int .i64 az,.int .i64 aA,.string aB] 73) kO λcv w192=>
 ∃aE:SV,∃y4,(Builtin.append_ #[38,38] 38 #[aD.v,.slice (some ⟨cv,0,none⟩) 1 1]).run prog w192=.ok (aE.v) y4/\
 zQg p6 λa194=>
 st1 (a194.add 1) (aE.v) y4 λw195=>
 zQY R J1 l1 p4 p6 (IntKind.i64.wrap (n7+eF)) n8 aG bU ck cr ds w195) (
 zQg p6 λa196=>
 ∃aD:SV,kO.cell? (a196.add 1)=some (aD.v)/\
 ∃az,kO.cell? ((⟨aL,0,none⟩:Addr).add 0)=some (.int .i64 az)/\
 ∃aA,kO.cell? ((⟨aL,0,none⟩:Addr).add 1)=some (.int .i64 aA)/\
 ∃aB,kO.cell? ((⟨aL,0,none⟩:Addr).add 2)=some (.string aB)/\
 alE (.cells #[.int .i64 az,.int .i64 aA,.string aB] 73) kO λcv w197=>
 ∃aE:SV,∃y5,(Builtin.append_ #[38,38] 38 #[aD.v,.slice (some ⟨cv,0,none⟩) 1 1]).run prog w197=.ok (aE.v) y5/\
 zQg p6 λa199=>
 st1 (a199.add 1) (aE.v) y5 λw200=>
 zQY R J1 l1 p4 p6 (IntKind.i64.wrap (n7+eF)) n8 false bU ck cr ds w200)))/\(
 alE (.cells #[.int .i64 0,.int .i64 0,.string (⟨#[]⟩:ByteArray)] 73) sI λaL y6=>
 ∃S26:World->Prop,S26 y6/\(∀u,S26 u->S23 u)/\
 Calls prog 145 #[] y6 λe y7=>
 ∃eX:Option Nat,e=.returned (.map eX)/\
 ∃S27:World->Prop,S27 y7/\(∀u,S27 u->S26 u)/\
 ∃bE:Int,∃bF:Int,∃bM:Int,∃bN:Value,∃aT:Value,(∀w',S27 w'->(Instr.lookup 176 (.map eX) (.int .i64 kv) false).run prog w'=.ok (.agg #[.int .u8 bE,.int .i64 bF,.int .i64 bM,bN,aT]) w')/\
 fnE aT λf75 first75 aZ=>
 zQ5 prog f75=true/\Calls prog f75 (first75.toList ++ (([.string dK]:List Value) ++ aZ.toList)).toArray y7 λe w203=>
 ∃am:Int,∃ao:Int,∃ap:ByteArray,∃aG:Bool,e=.returned (.tuple #[.agg #[.int .i64 am,.int .i64 ao,.string ap],.bool aG])/\
 stA prog 73 (⟨aL,0,none⟩:Addr) #[.int .i64 am,.int .i64 ao,.string ap] w203 λkP=>
 Br b9 (
 zQg p6 λa205=>
 ∃aD:SV,kP.cell? (a205.add 1)=some (aD.v)/\
 ∃az,kP.cell? ((⟨aL,0,none⟩:Addr).add 0)=some (.int .i64 az)/\
 ∃aA,kP.cell? ((⟨aL,0,none⟩:Addr).add 1)=some (.int .i64 aA)/\
 ∃aB,kP.cell? ((⟨aL,0,none⟩:Addr).add 2)=some (.string aB)/\
 alE (.cells #[.int .i64 az,.int .i64 aA,.string aB] 73) kP λcv w206=>
 ∃aE:SV,∃y8,(Builtin.append_ #[38,38] 38 #[aD.v,.slice (some ⟨cv,0,none⟩) 1 1]).run prog w206=.ok (aE.v) y8/\
 zQg p6 λa208=>
 st1 (a208.add 1) (aE.v) y8 λw209=>
 zQY R J1 l1 p4 p6 (IntKind.i64.wrap (n7+eF)) n8 aG bU ck cr ds w209) (
 zQg p6 λa210=>
 ∃aD:SV,kP.cell? (a210.add 1)=some (aD.v)/\
 ∃az,kP.cell? ((⟨aL,0,none⟩:Addr).add 0)=some (.int .i64 az)/\
 ∃aA,kP.cell? ((⟨aL,0,none⟩:Addr).add 1)=some (.int .i64 aA)/\
 ∃aB,kP.cell? ((⟨aL,0,none⟩:Addr).add 2)=some (.string aB)/\
 alE (.cells #[.int .i64 az,.int .i64 aA,.string aB] 73) kP λcv w211=>
 ∃aE:SV,∃za,(Builtin.append_ #[38,38] 38 #[aD.v,.slice (some ⟨cv,0,none⟩) 1 1]).run prog w211=.ok (aE.v) za/\
 zQg p6 λa213=>
 st1 (a213.add 1) (aE.v) za λw214=>
 zQY R J1 l1 p4 p6 (IntKind.i64.wrap (n7+eF)) n8 false bU ck cr ds w214)))/\(
 alE (.cells #[.int .i64 0,.int .i64 0,.string (⟨#[]⟩:ByteArray)] 73) sG λaL wG=>
 ∃S28:World->Prop,S28 wG/\(∀u,S28 u->S17 u)/\
 (
 Calls prog 145 #[] wG λe ze=>
 ∃eX:Option Nat,e=.returned (.map eX)/\
 ∃S29:World->Prop,S29 ze/\(∀u,S29 u->S28 u)/\
 ∃bE:Int,∃bF:Int,∃bM:Int,∃bN:Value,∃aT:Value,(∀w',S29 w'->(Instr.lookup 176 (.map eX) (.int .i64 kv) false).run prog w'=.ok (.agg #[.int .u8 bE,.int .i64 bF,.int .i64 bM,bN,aT]) w')/\
 ∃dK:ByteArray,∃wH,(convert 22 9 (bH.v)).run prog ze=.ok (.string dK) wH/\
 ∃S30:World->Prop,S30 wH/\(∀u,S30 u->S29 u)/\
 fnE aT λf75 first75 aZ=>
 zQ5 prog f75=true/\Calls prog f75 (first75.toList ++ (([.string dK]:List Value) ++ aZ.toList)).toArray wH λe w218=>
 ∃am:Int,∃ao:Int,∃ap:ByteArray,∃aG:Bool,e=.returned (.tuple #[.agg #[.int .i64 am,.int .i64 ao,.string ap],.bool aG])/\
 stA prog 73 (⟨aL,0,none⟩:Addr) #[.int .i64 am,.int .i64 ao,.string ap] w218 λkQ=>
 Br b9 (
 zQg p6 λa220=>
 ∃aD:SV,kQ.cell? (a220.add 1)=some (aD.v)/\
 ∃az,kQ.cell? ((⟨aL,0,none⟩:Addr).add 0)=some (.int .i64 az)/\
 ∃aA,kQ.cell? ((⟨aL,0,none⟩:Addr).add 1)=some (.int .i64 aA)/\
 ∃aB,kQ.cell? ((⟨aL,0,none⟩:Addr).add 2)=some (.string aB)/\
 alE (.cells #[.int .i64 az,.int .i64 aA,.string aB] 73) kQ λcv w221=>
 ∃aE:SV,∃zg,(Builtin.append_ #[38,38] 38 #[aD.v,.slice (some ⟨cv,0,none⟩) 1 1]).run prog w221=.ok (aE.v) zg/\
 zQg p6 λa223=>
 st1 (a223.add 1) (aE.v) zg λw224=>
 zQY R J1 l1 p4 p6 (IntKind.i64.wrap (n7+eF)) n8 aG bU ck cr ds w224) (
 zQg p6 λa225=>
 ∃aD:SV,kQ.cell? (a225.add 1)=some (aD.v)/\
 ∃az,kQ.cell? ((⟨aL,0,none⟩:Addr).add 0)=some (.int .i64 az)/\
 ∃aA,kQ.cell? ((⟨aL,0,none⟩:Addr).add 1)=some (.int .i64 aA)/\
 ∃aB,kQ.cell? ((⟨aL,0,none⟩:Addr).add 2)=some (.string aB)/\
 alE (.cells #[.int .i64 az,.int .i64 aA,.string aB] 73) kQ λcv w226=>
 ∃aE:SV,∃zh,(Builtin.append_ #[38,38] 38 #[aD.v,.slice (some ⟨cv,0,none⟩) 1 1]).run prog w226=.ok (aE.v) zh/\
 zQg p6 λa228=>
 st1 (a228.add 1) (aE.v) zh λw229=>
 zQY R J1 l1 p4 p6 (IntKind.i64.wrap (n7+eF)) n8 false bU ck cr ds w229))/\(
 ∃dK:ByteArray,∃wI,(convert 22 9 (bH.v)).run prog wG=.ok (.string dK) wI/\
 ∃S31:World->Prop,S31 wI/\(∀u,S31 u->S28 u)/\
 Calls prog 145 #[] wI λe zi=>
 ∃eX:Option Nat,e=.returned (.map eX)/\
 ∃S32:World->Prop,S32 zi/\(∀u,S32 u->S31 u)/\
 ∃bE:Int,∃bF:Int,∃bM:Int,∃bN:Value,∃aT:Value,(∀w',S32 w'->(Instr.lookup 176 (.map eX) (.int .i64 kv) false).run prog w'=.ok (.agg #[.int .u8 bE,.int .i64 bF,.int .i64 bM,bN,aT]) w')/\
 fnE aT λf75 first75 aZ=>
 zQ5 prog f75=true/\Calls prog f75 (first75.toList ++ (([.string dK]:List Value) ++ aZ.toList)).toArray zi λe w232=>
 ∃am:Int,∃ao:Int,∃ap:ByteArray,∃aG:Bool,e=.returned (.tuple #[.agg #[.int .i64 am,.int .i64 ao,.string ap],.bool aG])/\
 stA prog 73 (⟨aL,0,none⟩:Addr) #[.int .i64 am,.int .i64 ao,.string ap] w232 λkR=>
 Br b9 (
 zQg p6 λa234=>
 ∃aD:SV,kR.cell? (a234.add 1)=some (aD.v)/\
 ∃az,kR.cell? ((⟨aL,0,none⟩:Addr).add 0)=some (.int .i64 az)/\
 ∃aA,kR.cell? ((⟨aL,0,none⟩:Addr).add 1)=some (.int .i64 aA)/\
 ∃aB,kR.cell? ((⟨aL,0,none⟩:Addr).add 2)=some (.string aB)/\
 alE (.cells #[.int .i64 az,.int .i64 aA,.string aB] 73) kR λcv w235=>
 ∃aE:SV,∃zj,(Builtin.append_ #[38,38] 38 #[aD.v,.slice (some ⟨cv,0,none⟩) 1 1]).run prog w235=.ok (aE.v) zj/\
 zQg p6 λa237=>
 st1 (a237.add 1) (aE.v) zj λw238=>
 zQY R J1 l1 p4 p6 (IntKind.i64.wrap (n7+eF)) n8 aG bU ck cr ds w238) (
 zQg p6 λa239=>
 ∃aD:SV,kR.cell? (a239.add 1)=some (aD.v)/\
 ∃az,kR.cell? ((⟨aL,0,none⟩:Addr).add 0)=some (.int .i64 az)/\
 ∃aA,kR.cell? ((⟨aL,0,none⟩:Addr).add 1)=some (.int .i64 aA)/\
 ∃aB,kR.cell? ((⟨aL,0,none⟩:Addr).add 2)=some (.string aB)/\
 alE (.cells #[.int .i64 az,.int .i64 aA,.string aB] 73) kR λcv w240=>
 ∃aE:SV,∃zk,(Builtin.append_ #[38,38] 38 #[aD.v,.slice (some ⟨cv,0,none⟩) 1 1]).run prog w240=.ok (aE.v) zk/\
 zQg p6 λa242=>
 st1 (a242.add 1) (aE.v) zk λw243=>
 zQY R J1 l1 p4 p6 (IntKind.i64.wrap (n7+eF)) n8 false bU ck cr ds w243)))))
def xKe (R:Rt) (J1:(Int × Int × Bool × Int)->World->Prop) (l1:SV) (p4 p6:Option Addr) (n7 n8:Int) (b9:Bool) (bU:SV) (ck cr:Int) (ds:Ds) (w:World):Prop:=
 Br (decide (cr<ck)) (
 xVN R J1 l1 p4 p6 n7 n8 b9 bU ck cr ds w) (
 xVG R p4 p6 b9 ds w)
def xWC(R:Rt)(l1:SV)(p4 p6:Option Addr)(n7 n8:Int)(b9:Bool)(bU:SV)(ck cr:Int)(ds:Ds)(w:World):Prop:=
 zQA (λ(J1:(Int × Int × Bool × Int)->World->Prop) (s:Int × Int × Bool × Int) (w:World)=>xKe R J1 l1 p4 p6 s.1 s.2.1 s.2.2.1 bU ck s.2.2.2 ds w) (n7,n8,b9,cr) w
def xKL(R:Rt)(l0 l1:SV)(ds:Ds)(w:World):Prop:=
 alE (.cells #[.bool false,.slice none 0 0] 67) w λr4 zl=>
 ∃zm,l1.a=some zm/\0<=(0:Int)/\(0:Int)<(l1.len:Int)/\
 ∃iI,zl.cell? (zm.add ((0:Int).toNat * 1))=some (.int .u8 iI)/\
 alE (.cells #[.bool false,.slice none 0 0] 67) zl λr6 w246=>
 stA prog 67 (⟨r6,0,none⟩:Addr) #[.bool (iI == 42),.slice none 0 0] w246 λw247=>
 Calls prog 203 #[l0.v] w247 λe w248=>
 ∃dk:Int,e=.returned (.int .i64 dk)/\
 xWC R l1 (some (⟨r4,0,none⟩:Addr)) (some (⟨r6,0,none⟩:Addr)) (IntKind.i64.wrap ((1:Int)+dk)) 0 true l0 (l0.len:Int) 0 ds w248
theorem F163_p:Pl prog f163 [lS 0,lS 1] xKL:=λR=>
 pc 4 (rest [lS 1,pS 4,pS 6,iS 7,iS 8,bS 9,lS 24,iS 25,iS 26] (xWC R) (bk 0 (rest [pS 4,pS 6,bS 9] (xVG R) lf) (lp [iS 7,iS 8,bS 9,iS 26] [lS 1,pS 4,pS 6,iS 7,iS 8,bS 9,lS 24,iS 25,iS 26] (xKe R) zXH λJ1=>pc 2 (rest [lS 1,pS 4,pS 6,iS 7,iS 8,bS 9,lS 24,iS 25,iS 26] (xVN R J1) (pc 1 (rest [lS 1,pS 4,pS 6,iS 7,iS 8,bS 9,lS 24,iS 25,iS 26] (zQY R J1) lf))))))
theorem yWZ (l0 l1:SV) (w:World) (R:Rt) (h:xKL R l0 l1 [] w):Calls prog 163 #[l0.v,l1.v] w R:=
 plC F163_p func163 h
def xVk(R:Rt)(l0 l1:SV)(ds:Ds)(w:World):Prop:=
 ∃s6:ByteArray,∃w1,(convert 22 9 (l0.v)).run prog w=.ok (.string s6) w1/\
 ∃s8:ByteArray,∃w2,(convert 22 9 (l1.v)).run prog w1=.ok (.string s8) w2/\
 zQb prog ds w2 λw3=>
 R (.returned (.bool (s6.toList == s8.toList))) w3
theorem F125_p:Pl prog f125 [lS 0,lS 1] xVk:=λR=>
 lf
theorem yWr (l0 l1:SV) (w:World) (R:Rt) (h:xVk R l0 l1 [] w):Calls prog 125 #[l0.v,l1.v] w R:=
 plC F125_p func125 h
end Go.Proofs.YtaeecpjhfmcliaaGreatDoor
/- Shallow texts of functions, printed by program, each checked by the kernel against the loaded code. No condition. -/
namespace Go.Proofs.YtaeecpjhfmcliaaGreatDoor
open Go.Sh Tryz
def F56_1(R:Rt)(p1 p2:Option Addr)(ds:Ds)(w:World):Prop:=
 zQg p1 λa1=>
 ∃dL,w.cell? (a1.add 0)=some (.int .i64 dL)/\
 ∃bh:SV,w.cell? (a1.add 1)=some (bh.v)/\
 ∃bi:SV,w.cell? (a1.add 2)=some (bi.v)/\
 zQg p2 λa2=>
 stA prog 35 a2 #[.int .i64 dL,bh.v,bi.v] w λw3=>
 zQb prog ds w3 λw4=>
 zQg p2 λa5=>
 ∃ag,w4.cell? (a5.add 0)=some (.int .i64 ag)/\
 ∃ab:SV,w4.cell? (a5.add 1)=some (ab.v)/\
 ∃ae:SV,w4.cell? (a5.add 2)=some (ae.v)/\
 R (.returned (.agg #[.int .i64 ag,ab.v,ae.v])) w4
def F56_2 (R:Rt) (J1:(Int)->World->Prop) (p1 p2:Option Addr) (bP:SV) (kJ n16:Int) (ds:Ds) (w:World):Prop:=
 Br (decide (n16<kJ)) (
 ∃a6,bP.a=some a6/\0<=n16/\n16<(bP.len:Int)/\
 ∃nP,w.cell? ((a6.add (n16.toNat * 2)).add 0)=some (.bool nP)/\
 ∃cb:SV,w.cell? ((a6.add (n16.toNat * 2)).add 1)=some (cb.v)/\
 alE (.cells #[.bool false,.slice none 0 0] 67) w λr4 w7=>
 stA prog 67 (⟨r4,0,none⟩:Addr) #[.bool nP,cb.v] w7 λw8=>
 dwE w8 λw9=>
 ∃S1:World->Prop,S1 w9/\
 zQg p1 λeE=>
 ∃dw:SV,(∀w',S1 w'->w'.cell? (eE.add 2)=some (dw.v))/\
 ∃eb:SV,(∀w',S1 w'->w'.cell? ((⟨r4,0,none⟩:Addr).add 1)=some (eb.v))/\
 Calls prog 78 #[eb.v] w9 λe aR=>
 ∃dT:SV,e=.returned (dT.v)/\
 S1 aR/\
 ∃kF,dw.a=some kF/\0<=n16/\n16<(dw.len:Int)/\
 st1 ((kF.add (n16.toNat * 2)).add 1) (dT.v) aR λaH=>
 J1 (IntKind.i64.wrap (n16+1)) aH) (
 F56_1 R p1 p2 ds w)
def F56_3(R:Rt)(p1 p2:Option Addr)(bP:SV)(kJ n16:Int)(ds:Ds)(w:World):Prop:=
 zQA (λ(J1:(Int)->World->Prop) (s:Int) (w:World)=>F56_2 R J1 p1 p2 bP kJ s ds w) n16 w
def F56_5(R:Rt)(au:Int)(ah ai:SV)(ds:Ds)(w:World):Prop:=
 alE (.cells #[.int .i64 au,ah.v,ai.v] 35) w λr1 bo=>
 alE (.cells #[.int .i64 0,.slice none 0 0,.slice none 0 0] 35) bo λr2 bt=>
 ∃l6:SV,bt.cell? ((⟨r1,0,none⟩:Addr).add 1)=some (l6.v)/\
 Calls prog 97 #[l6.v] bt λe bB=>
 ∃l7:SV,e=.returned (l7.v)/\
 st1 ((⟨r1,0,none⟩:Addr).add 1) (l7.v) bB λbG=>
 ∃dX:SV,bG.cell? ((⟨r1,0,none⟩:Addr).add 2)=some (dX.v)/\
 Calls prog 98 #[dX.v] bG λe bI=>
 ∃ct:SV,e=.returned (ct.v)/\
 st1 ((⟨r1,0,none⟩:Addr).add 2) (ct.v) bI λcE=>
 ∃bP:SV,cE.cell? ((⟨r1,0,none⟩:Addr).add 2)=some (bP.v)/\
 F56_3 R (some (⟨r1,0,none⟩:Addr)) (some (⟨r2,0,none⟩:Addr)) bP (bP.len:Int) 0 ds cE
theorem F56_p:Pl prog f56 [aS 0 [.int .i64,.slice,.slice]] F56_5:=λR=>
 pc 4 (rest [pS 1,pS 2,lS 14,iS 15,iS 16] (F56_3 R) (bk 0 (rest [pS 1,pS 2] (F56_1 R) lf) (lp [iS 16] [pS 1,pS 2,lS 14,iS 15,iS 16] (F56_2 R) zXH λJ1=>lf)))
theorem xXr (au:Int) (ah ai:SV) (w:World) (R:Rt) (h:F56_5 R au ah ai [] w):Calls prog 56 #[.agg #[.int .i64 au,ah.v,ai.v]] w R:=
 plC F56_p func56 h
def F97_1(R:Rt)(l0:SV)(ds:Ds)(w:World):Prop:=
 ∃b4:Bool,∃w1,(eqS .eql 32 (.tmp 3) (.const (.slice none 0 0)) (l0.v) (.slice none 0 0)).run prog w=.ok (.bool b4) w1/\
 Br b4 (
 zQb prog ds w1 λw2=>
 R (.returned (.slice none 0 0)) w2) (
 alE (.cells #[] 129) w1 λr5 w3=>
 ∃l7:SV,∃w4,(Builtin.append_ #[32,32] 32 #[.slice (some ⟨r5,0,none⟩) 0 0,l0.v]).run prog w3=.ok (l7.v) w4/\
 zQb prog ds w4 λw5=>
 R (.returned (l7.v)) w5)
theorem F97_p:Pl prog f97 [lS 0] F97_1:=λR=>
 lf
theorem xXF (l0:SV) (w:World) (R:Rt) (h:F97_1 R l0 [] w):Calls prog 97 #[l0.v] w R:=
 plC F97_p func97 h
def F98_1(R:Rt)(l0:SV)(ds:Ds)(w:World):Prop:=
 ∃b4:Bool,∃w1,(eqS .eql 33 (.tmp 3) (.const (.slice none 0 0)) (l0.v) (.slice none 0 0)).run prog w=.ok (.bool b4) w1/\
 Br b4 (
 zQb prog ds w1 λw2=>
 R (.returned (.slice none 0 0)) w2) (
 alE (.cells #[] 67) w1 λr5 w3=>
 ∃l7:SV,∃w4,(Builtin.append_ #[33,33] 33 #[.slice (some ⟨r5,0,none⟩) 0 0,l0.v]).run prog w3=.ok (l7.v) w4/\
 zQb prog ds w4 λw5=>
 R (.returned (l7.v)) w5)
theorem F98_p:Pl prog f98 [lS 0] F98_1:=λR=>
 lf
theorem yYS (l0:SV) (w:World) (R:Rt) (h:F98_1 R l0 [] w):Calls prog 98 #[l0.v] w R:=
 plC F98_p func98 h
def F78_1(R:Rt)(l0:SV)(ds:Ds)(w:World):Prop:=
 ∃b4:Bool,∃w1,(eqS .eql 38 (.tmp 3) (.const (.slice none 0 0)) (l0.v) (.slice none 0 0)).run prog w=.ok (.bool b4) w1/\
 Br b4 (
 zQb prog ds w1 λw2=>
 R (.returned (.slice none 0 0)) w2) (
 alE (.cells #[] 73) w1 λr5 w3=>
 ∃l7:SV,∃w4,(Builtin.append_ #[38,38] 38 #[.slice (some ⟨r5,0,none⟩) 0 0,l0.v]).run prog w3=.ok (l7.v) w4/\
 zQb prog ds w4 λw5=>
 R (.returned (l7.v)) w5)
theorem F78_p:Pl prog f78 [lS 0] F78_1:=λR=>
 lf
theorem xXm (l0:SV) (w:World) (R:Rt) (h:F78_1 R l0 [] w):Calls prog 78 #[l0.v] w R:=
 plC F78_p func78 h
def F74_1(R:Rt)(l0:SV)(ds:Ds)(w:World):Prop:=
 ∃b4:Bool,∃w1,(eqS .eql 52 (.tmp 3) (.const (.slice none 0 0)) (l0.v) (.slice none 0 0)).run prog w=.ok (.bool b4) w1/\
 Br b4 (
 zQb prog ds w1 λw2=>
 R (.returned (.slice none 0 0)) w2) (
 alE (.cells #[] 3) w1 λr5 w3=>
 ∃l7:SV,∃w4,(Builtin.append_ #[52,52] 52 #[.slice (some ⟨r5,0,none⟩) 0 0,l0.v]).run prog w3=.ok (l7.v) w4/\
 zQb prog ds w4 λw5=>
 R (.returned (l7.v)) w5)
theorem F74_p:Pl prog f74 [lS 0] F74_1:=λR=>
 lf
theorem xXW (l0:SV) (w:World) (R:Rt) (h:F74_1 R l0 [] w):Calls prog 74 #[l0.v] w R:=
 plC F74_p func74 h
end Go.Proofs.YtaeecpjhfmcliaaGreatDoor
/- Shallow texts of functions, printed by program, each checked by the kernel against the loaded code. No condition. -/
namespace Go.Proofs.YtaeecpjhfmcliaaGreatDoor
open Go.Sh Tryz
def F76_1(R:Rt)(au aJ:Int)(ai l1:SV)(n2:Int)(ds:Ds)(w:World):Prop:=
 alE (.cells #[.int .i64 au,.int .i64 aJ,ai.v] 90) w λr3 w1=>
 Calls prog 109 #[l1.v] w1 λe w2=>
 ∃dX:SV,e=.returned (dX.v)/\
 Br (decide (n2<=0)) (
 zQb prog ds w2 λw3=>
 R (.returned (dX.v)) w3) (
 dwE w2 λw4=>
 ∃S1:World->Prop,S1 w4/\
 ∃n16,(∀w',S1 w'->w'.cell? (⟨r3,0,none⟩:Addr)=some (.int .i64 n16))/\
 ∃a5,dX.a=some a5/\0<=n16/\n16<(dX.len:Int)/\
 ∃du:SV,(∀w',S1 w'->w'.cell? (a5.add (n16.toNat * 1))=some (du.v))/\
 ∃j9,(∀w',S1 w'->w'.cell? ((⟨r3,0,none⟩:Addr).add 1)=some (.int .i64 j9))/\
 ∃i5,(∀w',S1 w'->w'.cell? (⟨r3,0,none⟩:Addr)=some (.int .i64 i5))/\
 ∃a6,dX.a=some a6/\0<=i5/\i5<(dX.len:Int)/\
 ∃eb:SV,(∀w',S1 w'->w'.cell? (a6.add (i5.toNat * 1))=some (eb.v))/\
 ∃gn:Int,∃w7,(Builtin.min_ #[3,3] 3 #[.int .i64 j9,.int .i64 (eb.len:Int)]).run prog w4=.ok (.int .i64 gn) w7/\
 S1 w7/\
 0<=gn/\gn.toNat<=du.cap/\0<=gn.toNat/\
 Calls prog 110 #[.slice (if du.cap=0 then du.a else du.a.map (λx=>x.add (0 * 1))) (gn.toNat - 0) (du.cap - 0)] w7 λe w8=>
 ∃i8:SV,e=.returned (i8.v)/\
 ∃iP:SV,w8.cell? ((⟨r3,0,none⟩:Addr).add 2)=some (iP.v)/\
 Br (decide ((iP.len:Int) > 0)) (
 ∃iF:SV,w8.cell? ((⟨r3,0,none⟩:Addr).add 2)=some (iF.v)/\
 ∃iM:SV,w8.cell? ((⟨r3,0,none⟩:Addr).add 2)=some (iM.v)/\
 ∃nh:Int,∃w9,(Builtin.min_ #[3,3] 3 #[.int .i64 n2,.int .i64 (iM.len:Int)]).run prog w8=.ok (.int .i64 nh) w9/\
 0<=nh/\nh.toNat<=iF.cap/\0<=nh.toNat/\
 ∃m8:SV,∃aO,(Builtin.append_ #[22,22] 22 #[i8.v,.slice (if iF.cap=0 then iF.a else iF.a.map (λx=>x.add (0 * 1))) (nh.toNat - 0) (iF.cap - 0)]).run prog w9=.ok (m8.v) aO/\
 ∃kC,aO.cell? (⟨r3,0,none⟩:Addr)=some (.int .i64 kC)/\
 ∃dV,dX.a=some dV/\0<=kC/\kC<(dX.len:Int)/\
 st1 (dV.add (kC.toNat * 1)) (m8.v) aO λaM=>
 zQb prog ds aM λaH=>
 R (.returned (dX.v)) aH) (
 ∃kC,w8.cell? (⟨r3,0,none⟩:Addr)=some (.int .i64 kC)/\
 ∃ga,dX.a=some ga/\0<=kC/\kC<(dX.len:Int)/\
 st1 (ga.add (kC.toNat * 1)) (i8.v) w8 λbt=>
 zQb prog ds bt λbB=>
 R (.returned (dX.v)) bB))
theorem F76_p:Pl prog f76 [aS 0 [.int .i64,.int .i64,.slice],lS 1,iS 2] F76_1:=λR=>
 lf
theorem yYI (au aJ:Int) (ai l1:SV) (n2:Int) (w:World) (R:Rt) (h:F76_1 R au aJ ai l1 n2 [] w):Calls prog 76 #[.agg #[.int .i64 au,.int .i64 aJ,ai.v],l1.v,.int .i64 n2] w R:=
 plC F76_p func76 h
def F90_1(R:Rt)(au aJ:Int)(ai:SV)(ds:Ds)(w:World):Prop:=
 alE (.cells #[.int .i64 au,.int .i64 aJ,ai.v] 90) w λr1 w1=>
 ∃l4:SV,w1.cell? ((⟨r1,0,none⟩:Addr).add 2)=some (l4.v)/\
 zQb prog ds w1 λw2=>
 R (.returned (.int .i64 (IntKind.i64.wrap ((l4.len:Int)+1)))) w2
theorem F90_p:Pl prog f90 [aS 0 [.int .i64,.int .i64,.slice]] F90_1:=λR=>
 lf
theorem yY8 (au aJ:Int) (ai:SV) (w:World) (R:Rt) (h:F90_1 R au aJ ai [] w):Calls prog 90 #[.agg #[.int .i64 au,.int .i64 aJ,ai.v]] w R:=
 plC F90_p func90 h
def xKu(R:Rt)(l0:SV)(ds:Ds)(w:World):Prop:=
 ∃b4:Bool,∃w1,(eqS .eql 82 (.tmp 3) (.const (.slice none 0 0)) (l0.v) (.slice none 0 0)).run prog w=.ok (.bool b4) w1/\
 Br b4 (
 zQb prog ds w1 λw2=>
 R (.returned (.slice none 0 0)) w2) (
 alE (.cells #[] 22) w1 λr5 w3=>
 ∃l7:SV,∃w4,(Builtin.append_ #[82,82] 82 #[.slice (some ⟨r5,0,none⟩) 0 0,l0.v]).run prog w3=.ok (l7.v) w4/\
 zQb prog ds w4 λw5=>
 R (.returned (l7.v)) w5)
theorem F109_p:Pl prog f109 [lS 0] xKu:=λR=>
 lf
theorem yKW (l0:SV) (w:World) (R:Rt) (h:xKu R l0 [] w):Calls prog 109 #[l0.v] w R:=
 plC F109_p func109 h
def xJW(R:Rt)(l0:SV)(ds:Ds)(w:World):Prop:=
 ∃b4:Bool,∃w1,(eqS .eql 22 (.tmp 3) (.const (.slice none 0 0)) (l0.v) (.slice none 0 0)).run prog w=.ok (.bool b4) w1/\
 Br b4 (
 zQb prog ds w1 λw2=>
 R (.returned (.slice none 0 0)) w2) (
 alE (.cells #[] 5) w1 λr5 w3=>
 ∃l7:SV,∃w4,(Builtin.append_ #[22,22] 22 #[.slice (some ⟨r5,0,none⟩) 0 0,l0.v]).run prog w3=.ok (l7.v) w4/\
 zQb prog ds w4 λw5=>
 R (.returned (l7.v)) w5)
theorem F110_p:Pl prog f110 [lS 0] xJW:=λR=>
 lf
theorem yW4 (l0:SV) (w:World) (R:Rt) (h:xJW R l0 [] w):Calls prog 110 #[l0.v] w R:=
 plC F110_p func110 h
end Go.Proofs.YtaeecpjhfmcliaaGreatDoor
/- Shallow texts of functions, printed by program, each checked by the kernel against the loaded code. No condition. -/
namespace Go.Proofs.YtaeecpjhfmcliaaGreatDoor
open Go.Sh Tryz
def xJJ(R:Rt)(n3:Int)(ds:Ds)(w:World):Prop:=
 zQb prog ds w λw1=>
 R (.returned (.int .i64 n3)) w1
def xKF (R:Rt) (J1:(Int × Int)->World->Prop) (n3:Int) (l6:SV) (n7 n8:Int) (ds:Ds) (w:World):Prop:=
 Br (decide (n8<n7)) (
 ∃a2,l6.a=some a2/\0<=n8/\n8<(l6.len:Int)/\
 ∃dy,w.cell? (a2.add (n8.toNat * 1))=some (.int .u8 dy)/\
 0<=(IntKind.i64.wrap ((8:Int) * n8))/\
 J1 ((IntKind.i64.wrap ((BitVec.ofInt 64 n3 ||| BitVec.ofInt 64 (IntKind.i64.wrap ((IntKind.i64.wrap dy) * 2 ^ (min (IntKind.i64.wrap ((8:Int) * n8)).toNat 64)))).toNat:Nat)),(IntKind.i64.wrap (n8+1))) w) (
 xJJ R n3 ds w)
def xW9(R:Rt)(n3:Int)(l6:SV)(n7 n8:Int)(ds:Ds)(w:World):Prop:=
 zQA (λ(J1:(Int × Int)->World->Prop) (s:Int × Int) (w:World)=>xKF R J1 s.1 l6 n7 s.2 ds w) (n3,n8) w
def xVB(R:Rt)(l0:SV)(ds:Ds)(w:World):Prop:=
 xW9 R 0 l0 (l0.len:Int) 0 ds w
theorem F126_p:Pl prog f126 [lS 0] xVB:=λR=>
 pc 3 (rest [iS 3,lS 6,iS 7,iS 8] (xW9 R) (bk 0 (rest [iS 3] (xJJ R) lf) (lp [iS 3,iS 8] [iS 3,lS 6,iS 7,iS 8] (xKF R) zXH λJ1=>lf)))
theorem yWm (l0:SV) (w:World) (R:Rt) (h:xVB R l0 [] w):Calls prog 126 #[l0.v] w R:=
 plC F126_p func126 h
def xV7(R:Rt)(n3:Int)(ds:Ds)(w:World):Prop:=
 zQb prog ds w λw1=>
 R (.returned (.int .i64 (IntKind.i64.wrap n3))) w1
def xWg (R:Rt) (J1:(Int × Int)->World->Prop) (n3:Int) (l6:SV) (n7 n8:Int) (ds:Ds) (w:World):Prop:=
 Br (decide (n8<n7)) (
 ∃a2,l6.a=some a2/\0<=n8/\n8<(l6.len:Int)/\
 ∃cF,w.cell? (a2.add (n8.toNat * 1))=some (.int .u8 cF)/\
 J1 ((IntKind.u32.wrap ((BitVec.ofInt 32 (IntKind.u32.wrap (n3 * 16777619)) ^^^ BitVec.ofInt 32 (IntKind.u32.wrap cF)).toNat:Nat)),(IntKind.i64.wrap (n8+1))) w) (
 xV7 R n3 ds w)
def xYf(R:Rt)(n3:Int)(l6:SV)(n7 n8:Int)(ds:Ds)(w:World):Prop:=
 zQA (λ(J1:(Int × Int)->World->Prop) (s:Int × Int) (w:World)=>xWg R J1 s.1 l6 n7 s.2 ds w) (n3,n8) w
def xV8(R:Rt)(l0:SV)(ds:Ds)(w:World):Prop:=
 xYf R 7 l0 (l0.len:Int) 0 ds w
theorem F127_p:Pl prog f127 [lS 0] xV8:=λR=>
 pc 3 (rest [kS .u32 3,lS 6,iS 7,iS 8] (xYf R) (bk 0 (rest [kS .u32 3] (xV7 R) lf) (lp [kS .u32 3,iS 8] [kS .u32 3,lS 6,iS 7,iS 8] (xWg R) zXH λJ1=>lf)))
theorem yWy (l0:SV) (w:World) (R:Rt) (h:xV8 R l0 [] w):Calls prog 127 #[l0.v] w R:=
 plC F127_p func127 h
def xKg(R:Rt)(l5:SV)(ds:Ds)(w:World):Prop:=
 zQb prog ds w λw1=>
 R (.returned (l5.v)) w1
def xW5 (R:Rt) (J1:(Int)->World->Prop) (n0:Int) (l5:SV) (fY cF:Int) (ds:Ds) (w:World):Prop:=
 Br (decide (cF<fY)) (
 0<=(IntKind.i64.wrap ((8:Int) * cF))/\
 ∃a2,l5.a=some a2/\0<=cF/\cF<(l5.len:Int)/\
 st1 (a2.add (cF.toNat * 1)) (.int .u8 (IntKind.u8.wrap (n0.fdiv (2 ^ (min (IntKind.i64.wrap ((8:Int) * cF)).toNat 64))))) w λw3=>
 J1 (IntKind.i64.wrap (cF+1)) w3) (
 xKg R l5 ds w)
def xVK(R:Rt)(n0:Int)(l5:SV)(fY cF:Int)(ds:Ds)(w:World):Prop:=
 zQA (λ(J1:(Int)->World->Prop) (s:Int) (w:World)=>xW5 R J1 n0 l5 fY s ds w) cF w
def xWE(R:Rt)(n0 n1:Int)(ds:Ds)(w:World):Prop:=
 ∃l8:SV,∃w4,(Instr.makeSlice 22 (.int .i64 n1) (.int .i64 n1)).run prog w=.ok (l8.v) w4/\
 xVK R n0 l8 (l8.len:Int) 0 ds w4
theorem F143_p:Pl prog f143 [iS 0,iS 1] xWE:=λR=>
 pc 3 (rest [iS 0,lS 5,iS 10,iS 11] (xVK R) (bk 0 (rest [lS 5] (xKg R) lf) (lp [iS 11] [iS 0,lS 5,iS 10,iS 11] (xW5 R) zXH λJ1=>lf)))
theorem yKX (n0 n1:Int) (w:World) (R:Rt) (h:xWE R n0 n1 [] w):Calls prog 143 #[.int .i64 n0,.int .i64 n1] w R:=
 plC F143_p func143 h
def F88_1(R:Rt)(l0:SV)(ds:Ds)(w:World):Prop:=
 Br (decide ((l0.len:Int)<9)) (
 zQb prog ds w λw1=>
 R (.returned (.tuple #[.int .u8 0,.slice none 0 0,.slice none 0 0,.bool false])) w1) (
 0<=(5:Int)/\(5:Int).toNat<=l0.cap/\0<=(1:Int)/\(1:Int).toNat<=(5:Int).toNat/\
 Calls prog 126 #[.slice (if l0.cap=(1:Int).toNat then l0.a else l0.a.map (λx=>x.add ((1:Int).toNat * 1))) ((5:Int).toNat - (1:Int).toNat) (l0.cap - (1:Int).toNat)] w λe w2=>
 ∃dy:Int,e=.returned (.int .i64 dy)/\
 dwE w2 λw3=>
 Br (decide (dy > (IntKind.i64.wrap ((IntKind.i64.wrap ((l0.len:Int) - 5)) - 4)))) (
 zQb prog ds w3 λw4=>
 R (.returned (.tuple #[.int .u8 0,.slice none 0 0,.slice none 0 0,.bool false])) w4) (
 0<=(IntKind.i64.wrap ((IntKind.i64.wrap ((5:Int)+dy))+4))/\(IntKind.i64.wrap ((IntKind.i64.wrap ((5:Int)+dy))+4)).toNat<=l0.cap/\0<=(IntKind.i64.wrap ((5:Int)+dy))/\(IntKind.i64.wrap ((5:Int)+dy)).toNat<=(IntKind.i64.wrap ((IntKind.i64.wrap ((5:Int)+dy))+4)).toNat/\
 0<=(IntKind.i64.wrap ((5:Int)+dy))/\(IntKind.i64.wrap ((5:Int)+dy)).toNat<=l0.cap/\0<=(IntKind.i64.wrap ((5:Int)+dy)).toNat/\
 Calls prog 126 #[.slice (if l0.cap=(IntKind.i64.wrap ((5:Int)+dy)).toNat then l0.a else l0.a.map (λx=>x.add ((IntKind.i64.wrap ((5:Int)+dy)).toNat * 1))) ((IntKind.i64.wrap ((IntKind.i64.wrap ((5:Int)+dy))+4)).toNat - (IntKind.i64.wrap ((5:Int)+dy)).toNat) (l0.cap - (IntKind.i64.wrap ((5:Int)+dy)).toNat)] w3 λe w5=>
 ∃gn:Int,e=.returned (.int .i64 gn)/\
 Calls prog 127 #[.slice (if l0.cap=0 then l0.a else l0.a.map (λx=>x.add (0 * 1))) ((IntKind.i64.wrap ((5:Int)+dy)).toNat - 0) (l0.cap - 0)] w5 λe w6=>
 ∃pq:Int,e=.returned (.int .i64 pq)/\
 Br (gn != pq) (
 zQb prog ds w6 λw7=>
 R (.returned (.tuple #[.int .u8 0,.slice none 0 0,.slice none 0 0,.bool false])) w7) (
 dwE w6 λw8=>
 ∃a9,l0.a=some a9/\0<=(0:Int)/\(0:Int)<(l0.len:Int)/\
 ∃iv,w8.cell? (a9.add ((0:Int).toNat * 1))=some (.int .u8 iv)/\
 0<=(IntKind.i64.wrap ((5:Int)+dy))/\(IntKind.i64.wrap ((5:Int)+dy)).toNat<=l0.cap/\0<=(5:Int)/\(5:Int).toNat<=(IntKind.i64.wrap ((5:Int)+dy)).toNat/\
 l0.len<=l0.cap/\0<=(IntKind.i64.wrap ((IntKind.i64.wrap ((5:Int)+dy))+4))/\(IntKind.i64.wrap ((IntKind.i64.wrap ((5:Int)+dy))+4)).toNat<=l0.len/\
 zQb prog ds w8 λaO=>
 R (.returned (.tuple #[.int .u8 iv,.slice (if l0.cap=(5:Int).toNat then l0.a else l0.a.map (λx=>x.add ((5:Int).toNat * 1))) ((IntKind.i64.wrap ((5:Int)+dy)).toNat - (5:Int).toNat) (l0.cap - (5:Int).toNat),.slice (if l0.cap=(IntKind.i64.wrap ((IntKind.i64.wrap ((5:Int)+dy))+4)).toNat then l0.a else l0.a.map (λx=>x.add ((IntKind.i64.wrap ((IntKind.i64.wrap ((5:Int)+dy))+4)).toNat * 1))) (l0.len - (IntKind.i64.wrap ((IntKind.i64.wrap ((5:Int)+dy))+4)).toNat) (l0.cap - (IntKind.i64.wrap ((IntKind.i64.wrap ((5:Int)+dy))+4)).toNat),.bool true])) aO)))
theorem F88_p:Pl prog f88 [lS 0] F88_1:=λR=>
 lf
theorem xQl (l0:SV) (w:World) (R:Rt) (h:F88_1 R l0 [] w):Calls prog 88 #[l0.v] w R:=
 plC F88_p func88 h
def xKP(R:Rt)(n0:Int)(l1:SV)(ds:Ds)(w:World):Prop:=
 ∃l9:SV,∃w1,(Instr.makeSlice 22 (.int .i64 (IntKind.i64.wrap ((5:Int)+(l1.len:Int)))) (.int .i64 (IntKind.i64.wrap ((5:Int)+(l1.len:Int))))).run prog w=.ok (l9.v) w1/\
 ∃a2,l9.a=some a2/\0<=(0:Int)/\(0:Int)<(l9.len:Int)/\
 st1 (a2.add ((0:Int).toNat * 1)) (.int .u8 n0) w1 λw3=>
 dwE w3 λw4=>
 0<=(5:Int)/\(5:Int).toNat<=l9.cap/\0<=(1:Int)/\(1:Int).toNat<=(5:Int).toNat/\
 Calls prog 143 #[.int .i64 (l1.len:Int),.int .i64 4] w4 λe w5=>
 ∃dH:SV,e=.returned (dH.v)/\
 ∃iI:Int,∃w6,(Builtin.copy_ #[22,22] 3 #[.slice (if l9.cap=(1:Int).toNat then l9.a else l9.a.map (λx=>x.add ((1:Int).toNat * 1))) ((5:Int).toNat - (1:Int).toNat) (l9.cap - (1:Int).toNat),dH.v]).run prog w5=.ok (.int .i64 iI) w6/\
 l9.len<=l9.cap/\0<=(5:Int)/\(5:Int).toNat<=l9.len/\
 ∃dk:Int,∃w7,(Builtin.copy_ #[22,22] 3 #[.slice (if l9.cap=(5:Int).toNat then l9.a else l9.a.map (λx=>x.add ((5:Int).toNat * 1))) (l9.len - (5:Int).toNat) (l9.cap - (5:Int).toNat),l1.v]).run prog w6=.ok (.int .i64 dk) w7/\
 Calls prog 127 #[l9.v] w7 λe w8=>
 ∃ck:Int,e=.returned (.int .i64 ck)/\
 Calls prog 143 #[.int .i64 ck,.int .i64 4] w8 λe w9=>
 ∃dT:SV,e=.returned (dT.v)/\
 ∃bR:SV,∃aO,(Builtin.append_ #[22,22] 22 #[l9.v,dT.v]).run prog w9=.ok (bR.v) aO/\
 zQb prog ds aO λaR=>
 R (.returned (bR.v)) aR
theorem F111_p:Pl prog f111 [kS .u8 0,lS 1] xKP:=λR=>
 lf
theorem yWt (n0:Int) (l1:SV) (w:World) (R:Rt) (h:xKP R n0 l1 [] w):Calls prog 111 #[.int .u8 n0,l1.v] w R:=
 plC F111_p func111 h
end Go.Proofs.YtaeecpjhfmcliaaGreatDoor
/- Shallow texts of functions, printed by program, each checked by the kernel against the loaded code. No condition. -/
namespace Go.Proofs.YtaeecpjhfmcliaaGreatDoor
open Go.Sh Tryz
def F46_1(R:Rt)(l3:SV)(ds:Ds)(w:World):Prop:=
 zQb prog ds w λw1=>
 R (.returned (l3.v)) w1
def xYp (R:Rt) (J1:(Int)->World->Prop) (l3 l7:SV) (n8 n9:Int) (ds:Ds) (w:World):Prop:=
 Br (decide (n9<n8)) (
 ∃a2,l7.a=some a2/\0<=n9/\n9<(l7.len:Int)/\
 ∃cy:SV,w.cell? (a2.add (n9.toNat * 1))=some (cy.v)/\
 ∃du:SV,∃w3,(Instr.makeSlice 22 (.int .i64 (cy.len:Int)) (.int .i64 (cy.len:Int))).run prog w=.ok (du.v) w3/\
 ∃a4,l3.a=some a4/\0<=n9/\n9<(l3.len:Int)/\
 st1 (a4.add (n9.toNat * 1)) (du.v) w3 λw5=>
 ∃a6,l3.a=some a6/\0<=n9/\n9<(l3.len:Int)/\
 ∃gl:SV,w5.cell? (a6.add (n9.toNat * 1))=some (gl.v)/\
 ∃ck:Int,∃w7,(Builtin.copy_ #[22,22] 3 #[gl.v,cy.v]).run prog w5=.ok (.int .i64 ck) w7/\
 J1 (IntKind.i64.wrap (n9+1)) w7) (
 F46_1 R l3 ds w)
def F46_3(R:Rt)(l3 l7:SV)(n8 n9:Int)(ds:Ds)(w:World):Prop:=
 zQA (λ(J1:(Int)->World->Prop) (s:Int) (w:World)=>xYp R J1 l3 l7 n8 s ds w) n9 w
def F46_5(R:Rt)(l0:SV)(ds:Ds)(w:World):Prop:=
 ∃l6:SV,∃w8,(Instr.makeSlice 83 (.int .i64 2) (.int .i64 2)).run prog w=.ok (l6.v) w8/\
 F46_3 R l6 l0 (l0.len:Int) 0 ds w8
theorem F46_p:Pl prog f46 [lS 0] F46_5:=λR=>
 pc 3 (rest [lS 3,lS 7,iS 8,iS 9] (F46_3 R) (bk 0 (rest [lS 3] (F46_1 R) lf) (lp [iS 9] [lS 3,lS 7,iS 8,iS 9] (xYp R) zXH λJ1=>lf)))
theorem xQf (l0:SV) (w:World) (R:Rt) (h:F46_5 R l0 [] w):Calls prog 46 #[l0.v] w R:=
 plC F46_p func46 h
def F47_1 (R:Rt) (J1:(Bool × Bool × SV)->World->Prop) (l0:SV) (p2 p6:Option Addr) (b8 b9:Bool) (dX:SV) (ds:Ds) (w:World):Prop:=
 Calls prog 88 #[dX.v] w λe w1=>
 ∃cN:Int,∃cw:SV,∃eY:SV,∃nO:Bool,e=.returned (.tuple #[.int .u8 cN,cw.v,eY.v,.bool nO])/\
 Br (!nO) (
 dwE w1 λw2=>
 ∃S1:World->Prop,S1 w2/\
 zQg p6 λa3=>
 ∃gP,(∀w',S1 w'->w'.cell? (a3.add 0)=some (.int .i64 gP))/\
 ∃cc:SV,(∀w',S1 w'->w'.cell? (a3.add 1)=some (cc.v))/\
 ∃ce:SV,(∀w',S1 w'->w'.cell? (a3.add 2)=some (ce.v))/\
 ∃a4,l0.a=some a4/\0<=(1:Int)/\(1:Int)<(l0.len:Int)/\
 ∃iM:SV,(∀w',S1 w'->w'.cell? (a4.add ((1:Int).toNat * 1))=some (iM.v))/\
 zQg p2 λa5=>
 stA prog 35 a5 #[.int .i64 gP,cc.v,ce.v] w2 λw6=>
 S1 w6/\
 zQb prog ds w6 λw7=>
 zQg p2 λa8=>
 ∃ag,w7.cell? (a8.add 0)=some (.int .i64 ag)/\
 ∃ab:SV,w7.cell? (a8.add 1)=some (ab.v)/\
 ∃ae:SV,w7.cell? (a8.add 2)=some (ae.v)/\
 R (.returned (.tuple #[.agg #[.int .i64 ag,ab.v,ae.v],.int .i64 (IntKind.i64.wrap ((iM.len:Int) - (dX.len:Int))),.bool b9,.bool b8])) w7) (
 Br (cN == 119) (
 Calls prog 87 #[cw.v] w1 λe w9=>
 ∃pA:Int,∃gU:SV,∃gV:SV,∃nx:Int,e=.returned (.tuple #[.agg #[.int .i64 pA,gU.v,gV.v],.int .i64 nx])/\
 zQg p6 λeE=>
 stA prog 35 eE #[.int .i64 pA,gU.v,gV.v] w9 λaR=>
 J1 ((nx == 0),true,eY) aR) (
 Br (cN != 99) (
 J1 (false,b9,eY) w1) (
 Br b8 (
 zQg p6 λkF=>
 ∃dJ,w1.cell? (kF.add 0)=some (.int .i64 dJ)/\
 ∃bA:SV,w1.cell? (kF.add 1)=some (bA.v)/\
 ∃fI:SV,w1.cell? (kF.add 2)=some (fI.v)/\
 Calls prog 89 #[.agg #[.int .i64 dJ,bA.v,fI.v],cw.v] w1 λe aH=>
 ∃pB:Int,∃gW:SV,∃gX:SV,∃uK:Bool,e=.returned (.tuple #[.agg #[.int .i64 pB,gW.v,gX.v],.bool uK])/\
 zQg p6 λga=>
 stA prog 35 ga #[.int .i64 pB,gW.v,gX.v] aH λbt=>
 J1 (uK,b9,eY) bt) (
 J1 (b8,b9,eY) w1))))
def F47_2(R:Rt)(l0:SV)(p2 p6:Option Addr)(b8 b9:Bool)(dX:SV)(ds:Ds)(w:World):Prop:=
 zQA (λ(J1:(Bool × Bool × SV)->World->Prop) (s:Bool × Bool × SV) (w:World)=>F47_1 R J1 l0 p2 p6 s.1 s.2.1 s.2.2 ds w) (b8,b9,dX) w
def F47_4(R:Rt)(l0:SV)(ds:Ds)(w:World):Prop:=
 alE (.cells #[.int .i64 0,.slice none 0 0,.slice none 0 0] 35) w λr2 bB=>
 ∃qY,l0.a=some qY/\0<=(0:Int)/\(0:Int)<(l0.len:Int)/\
 ∃du:SV,bB.cell? (qY.add ((0:Int).toNat * 1))=some (du.v)/\
 Calls prog 87 #[du.v] bB λe bI=>
 ∃iQ:Int,∃cB:SV,∃cC:SV,∃bQ:Int,e=.returned (.tuple #[.agg #[.int .i64 iQ,cB.v,cC.v],.int .i64 bQ])/\
 alE (.cells #[.int .i64 0,.slice none 0 0,.slice none 0 0] 35) bI λr6 cE=>
 stA prog 35 (⟨r6,0,none⟩:Addr) #[.int .i64 iQ,cB.v,cC.v] cE λbO=>
 ∃a21,l0.a=some a21/\0<=(1:Int)/\(1:Int)<(l0.len:Int)/\
 ∃dT:SV,bO.cell? (a21.add ((1:Int).toNat * 1))=some (dT.v)/\
 F47_2 R l0 (some (⟨r2,0,none⟩:Addr)) (some (⟨r6,0,none⟩:Addr)) (bQ == 0) false dT ds bO
theorem F47_p:Pl prog f47 [lS 0] F47_4:=λR=>
 pc 4 (rest [lS 0,pS 2,pS 6,bS 8,bS 9,lS 10] (F47_2 R) (bk 0 zXH (lp [bS 8,bS 9,lS 10] [lS 0,pS 2,pS 6,bS 8,bS 9,lS 10] (F47_1 R) zXH λJ1=>lf)))
theorem xXx (l0:SV) (w:World) (R:Rt) (h:F47_4 R l0 [] w):Calls prog 47 #[l0.v] w R:=
 plC F47_p func47 h
def F51_1(R:Rt)(l0:SV)(ds:Ds)(w:World):Prop:=
 alE (.cells #[.slice none 0 0,.slice none 0 0] 63) w λr2 w1=>
 Calls prog 46 #[l0.v] w1 λe w2=>
 ∃l5:SV,e=.returned (l5.v)/\
 dwE w2 λw3=>
 ∃a4,l5.a=some a4/\0<=(0:Int)/\(0:Int)<(l5.len:Int)/\
 ∃l8:SV,w3.cell? (a4.add ((0:Int).toNat * 1))=some (l8.v)/\
 ∃a5,l5.a=some a5/\0<=(1:Int)/\(1:Int)<(l5.len:Int)/\
 ∃ct:SV,w3.cell? (a5.add ((1:Int).toNat * 1))=some (ct.v)/\
 stA prog 63 (⟨r2,0,none⟩:Addr) #[l8.v,ct.v] w3 λw6=>
 zQb prog ds w6 λw7=>
 ∃lc:SV,w7.cell? ((⟨r2,0,none⟩:Addr).add 0)=some (lc.v)/\
 ∃ab:SV,w7.cell? ((⟨r2,0,none⟩:Addr).add 1)=some (ab.v)/\
 R (.returned (.agg #[lc.v,ab.v])) w7
theorem F51_p:Pl prog f51 [lS 0] F51_1:=λR=>
 lf
theorem xXY (l0:SV) (w:World) (R:Rt) (h:F51_1 R l0 [] w):Calls prog 51 #[l0.v] w R:=
 plC F51_p func51 h
end Go.Proofs.YtaeecpjhfmcliaaGreatDoor
/- Shallow texts of functions, printed by program, each checked by the kernel against the loaded code. No condition. -/
namespace Go.Proofs.YtaeecpjhfmcliaaGreatDoor
open Go.Sh Tryz
def F85_1(R:Rt)(au:Int)(ah ai:SV)(ds:Ds)(w:World):Prop:=
 alE (.cells #[.int .i64 au,ah.v,ai.v] 35) w λr1 w1=>
 ∃nH,w1.cell? ((⟨r1,0,none⟩:Addr).add 0)=some (.int .i64 nH)/\
 ∃fq:SV,w1.cell? ((⟨r1,0,none⟩:Addr).add 1)=some (fq.v)/\
 ∃ft:SV,w1.cell? ((⟨r1,0,none⟩:Addr).add 2)=some (ft.v)/\
 Calls prog 86 #[.agg #[.int .i64 nH,fq.v,ft.v]] w1 λe w2=>
 ∃qe:SV,∃dE:Int,e=.returned (.tuple #[qe.v,.int .i64 dE])/\
 Calls prog 111 #[.int .u8 119,qe.v] w2 λe w3=>
 ∃ct:SV,e=.returned (ct.v)/\
 zQb prog ds w3 λw4=>
 R (.returned (ct.v)) w4
theorem F85_p:Pl prog f85 [aS 0 [.int .i64,.slice,.slice]] F85_1:=λR=>
 lf
theorem xQ6 (au:Int) (ah ai:SV) (w:World) (R:Rt) (h:F85_1 R au ah ai [] w):Calls prog 85 #[.agg #[.int .i64 au,ah.v,ai.v]] w R:=
 plC F85_p func85 h
def F48_1(R:Rt)(l0:SV)(ds:Ds)(w:World):Prop:=
 Calls prog 47 #[l0.v] w λe w1=>
 ∃pC:Int,∃gY:SV,∃gZ:SV,∃ed:Int,∃nQ:Bool,∃zn:Bool,e=.returned (.tuple #[.agg #[.int .i64 pC,gY.v,gZ.v],.int .i64 ed,.bool nQ,.bool zn])/\
 alE (.cells #[.int .i64 0,.slice none 0 0,.slice none 0 0] 35) w1 λr3 w2=>
 stA prog 35 (⟨r3,0,none⟩:Addr) #[.int .i64 pC,gY.v,gZ.v] w2 λw3=>
 ∃a4,l0.a=some a4/\0<=(1:Int)/\(1:Int)<(l0.len:Int)/\
 ∃dW:SV,w3.cell? (a4.add ((1:Int).toNat * 1))=some (dW.v)/\
 Br (decide (ed<(dW.len:Int))) (
 alE (.cells #[.int .i64 1,.int .i64 ed,.slice none 0 0] 90) w3 λr26 w5=>
 ∃bR:SV,∃w6,(Builtin.append_ #[87,87] 87 #[.slice none 0 0,.slice (some ⟨r26,0,none⟩) 1 1]).run prog w5=.ok (bR.v) w6/\
 Br nQ (
 ∃dL,w6.cell? ((⟨r3,0,none⟩:Addr).add 0)=some (.int .i64 dL)/\
 ∃bh:SV,w6.cell? ((⟨r3,0,none⟩:Addr).add 1)=some (bh.v)/\
 ∃bi:SV,w6.cell? ((⟨r3,0,none⟩:Addr).add 2)=some (bi.v)/\
 Calls prog 86 #[.agg #[.int .i64 dL,bh.v,bi.v]] w6 λe w7=>
 ∃cS:SV,∃gD:Int,e=.returned (.tuple #[cS.v,.int .i64 gD])/\
 alE (.cells #[.int .i64 0,.int .i64 0,.slice none 0 0,.int .i64 0,.int .i64 0,cS.v,.int .i64 1,.int .i64 0,.slice none 0 0] 90) w7 λzo w8=>
 ∃bH:SV,∃w9,(Builtin.append_ #[87,87] 87 #[bR.v,.slice (some ⟨zo,0,none⟩) 3 3]).run prog w8=.ok (bH.v) w9/\
 zQb prog ds w9 λaO=>
 R (.returned (bH.v)) aO) (
 zQb prog ds w6 λaR=>
 R (.returned (bR.v)) aR)) (
 Br nQ (
 ∃dL,w3.cell? ((⟨r3,0,none⟩:Addr).add 0)=some (.int .i64 dL)/\
 ∃bh:SV,w3.cell? ((⟨r3,0,none⟩:Addr).add 1)=some (bh.v)/\
 ∃bi:SV,w3.cell? ((⟨r3,0,none⟩:Addr).add 2)=some (bi.v)/\
 Calls prog 86 #[.agg #[.int .i64 dL,bh.v,bi.v]] w3 λe aM=>
 ∃cS:SV,∃gD:Int,e=.returned (.tuple #[cS.v,.int .i64 gD])/\
 alE (.cells #[.int .i64 0,.int .i64 0,.slice none 0 0,.int .i64 0,.int .i64 0,cS.v,.int .i64 1,.int .i64 0,.slice none 0 0] 90) aM λzo aH=>
 ∃bH:SV,∃bo,(Builtin.append_ #[87,87] 87 #[.slice none 0 0,.slice (some ⟨zo,0,none⟩) 3 3]).run prog aH=.ok (bH.v) bo/\
 zQb prog ds bo λbt=>
 R (.returned (bH.v)) bt) (
 zQb prog ds w3 λbB=>
 R (.returned (.slice none 0 0)) bB))
theorem F48_p:Pl prog f48 [lS 0] F48_1:=λR=>
 lf
theorem xXV (l0:SV) (w:World) (R:Rt) (h:F48_1 R l0 [] w):Calls prog 48 #[l0.v] w R:=
 plC F48_p func48 h
def F49_1(R:Rt)(l0:SV)(bD co:Int)(cu:SV)(ds:Ds)(w:World):Prop:=
 alE (.cells #[.int .i64 bD,.int .i64 co,cu.v] 90) w λr3 w1=>
 dwE w1 λw2=>
 ∃S1:World->Prop,S1 w2/\
 ∃iO,(∀w',S1 w'->w'.cell? ((⟨r3,0,none⟩:Addr).add 0)=some (.int .i64 iO))/\
 ∃zp,(∀w',S1 w'->w'.cell? ((⟨r3,0,none⟩:Addr).add 1)=some (.int .i64 zp))/\
 ∃cz:SV,(∀w',S1 w'->w'.cell? ((⟨r3,0,none⟩:Addr).add 2)=some (cz.v))/\
 ∃eH,(∀w',S1 w'->w'.cell? ((⟨r3,0,none⟩:Addr).add 0)=some (.int .i64 eH))/\
 ∃dE,(∀w',S1 w'->w'.cell? ((⟨r3,0,none⟩:Addr).add 1)=some (.int .i64 dE))/\
 ∃bT:SV,(∀w',S1 w'->w'.cell? ((⟨r3,0,none⟩:Addr).add 2)=some (bT.v))/\
 Calls prog 90 #[.agg #[.int .i64 eH,.int .i64 dE,bT.v]] w2 λe w3=>
 ∃n8:Int,e=.returned (.int .i64 n8)/\
 S1 w3/\
 Calls prog 76 #[.agg #[.int .i64 iO,.int .i64 zp,cz.v],l0.v,.int .i64 n8] w3 λe w4=>
 ∃l9:SV,e=.returned (l9.v)/\
 zQb prog ds w4 λw5=>
 R (.returned (l9.v)) w5
theorem F49_p:Pl prog f49 [lS 0,aS 1 [.int .i64,.int .i64,.slice]] F49_1:=λR=>
 lf
theorem xXQ (l0:SV) (bD co:Int) (cu:SV) (w:World) (R:Rt) (h:F49_1 R l0 bD co cu [] w):Calls prog 49 #[l0.v,.agg #[.int .i64 bD,.int .i64 co,cu.v]] w R:=
 plC F49_p func49 h
end Go.Proofs.YtaeecpjhfmcliaaGreatDoor
/- Shallow texts of functions, printed by program, each checked by the kernel against the loaded code. No condition. -/
namespace Go.Proofs.YtaeecpjhfmcliaaGreatDoor
open Go.Sh Tryz
def xWT(R:Rt)(au:Int)(ah ai l1:SV)(ds:Ds)(w:World):Prop:=
 alE (.cells #[.int .i64 au,ah.v,ai.v] 35) w λr2 w1=>
 alE (.cells #[.bool false,.slice none 0 0] 67) w1 λr4 w2=>
 ∃bP:SV,w2.cell? ((⟨r2,0,none⟩:Addr).add 1)=some (bP.v)/\
 Calls prog 164 #[bP.v] w2 λe w3=>
 ∃pD:Bool,∃hH:SV,∃gC:Int,e=.returned (.tuple #[.agg #[.bool pD,hH.v],.int .i64 gC])/\
 alE (.cells #[.bool false,.slice none 0 0] 67) w3 λr6 w4=>
 stA prog 67 (⟨r6,0,none⟩:Addr) #[.bool pD,hH.v] w4 λw5=>
 ∃j9,w5.cell? (⟨r2,0,none⟩:Addr)=some (.int .i64 j9)/\
 ∃dw:SV,w5.cell? ((⟨r2,0,none⟩:Addr).add 1)=some (dw.v)/\
 ∃uL,w5.cell? ((⟨r6,0,none⟩:Addr).add 0)=some (.bool uL)/\
 ∃lg:SV,w5.cell? ((⟨r6,0,none⟩:Addr).add 1)=some (lg.v)/\
 alE (.cells #[.bool uL,lg.v] 67) w5 λr24 w6=>
 Calls prog 165 #[.agg #[.int .i64 j9,dw.v,.slice (some ⟨r24,0,none⟩) 1 1]] w6 λe w7=>
 ∃li:SV,∃fm:Int,e=.returned (.tuple #[li.v,.int .i64 fm])/\
 ∃im:SV,∃w8,(Builtin.append_ #[22,22] 22 #[li.v,l1.v]).run prog w7=.ok (im.v) w8/\
 alE (.cells #[.int .u8 26] 5) w8 λr33 w9=>
 ∃j6:SV,∃aO,(Builtin.append_ #[22,22] 22 #[im.v,.slice (some ⟨r33,0,none⟩) 1 1]).run prog w9=.ok (j6.v) aO/\
 Calls prog 87 #[j6.v] aO λe aR=>
 ∃pE:Int,∃hM:SV,∃hZ:SV,∃nR:Int,e=.returned (.tuple #[.agg #[.int .i64 pE,hM.v,hZ.v],.int .i64 nR])/\
 alE (.cells #[.int .i64 0,.slice none 0 0,.slice none 0 0] 35) aR λdI aM=>
 stA prog 35 (⟨dI,0,none⟩:Addr) #[.int .i64 pE,hM.v,hZ.v] aM λaH=>
 Br (nR != 0) (
 stA prog 67 (⟨r4,0,none⟩:Addr) #[.bool false,.slice none 0 0] aH λbo=>
 zQb prog ds bo λbt=>
 ∃bL,bt.cell? ((⟨r4,0,none⟩:Addr).add 0)=some (.bool bL)/\
 ∃ab:SV,bt.cell? ((⟨r4,0,none⟩:Addr).add 1)=some (ab.v)/\
 R (.returned (.tuple #[.agg #[.bool bL,ab.v],.bool false])) bt) (
 ∃kw:SV,aH.cell? ((⟨dI,0,none⟩:Addr).add 2)=some (kw.v)/\
 ∃iJ,kw.a=some iJ/\0<=(0:Int)/\(0:Int)<(kw.len:Int)/\
 ∃nI,aH.cell? ((iJ.add ((0:Int).toNat * 2)).add 0)=some (.bool nI)/\
 ∃fv:SV,aH.cell? ((iJ.add ((0:Int).toNat * 2)).add 1)=some (fv.v)/\
 stA prog 67 (⟨r4,0,none⟩:Addr) #[.bool nI,fv.v] aH λbG=>
 zQb prog ds bG λbI=>
 ∃bL,bI.cell? ((⟨r4,0,none⟩:Addr).add 0)=some (.bool bL)/\
 ∃ab:SV,bI.cell? ((⟨r4,0,none⟩:Addr).add 1)=some (ab.v)/\
 R (.returned (.tuple #[.agg #[.bool bL,ab.v],.bool true])) bI)
theorem F129_p:Pl prog f129 [aS 0 [.int .i64,.slice,.slice],lS 1] xWT:=λR=>
 lf
theorem yW7 (au:Int) (ah ai l1:SV) (w:World) (R:Rt) (h:xWT R au ah ai l1 [] w):Calls prog 129 #[.agg #[.int .i64 au,ah.v,ai.v],l1.v] w R:=
 plC F129_p func129 h
def xKH(R:Rt)(l5:SV)(ds:Ds)(w:World):Prop:=
 zQb prog ds w λw1=>
 R (.returned (l5.v)) w1
def xWi (R:Rt) (J1:(SV × Int)->World->Prop) (p2:Option Addr) (l5 bP:SV) (kJ n16:Int) (ds:Ds) (w:World):Prop:=
 Br (decide (n16<kJ)) (
 ∃a2,bP.a=some a2/\0<=n16/\n16<(bP.len:Int)/\
 ∃jb,w.cell? (a2.add (n16.toNat * 1))=some (.int .i64 jb)/\
 zQg p2 λa3=>
 ∃dw:SV,w.cell? (a3.add 2)=some (dw.v)/\
 Br (decide (jb > (dw.len:Int))) (
 J1 (l5,(IntKind.i64.wrap (n16+1))) w) (
 zQg p2 λa4=>
 ∃eO,w.cell? (a4.add 0)=some (.int .i64 eO)/\
 ∃bx:SV,w.cell? (a4.add 1)=some (bx.v)/\
 ∃cQ:SV,w.cell? (a4.add 2)=some (cQ.v)/\
 Calls prog 144 #[.agg #[.int .i64 eO,bx.v,cQ.v],.int .i64 jb] w λe w5=>
 ∃lj:SV,∃zq:Int,e=.returned (.tuple #[lj.v,.int .i64 zq])/\
 Calls prog 143 #[.int .i64 jb,.int .i64 2] w5 λe w6=>
 ∃iL:SV,e=.returned (iL.v)/\
 ∃j6:SV,∃w7,(Builtin.append_ #[22,22] 22 #[l5.v,iL.v]).run prog w6=.ok (j6.v) w7/\
 ∃iF:SV,∃w8,(Builtin.append_ #[22,22] 22 #[j6.v,lj.v]).run prog w7=.ok (iF.v) w8/\
 J1 (iF,(IntKind.i64.wrap (n16+1))) w8)) (
 xKH R l5 ds w)
def xJQ(R:Rt)(p2:Option Addr)(l5 bP:SV)(kJ n16:Int)(ds:Ds)(w:World):Prop:=
 zQA (λ(J1:(SV × Int)->World->Prop) (s:SV × Int) (w:World)=>xWi R J1 p2 s.1 bP kJ s.2 ds w) (l5,n16) w
def xW7(R:Rt)(au:Int)(ah ai l1:SV)(ds:Ds)(w:World):Prop:=
 alE (.cells #[.int .i64 au,ah.v,ai.v] 35) w λr2 w9=>
 ∃ct:SV,w9.cell? ((⟨r2,0,none⟩:Addr).add 2)=some (ct.v)/\
 Calls prog 143 #[.int .i64 (ct.len:Int),.int .i64 2] w9 λe aO=>
 ∃cy:SV,e=.returned (cy.v)/\
 xJQ R (some (⟨r2,0,none⟩:Addr)) cy l1 (l1.len:Int) 0 ds aO
theorem F112_p:Pl prog f112 [aS 0 [.int .i64,.slice,.slice],lS 1] xW7:=λR=>
 pc 3 (rest [pS 2,lS 5,lS 14,iS 15,iS 16] (xJQ R) (bk 0 (rest [lS 5] (xKH R) lf) (lp [lS 5,iS 16] [pS 2,lS 5,lS 14,iS 15,iS 16] (xWi R) zXH λJ1=>lf)))
theorem yV7 (au:Int) (ah ai l1:SV) (w:World) (R:Rt) (h:xW7 R au ah ai l1 [] w):Calls prog 112 #[.agg #[.int .i64 au,ah.v,ai.v],l1.v] w R:=
 plC F112_p func112 h
end Go.Proofs.YtaeecpjhfmcliaaGreatDoor
/- Shallow texts of functions, printed by program, each checked by the kernel against the loaded code. No condition. -/
namespace Go.Proofs.YtaeecpjhfmcliaaGreatDoor
open Go.Sh Tryz
def F89_1(R:Rt)(p2 p4:Option Addr)(n8:Int)(ds:Ds)(w:World):Prop:=
 dwE w λw1=>
 ∃S1:World->Prop,S1 w1/\
 zQg p2 λa2=>
 ∃uM,(∀w',S1 w'->w'.cell? (a2.add 0)=some (.int .i64 uM))/\
 ∃lk:SV,(∀w',S1 w'->w'.cell? (a2.add 1)=some (lk.v))/\
 ∃lm:SV,(∀w',S1 w'->w'.cell? (a2.add 2)=some (lm.v))/\
 zQg p2 λa3=>
 ∃l96:SV,(∀w',S1 w'->w'.cell? (a3.add 2)=some (l96.v))/\
 zQg p4 λa4=>
 stA prog 35 a4 #[.int .i64 uM,lk.v,lm.v] w1 λw5=>
 S1 w5/\
 zQb prog ds w5 λw6=>
 zQg p4 λa7=>
 ∃ag,w6.cell? (a7.add 0)=some (.int .i64 ag)/\
 ∃ab:SV,w6.cell? (a7.add 1)=some (ab.v)/\
 ∃ae:SV,w6.cell? (a7.add 2)=some (ae.v)/\
 R (.returned (.tuple #[.agg #[.int .i64 ag,ab.v,ae.v],.bool ((l96.len:Int) == n8)])) w6
def zY8 (R:Rt) (J1:(SV)->World->Prop) (p2 p4:Option Addr) (n6 n8:Int) (l9:SV) (ds:Ds) (w:World):Prop:=
 l9.len<=l9.cap/\0<=(IntKind.i64.wrap (n6+2))/\(IntKind.i64.wrap (n6+2)).toNat<=l9.len/\
 J1 ⟨(if l9.cap=(IntKind.i64.wrap (n6+2)).toNat then l9.a else l9.a.map (λx=>x.add ((IntKind.i64.wrap (n6+2)).toNat * 1))),(l9.len - (IntKind.i64.wrap (n6+2)).toNat),(l9.cap - (IntKind.i64.wrap (n6+2)).toNat)⟩ w
def F89_3 (R:Rt) (J1:(SV)->World->Prop) (p2 p4:Option Addr) (n6 n8:Int) (l9:SV) (ds:Ds) (w:World):Prop:=
 0<=(2:Int)/\(2:Int).toNat<=l9.cap/\0<=(2:Int).toNat/\
 Calls prog 126 #[.slice (if l9.cap=0 then l9.a else l9.a.map (λx=>x.add (0 * 1))) ((2:Int).toNat - 0) (l9.cap - 0)] w λe w8=>
 ∃dq:Int,e=.returned (.int .i64 dq)/\
 dwE w8 λw9=>
 ∃S2:World->Prop,S2 w9/\
 zQg p2 λeE=>
 ∃kW,(∀w',S2 w'->w'.cell? (eE.add 0)=some (.int .i64 kW))/\
 ∃iR:SV,(∀w',S2 w'->w'.cell? (eE.add 1)=some (iR.v))/\
 ∃iT:SV,(∀w',S2 w'->w'.cell? (eE.add 2)=some (iT.v))/\
 0<=(IntKind.i64.wrap (n6+2))/\(IntKind.i64.wrap (n6+2)).toNat<=l9.cap/\0<=(2:Int)/\(2:Int).toNat<=(IntKind.i64.wrap (n6+2)).toNat/\
 (
 Calls prog 129 #[.agg #[.int .i64 kW,iR.v,iT.v],.slice (if l9.cap=(2:Int).toNat then l9.a else l9.a.map (λx=>x.add ((2:Int).toNat * 1))) ((IntKind.i64.wrap (n6+2)).toNat - (2:Int).toNat) (l9.cap - (2:Int).toNat)] w9 λe aR=>
 ∃iU:Bool,∃cD:SV,∃kx:Bool,e=.returned (.tuple #[.agg #[.bool iU,cD.v],.bool kx])/\
 alE (.cells #[.bool false,.slice none 0 0] 67) aR λcn aM=>
 stA prog 67 (⟨cn,0,none⟩:Addr) #[.bool iU,cD.v] aM λaH=>
 Br (!kx) (
 zQg p2 λga=>
 ∃bp,aH.cell? (ga.add 0)=some (.int .i64 bp)/\
 ∃aw:SV,aH.cell? (ga.add 1)=some (aw.v)/\
 ∃aC:SV,aH.cell? (ga.add 2)=some (aC.v)/\
 zQg p4 λjr=>
 stA prog 35 jr #[.int .i64 bp,aw.v,aC.v] aH λbB=>
 zQb prog ds bB λbG=>
 zQg p4 λjq=>
 ∃ag,bG.cell? (jq.add 0)=some (.int .i64 ag)/\
 ∃ab:SV,bG.cell? (jq.add 1)=some (ab.v)/\
 ∃ae:SV,bG.cell? (jq.add 2)=some (ae.v)/\
 R (.returned (.tuple #[.agg #[.int .i64 ag,ab.v,ae.v],.bool false])) bG) (
 Br (decide (dq<1)) (
 zQg p2 λkH=>
 ∃bp,aH.cell? (kH.add 0)=some (.int .i64 bp)/\
 ∃aw:SV,aH.cell? (kH.add 1)=some (aw.v)/\
 ∃aC:SV,aH.cell? (kH.add 2)=some (aC.v)/\
 zQg p4 λa20=>
 stA prog 35 a20 #[.int .i64 bp,aw.v,aC.v] aH λcq=>
 zQb prog ds cq λd7=>
 zQg p4 λo2=>
 ∃ag,d7.cell? (o2.add 0)=some (.int .i64 ag)/\
 ∃ab:SV,d7.cell? (o2.add 1)=some (ab.v)/\
 ∃ae:SV,d7.cell? (o2.add 2)=some (ae.v)/\
 R (.returned (.tuple #[.agg #[.int .i64 ag,ab.v,ae.v],.bool false])) d7) (
 zQg p2 λwu=>
 ∃pF:SV,aH.cell? (wu.add 2)=some (pF.v)/\
 Br (decide (dq > (IntKind.i64.wrap ((pF.len:Int)+1)))) (
 zQg p2 λmK=>
 ∃bp,aH.cell? (mK.add 0)=some (.int .i64 bp)/\
 ∃aw:SV,aH.cell? (mK.add 1)=some (aw.v)/\
 ∃aC:SV,aH.cell? (mK.add 2)=some (aC.v)/\
 zQg p4 λwJ=>
 stA prog 35 wJ #[.int .i64 bp,aw.v,aC.v] aH λiy=>
 zQb prog ds iy λeg=>
 zQg p4 λrj=>
 ∃ag,eg.cell? (rj.add 0)=some (.int .i64 ag)/\
 ∃ab:SV,eg.cell? (rj.add 1)=some (ab.v)/\
 ∃ae:SV,eg.cell? (rj.add 2)=some (ae.v)/\
 R (.returned (.tuple #[.agg #[.int .i64 ag,ab.v,ae.v],.bool false])) eg) (
 Br (decide (dq > 300)) (
 zQg p2 λoO=>
 ∃bp,aH.cell? (oO.add 0)=some (.int .i64 bp)/\
 ∃aw:SV,aH.cell? (oO.add 1)=some (aw.v)/\
 ∃aC:SV,aH.cell? (oO.add 2)=some (aC.v)/\
 zQg p4 λsr=>
 stA prog 35 sr #[.int .i64 bp,aw.v,aC.v] aH λgz=>
 zQb prog ds gz λgk=>
 zQg p4 λsD=>
 ∃ag,gk.cell? (sD.add 0)=some (.int .i64 ag)/\
 ∃ab:SV,gk.cell? (sD.add 1)=some (ab.v)/\
 ∃ae:SV,gk.cell? (sD.add 2)=some (ae.v)/\
 R (.returned (.tuple #[.agg #[.int .i64 ag,ab.v,ae.v],.bool false])) gk) (
 zQg p2 λss=>
 ∃i9:SV,aH.cell? (ss.add 2)=some (i9.v)/\
 Br (decide (dq > (i9.len:Int))) (
 zQg p2 λqy=>
 ∃aD:SV,aH.cell? (qy.add 2)=some (aD.v)/\
 ∃jP,aH.cell? ((⟨cn,0,none⟩:Addr).add 0)=some (.bool jP)/\
 ∃cT:SV,aH.cell? ((⟨cn,0,none⟩:Addr).add 1)=some (cT.v)/\
 alE (.cells #[.bool jP,cT.v] 67) aH λcv oT=>
 ∃aE:SV,∃oP,(Builtin.append_ #[33,33] 33 #[aD.v,.slice (some ⟨cv,0,none⟩) 1 1]).run prog oT=.ok (aE.v) oP/\
 zQg p2 λa39=>
 st1 (a39.add 2) (aE.v) oP λsB=>
 zY8 R J1 p2 p4 n6 n8 l9 ds sB) (
 zQg p2 λx9=>
 ∃nS:SV,aH.cell? (x9.add 2)=some (nS.v)/\
 ∃jQ,aH.cell? ((⟨cn,0,none⟩:Addr).add 0)=some (.bool jQ)/\
 ∃cU:SV,aH.cell? ((⟨cn,0,none⟩:Addr).add 1)=some (cU.v)/\
 ∃sv,nS.a=some sv/\0<=(IntKind.i64.wrap (dq - 1))/\(IntKind.i64.wrap (dq - 1))<(nS.len:Int)/\
 stA prog 67 (sv.add ((IntKind.i64.wrap (dq - 1)).toNat * 2)) #[.bool jQ,cU.v] aH λqO=>
 zY8 R J1 p2 p4 n6 n8 l9 ds qO))))))/\(
 alE (.cells #[.bool false,.slice none 0 0] 67) w9 λcn mL=>
 S2 mL/\
 Calls prog 129 #[.agg #[.int .i64 kW,iR.v,iT.v],.slice (if l9.cap=(2:Int).toNat then l9.a else l9.a.map (λx=>x.add ((2:Int).toNat * 1))) ((IntKind.i64.wrap (n6+2)).toNat - (2:Int).toNat) (l9.cap - (2:Int).toNat)] mL λe wA=>
 ∃iU:Bool,∃cD:SV,∃kx:Bool,e=.returned (.tuple #[.agg #[.bool iU,cD.v],.bool kx])/\
 stA prog 67 (⟨cn,0,none⟩:Addr) #[.bool iU,cD.v] wA λgT=>
 Br (!kx) (
 zQg p2 λya=>
 ∃bp,gT.cell? (ya.add 0)=some (.int .i64 bp)/\
 ∃aw:SV,gT.cell? (ya.add 1)=some (aw.v)/\
 ∃aC:SV,gT.cell? (ya.add 2)=some (aC.v)/\
 zQg p4 λa48=>
 stA prog 35 a48 #[.int .i64 bp,aw.v,aC.v] gT λxo=>
 zQb prog ds xo λxy=>
 zQg p4 λa51=>
 ∃ag,xy.cell? (a51.add 0)=some (.int .i64 ag)/\
 ∃ab:SV,xy.cell? (a51.add 1)=some (ab.v)/\
 ∃ae:SV,xy.cell? (a51.add 2)=some (ae.v)/\
 R (.returned (.tuple #[.agg #[.int .i64 ag,ab.v,ae.v],.bool false])) xy) (
 Br (decide (dq<1)) (
 zQg p2 λwm=>
 ∃bp,gT.cell? (wm.add 0)=some (.int .i64 bp)/\
 ∃aw:SV,gT.cell? (wm.add 1)=some (aw.v)/\
 ∃aC:SV,gT.cell? (wm.add 2)=some (aC.v)/\
 zQg p4 λa53=>
 stA prog 35 a53 #[.int .i64 bp,aw.v,aC.v] gT λxp=>
 zQb prog ds xp λsF=>
 zQg p4 λyz=>
 ∃ag,sF.cell? (yz.add 0)=some (.int .i64 ag)/\
 ∃ab:SV,sF.cell? (yz.add 1)=some (ab.v)/\
 ∃ae:SV,sF.cell? (yz.add 2)=some (ae.v)/\
 R (.returned (.tuple #[.agg #[.int .i64 ag,ab.v,ae.v],.bool false])) sF) (
 zQg p2 λa57=>
 ∃pF:SV,gT.cell? (a57.add 2)=some (pF.v)/\
 Br (decide (dq > (IntKind.i64.wrap ((pF.len:Int)+1)))) (
 zQg p2 λa58=>
 ∃bp,gT.cell? (a58.add 0)=some (.int .i64 bp)/\
 ∃aw:SV,gT.cell? (a58.add 1)=some (aw.v)/\
 ∃aC:SV,gT.cell? (a58.add 2)=some (aC.v)/\
 zQg p4 λa59=>
 stA prog 35 a59 #[.int .i64 bp,aw.v,aC.v] gT λpj=>
 zQb prog ds pj λpZ=>
 zQg p4 λa62=>
 ∃ag,pZ.cell? (a62.add 0)=some (.int .i64 ag)/\
 ∃ab:SV,pZ.cell? (a62.add 1)=some (ab.v)/\
 ∃ae:SV,pZ.cell? (a62.add 2)=some (ae.v)/\
 R (.returned (.tuple #[.agg #[.int .i64 ag,ab.v,ae.v],.bool false])) pZ) (
 Br (decide (dq > 300)) (
 zQg p2 λa63=>
 ∃bp,gT.cell? (a63.add 0)=some (.int .i64 bp)/\
 ∃aw:SV,gT.cell? (a63.add 1)=some (aw.v)/\
 ∃aC:SV,gT.cell? (a63.add 2)=some (aC.v)/\
 zQg p4 λa64=>
 stA prog 35 a64 #[.int .i64 bp,aw.v,aC.v] gT λoR=>
 zQb prog ds oR λpk=>
 zQg p4 λuA=>
 ∃ag,pk.cell? (uA.add 0)=some (.int .i64 ag)/\
 ∃ab:SV,pk.cell? (uA.add 1)=some (ab.v)/\
 ∃ae:SV,pk.cell? (uA.add 2)=some (ae.v)/\
 R (.returned (.tuple #[.agg #[.int .i64 ag,ab.v,ae.v],.bool false])) pk) (
 zQg p2 λa68=>
 ∃i9:SV,gT.cell? (a68.add 2)=some (i9.v)/\
 Br (decide (dq > (i9.len:Int))) (
 zQg p2 λa69=>
 ∃aD:SV,gT.cell? (a69.add 2)=some (aD.v)/\
 ∃jP,gT.cell? ((⟨cn,0,none⟩:Addr).add 0)=some (.bool jP)/\
 ∃cT:SV,gT.cell? ((⟨cn,0,none⟩:Addr).add 1)=some (cT.v)/\
 alE (.cells #[.bool jP,cT.v] 67) gT λcv yd=>
 ∃aE:SV,∃qz,(Builtin.append_ #[33,33] 33 #[aD.v,.slice (some ⟨cv,0,none⟩) 1 1]).run prog yd=.ok (aE.v) qz/\
 zQg p2 λa72=>
 st1 (a72.add 2) (aE.v) qz λtx=>
 zY8 R J1 p2 p4 n6 n8 l9 ds tx) (
 zQg p2 λa74=>
 ∃nS:SV,gT.cell? (a74.add 2)=some (nS.v)/\
 ∃jQ,gT.cell? ((⟨cn,0,none⟩:Addr).add 0)=some (.bool jQ)/\
 ∃cU:SV,gT.cell? ((⟨cn,0,none⟩:Addr).add 1)=some (cU.v)/\
 ∃a75,nS.a=some a75/\0<=(IntKind.i64.wrap (dq - 1))/\(IntKind.i64.wrap (dq - 1))<(nS.len:Int)/\
 stA prog 67 (a75.add ((IntKind.i64.wrap (dq - 1)).toNat * 2)) #[.bool jQ,cU.v] gT λoJ=>
 zY8 R J1 p2 p4 n6 n8 l9 ds oJ))))))
def F89_4 (R:Rt) (J1:(SV)->World->Prop) (p2 p4:Option Addr) (n6 n8:Int) (l9:SV) (ds:Ds) (w:World):Prop:=
 Br (decide ((l9.len:Int) > 0)) (
 F89_3 R J1 p2 p4 n6 n8 l9 ds w) (
 F89_1 R p2 p4 n8 ds w)
def F89_5(R:Rt)(p2 p4:Option Addr)(n6 n8:Int)(l9:SV)(ds:Ds)(w:World):Prop:=
 zQA (λ(J1:(SV)->World->Prop) (s:SV) (w:World)=>F89_4 R J1 p2 p4 n6 n8 s ds w) l9 w
def F89_7(R:Rt)(au:Int)(ah ai l1:SV)(ds:Ds)(w:World):Prop:=
 alE (.cells #[.int .i64 au,ah.v,ai.v] 35) w λr2 xv=>
 alE (.cells #[.int .i64 0,.slice none 0 0,.slice none 0 0] 35) xv λr4 w78=>
 ∃fe:SV,w78.cell? ((⟨r2,0,none⟩:Addr).add 1)=some (fe.v)/\
 Calls prog 128 #[fe.v] w78 λe qD=>
 ∃fJ:Int,∃zr:Int,e=.returned (.tuple #[.int .i64 fJ,.int .i64 zr])/\
 Br (decide ((l1.len:Int)<2)) (
 ∃bK,qD.cell? ((⟨r2,0,none⟩:Addr).add 0)=some (.int .i64 bK)/\
 ∃aP:SV,qD.cell? ((⟨r2,0,none⟩:Addr).add 1)=some (aP.v)/\
 ∃aQ:SV,qD.cell? ((⟨r2,0,none⟩:Addr).add 2)=some (aQ.v)/\
 stA prog 35 (⟨r4,0,none⟩:Addr) #[.int .i64 bK,aP.v,aQ.v] qD λxB=>
 zQb prog ds xB λxz=>
 ∃ag,xz.cell? ((⟨r4,0,none⟩:Addr).add 0)=some (.int .i64 ag)/\
 ∃ab:SV,xz.cell? ((⟨r4,0,none⟩:Addr).add 1)=some (ab.v)/\
 ∃ae:SV,xz.cell? ((⟨r4,0,none⟩:Addr).add 2)=some (ae.v)/\
 R (.returned (.tuple #[.agg #[.int .i64 ag,ab.v,ae.v],.bool false])) xz) (
 IntKind.i64=IntKind.i64/\((IntKind.i64.wrap (fJ+2)):Int) ≠ 0/\
 Br (((IntKind.i64.wrap ((l1.len:Int) - 2)).tmod (IntKind.i64.wrap (fJ+2))) != 0) (
 ∃bK,qD.cell? ((⟨r2,0,none⟩:Addr).add 0)=some (.int .i64 bK)/\
 ∃aP:SV,qD.cell? ((⟨r2,0,none⟩:Addr).add 1)=some (aP.v)/\
 ∃aQ:SV,qD.cell? ((⟨r2,0,none⟩:Addr).add 2)=some (aQ.v)/\
 stA prog 35 (⟨r4,0,none⟩:Addr) #[.int .i64 bK,aP.v,aQ.v] qD λw82=>
 zQb prog ds w82 λxA=>
 ∃ag,xA.cell? ((⟨r4,0,none⟩:Addr).add 0)=some (.int .i64 ag)/\
 ∃ab:SV,xA.cell? ((⟨r4,0,none⟩:Addr).add 1)=some (ab.v)/\
 ∃ae:SV,xA.cell? ((⟨r4,0,none⟩:Addr).add 2)=some (ae.v)/\
 R (.returned (.tuple #[.agg #[.int .i64 ag,ab.v,ae.v],.bool false])) xA) (
 0<=(2:Int)/\(2:Int).toNat<=l1.cap/\0<=(2:Int).toNat/\
 Calls prog 126 #[.slice (if l1.cap=0 then l1.a else l1.a.map (λx=>x.add (0 * 1))) ((2:Int).toNat - 0) (l1.cap - 0)] qD λe w84=>
 ∃rk:Int,e=.returned (.int .i64 rk)/\
 ∃nT,w84.cell? ((⟨r2,0,none⟩:Addr).add 0)=some (.int .i64 nT)/\
 ∃fo:SV,w84.cell? ((⟨r2,0,none⟩:Addr).add 1)=some (fo.v)/\
 ∃ln:SV,w84.cell? ((⟨r2,0,none⟩:Addr).add 2)=some (ln.v)/\
 Calls prog 56 #[.agg #[.int .i64 nT,fo.v,ln.v]] w84 λe w85=>
 ∃gP:Int,∃cc:SV,∃ce:SV,e=.returned (.agg #[.int .i64 gP,cc.v,ce.v])/\
 stA prog 35 (⟨r2,0,none⟩:Addr) #[.int .i64 gP,cc.v,ce.v] w85 λw86=>
 l1.len<=l1.cap/\0<=(2:Int)/\(2:Int).toNat<=l1.len/\
 F89_5 R (some (⟨r2,0,none⟩:Addr)) (some (⟨r4,0,none⟩:Addr)) fJ rk ⟨(if l1.cap=(2:Int).toNat then l1.a else l1.a.map (λx=>x.add ((2:Int).toNat * 1))),(l1.len - (2:Int).toNat),(l1.cap - (2:Int).toNat)⟩ ds w86))
theorem F89_p:Pl prog f89 [aS 0 [.int .i64,.slice,.slice],lS 1] F89_7:=λR=>
 pc 7 (rest [pS 2,pS 4,iS 6,iS 8,lS 9] (F89_5 R) (bk 0 (rest [pS 2,pS 4,iS 8] (F89_1 R) lf) (lp [lS 9] [pS 2,pS 4,iS 6,iS 8,lS 9] (F89_4 R) zXH λJ1=>pc 2 (rest [pS 2,pS 4,iS 6,iS 8,lS 9] (F89_3 R J1) (pc 1 (rest [pS 2,pS 4,iS 6,iS 8,lS 9] (zY8 R J1) lf))))))
theorem xX3 (au:Int) (ah ai l1:SV) (w:World) (R:Rt) (h:F89_7 R au ah ai l1 [] w):Calls prog 89 #[.agg #[.int .i64 au,ah.v,ai.v],l1.v] w R:=
 plC F89_p func89 h
end Go.Proofs.YtaeecpjhfmcliaaGreatDoor
/- Shallow texts of functions, printed by program, each checked by the kernel against the loaded code. No condition. -/
namespace Go.Proofs.YtaeecpjhfmcliaaGreatDoor
open Go.Sh Tryz
def F71_1(R:Rt)(p2 p3:Option Addr)(ds:Ds)(w:World):Prop:=
 zQg p3 λa1=>
 ∃cN,w.cell? (a1.add 0)=some (.int .i64 cN)/\
 ∃cw:SV,w.cell? (a1.add 1)=some (cw.v)/\
 ∃eY:SV,w.cell? (a1.add 2)=some (eY.v)/\
 zQg p2 λa2=>
 stA prog 35 a2 #[.int .i64 cN,cw.v,eY.v] w λw3=>
 zQb prog ds w3 λw4=>
 zQg p2 λa5=>
 ∃ag,w4.cell? (a5.add 0)=some (.int .i64 ag)/\
 ∃ab:SV,w4.cell? (a5.add 1)=some (ab.v)/\
 ∃ae:SV,w4.cell? (a5.add 2)=some (ae.v)/\
 R (.returned (.agg #[.int .i64 ag,ab.v,ae.v])) w4
def F71_2 (R:Rt) (J1:(Int)->World->Prop) (p1 p2 p3:Option Addr) (n4:Int) (ds:Ds) (w:World):Prop:=
 zQg p1 λa6=>
 ∃cy:SV,w.cell? (a6.add 2)=some (cy.v)/\
 Br (decide (n4<(cy.len:Int))) (
 dwE w λw7=>
 ∃S1:World->Prop,S1 w7/\
 zQg p3 λa8=>
 ∃dm:SV,(∀w',S1 w'->w'.cell? (a8.add 2)=some (dm.v))/\
 zQg p1 λa9=>
 ∃cJ:SV,(∀w',S1 w'->w'.cell? (a9.add 2)=some (cJ.v))/\
 ∃eE,cJ.a=some eE/\0<=n4/\n4<(cJ.len:Int)/\
 ∃nU,(∀w',S1 w'->w'.cell? ((eE.add (n4.toNat * 2)).add 0)=some (.bool nU))/\
 ∃cf:SV,(∀w',S1 w'->w'.cell? ((eE.add (n4.toNat * 2)).add 1)=some (cf.v))/\
 Calls prog 102 #[.agg #[.bool nU,cf.v]] w7 λe aR=>
 ∃uN:Bool,∃lq:SV,e=.returned (.agg #[.bool uN,lq.v])/\
 S1 aR/\
 alE (.cells #[.bool uN,lq.v] 67) aR λr26 aM=>
 S1 aM/\
 ∃bR:SV,∃aH,(Builtin.append_ #[33,33] 33 #[dm.v,.slice (some ⟨r26,0,none⟩) 1 1]).run prog aM=.ok (bR.v) aH/\
 zQg p3 λga=>
 st1 (ga.add 2) (bR.v) aH λbt=>
 J1 (IntKind.i64.wrap (n4+1)) bt) (
 F71_1 R p2 p3 ds w)
def xJi(R:Rt)(p1 p2 p3:Option Addr)(n4:Int)(ds:Ds)(w:World):Prop:=
 zQA (λ(J1:(Int)->World->Prop) (s:Int) (w:World)=>F71_2 R J1 p1 p2 p3 s ds w) n4 w
def F71_5(R:Rt)(au:Int)(ah ai:SV)(ds:Ds)(w:World):Prop:=
 alE (.cells #[.int .i64 au,ah.v,ai.v] 35) w λr1 bB=>
 alE (.cells #[.int .i64 0,.slice none 0 0,.slice none 0 0] 35) bB λr2 bG=>
 dwE bG λbI=>
 ∃S2:World->Prop,S2 bI/\
 ∃n6,(∀w',S2 w'->w'.cell? (⟨r1,0,none⟩:Addr)=some (.int .i64 n6))/\
 ∃l8:SV,(∀w',S2 w'->w'.cell? ((⟨r1,0,none⟩:Addr).add 1)=some (l8.v))/\
 (
 ∃l9:SV,∃cE,(Builtin.append_ #[32,32] 32 #[.slice none 0 0,l8.v]).run prog bI=.ok (l9.v) cE/\
 S2 cE/\
 alE (.cells #[.int .i64 0,.slice none 0 0,.slice none 0 0] 35) cE λr3 bO=>
 S2 bO/\
 stA prog 35 (⟨r3,0,none⟩:Addr) #[.int .i64 n6,l9.v,.slice none 0 0] bO λcq=>
 xJi R (some (⟨r1,0,none⟩:Addr)) (some (⟨r2,0,none⟩:Addr)) (some (⟨r3,0,none⟩:Addr)) 0 ds cq)/\(
 alE (.cells #[.int .i64 0,.slice none 0 0,.slice none 0 0] 35) bI λr3 d7=>
 S2 d7/\
 ∃l9:SV,∃dU,(Builtin.append_ #[32,32] 32 #[.slice none 0 0,l8.v]).run prog d7=.ok (l9.v) dU/\
 S2 dU/\
 stA prog 35 (⟨r3,0,none⟩:Addr) #[.int .i64 n6,l9.v,.slice none 0 0] dU λdD=>
 xJi R (some (⟨r1,0,none⟩:Addr)) (some (⟨r2,0,none⟩:Addr)) (some (⟨r3,0,none⟩:Addr)) 0 ds dD)
theorem F71_p:Pl prog f71 [aS 0 [.int .i64,.slice,.slice]] F71_5:=λR=>
 pc 3 (rest [pS 1,pS 2,pS 3,iS 4] (xJi R) (bk 0 (rest [pS 2,pS 3] (F71_1 R) lf) (lp [iS 4] [pS 1,pS 2,pS 3,iS 4] (F71_2 R) zXH λJ1=>lf)))
theorem yY3 (au:Int) (ah ai:SV) (w:World) (R:Rt) (h:F71_5 R au ah ai [] w):Calls prog 71 #[.agg #[.int .i64 au,ah.v,ai.v]] w R:=
 plC F71_p func71 h
def xKA(R:Rt)(mO:Bool)(ah:SV)(ds:Ds)(w:World):Prop:=
 alE (.cells #[.bool mO,ah.v] 67) w λr1 w1=>
 alE (.cells #[.bool false,.slice none 0 0] 67) w1 λr2 w2=>
 dwE w2 λw3=>
 ∃S1:World->Prop,S1 w3/\
 ∃b4,(∀w',S1 w'->w'.cell? (⟨r1,0,none⟩:Addr)=some (.bool b4))/\
 ∃l6:SV,(∀w',S1 w'->w'.cell? ((⟨r1,0,none⟩:Addr).add 1)=some (l6.v))/\
 ∃l7:SV,∃w4,(Builtin.append_ #[38,38] 38 #[.slice none 0 0,l6.v]).run prog w3=.ok (l7.v) w4/\
 S1 w4/\
 stA prog 67 (⟨r2,0,none⟩:Addr) #[.bool b4,l7.v] w4 λw5=>
 zQb prog ds w5 λw6=>
 ∃bL,w6.cell? ((⟨r2,0,none⟩:Addr).add 0)=some (.bool bL)/\
 ∃ab:SV,w6.cell? ((⟨r2,0,none⟩:Addr).add 1)=some (ab.v)/\
 R (.returned (.agg #[.bool bL,ab.v])) w6
theorem F102_p:Pl prog f102 [aS 0 [.bool,.slice]] xKA:=λR=>
 lf
theorem yVE (mO:Bool) (ah:SV) (w:World) (R:Rt) (h:xKA R mO ah [] w):Calls prog 102 #[.agg #[.bool mO,ah.v]] w R:=
 plC F102_p func102 h
end Go.Proofs.YtaeecpjhfmcliaaGreatDoor
/- Shallow texts of functions, printed by program, each checked by the kernel against the loaded code. No condition. -/
namespace Go.Proofs.YtaeecpjhfmcliaaGreatDoor
open Go.Sh Tryz
def F95_1(R:Rt)(p0:Option Addr)(ds:Ds)(w:World):Prop:=
 zQg p0 λa1=>
 Calls prog 137 #[.pointer (some a1)] w λe w2=>
 e=.returned (.tuple #[])/\
 zQb prog ds w2 λw3=>
 R (.returned (.tuple #[])) w3
theorem F95_p:Pl prog f95 [pS 0] F95_1:=λR=>
 lf
theorem yYF (p0:Option Addr) (w:World) (R:Rt) (h:F95_1 R p0 [] w):Calls prog 95 #[.pointer p0] w R:=
 plC F95_p func95 h
def F96_1(R:Rt)(p0:Option Addr)(ds:Ds)(w:World):Prop:=
 zQg p0 λa1=>
 Calls prog 138 #[.pointer (some a1)] w λe w2=>
 e=.returned (.tuple #[])/\
 zQb prog ds w2 λw3=>
 R (.returned (.tuple #[])) w3
theorem F96_p:Pl prog f96 [pS 0] F96_1:=λR=>
 lf
theorem yWq (p0:Option Addr) (w:World) (R:Rt) (u:FrameMode) (h:F96_1 R p0 [] w):CallsD prog 96 #[.pointer p0] u w λe u' w'=>u'=u/\R e w':=
 plD F96_p func96 u h
def xKw(R:Rt)(p0:Option Addr)(ds:Ds)(w:World):Prop:=
 ∃w1,(callFunc 169 #[]).run prog w=.ok (.value (.tuple #[])) w1/\
 zQg p0 λa2=>
 ∃b6:Bool,∃w3,(callFunc 170 #[.pointer (some a2),.int .i32 0,.int .i32 1]).run prog w1=.ok (.value (.bool b6)) w3/\
 Br b6 (
 ∃w4,(callFunc 171 #[]).run prog w3=.ok (.value (.tuple #[])) w4/\
 ∃v9:Value,∃w5,(convert 197 201 (.pointer p0)).run prog w4=.ok (v9) w5/\
 ∃w6,(callFunc 172 #[v9]).run prog w5=.ok (.value (.tuple #[])) w6/\
 zQb prog ds w6 λw7=>
 R (.returned (.tuple #[])) w7) (
 Calls prog 173 #[.pointer p0] w3 λe w8=>
 e=.returned (.tuple #[])/\
 zQb prog ds w8 λw9=>
 R (.returned (.tuple #[])) w9)
theorem F137_p:Pl prog f137 [pS 0] xKw:=λR=>
 lf
theorem yV8 (p0:Option Addr) (w:World) (R:Rt) (h:xKw R p0 [] w):Calls prog 137 #[.pointer p0] w R:=
 plC F137_p func137 h
def xJT(R:Rt)(p0:Option Addr)(ds:Ds)(w:World):Prop:=
 zQg p0 λa1=>
 ∃n6,w.cell? a1=some (.int .i32 n6)/\
 ∃v8:Value,∃w2,(convert 197 201 (.pointer p0)).run prog w=.ok (v8) w2/\
 ∃w3,(callFunc 174 #[v8]).run prog w2=.ok (.value (.tuple #[])) w3/\
 ∃w4,(callFunc 169 #[]).run prog w3=.ok (.value (.tuple #[])) w4/\
 zQg p0 λa5=>
 ∃kG:Int,∃w6,(callFunc 175 #[.pointer (some a5),.int .i32 (-1)]).run prog w4=.ok (.value (.int .i32 kG)) w6/\
 Br (kG != 0) (
 Calls prog 176 #[.pointer p0,.int .i32 kG] w6 λe w7=>
 e=.returned (.tuple #[])/\
 ∃w8,(callFunc 171 #[]).run prog w7=.ok (.value (.tuple #[])) w8/\
 zQb prog ds w8 λw9=>
 R (.returned (.tuple #[])) w9) (
 ∃aO,(callFunc 171 #[]).run prog w6=.ok (.value (.tuple #[])) aO/\
 zQb prog ds aO λaR=>
 R (.returned (.tuple #[])) aR)
theorem F138_p:Pl prog f138 [pS 0] xJT:=λR=>
 lf
theorem yVo (p0:Option Addr) (w:World) (R:Rt) (h:xJT R p0 [] w):Calls prog 138 #[.pointer p0] w R:=
 plC F138_p func138 h
def F55_1(R:Rt)(p0:Option Addr)(ds:Ds)(w:World):Prop:=
 ∃b5:Bool,∃w1,(eqS .eql 24 (.tmp 4) (.const (.pointer none)) (.pointer p0) (.pointer none)).run prog w=.ok (.bool b5) w1/\
 Br b5 (
 zQb prog ds w1 λw2=>
 R (.returned (.tuple #[.func (.func 94) #[] #[],.int .i64 9])) w2) (
 zQg p0 λa3=>
 Calls prog 95 #[.pointer (some a3)] w1 λe w4=>
 e=.returned (.tuple #[])/\
 zQg p0 λa5=>
 zQb prog ds w4 λw6=>
 R (.returned (.tuple #[.func (.func 96) #[.pointer (some a5)] #[],.int .i64 0])) w6)
theorem F55_p:Pl prog f55 [pS 0] F55_1:=λR=>
 lf
theorem xQO (p0:Option Addr) (w:World) (R:Rt) (h:F55_1 R p0 [] w):Calls prog 55 #[.pointer p0] w R:=
 plC F55_p func55 h
end Go.Proofs.YtaeecpjhfmcliaaGreatDoor
/- Shallow texts of functions, printed by program, each checked by the kernel against the loaded code. No condition. -/
namespace Go.Proofs.YtaeecpjhfmcliaaGreatDoor
open Go.Sh Tryz
def F11_1(R:Rt)(l6:SV)(p7:Option Addr)(ds:Ds)(w:World):Prop:=
 zQg p7 λa1=>
 ∃gu,w.cell? (a1.add 0)=some (.int .i64 gu)/\
 ∃cV:SV,w.cell? (a1.add 1)=some (cV.v)/\
 ∃cW:SV,w.cell? (a1.add 2)=some (cW.v)/\
 Calls prog 50 #[.agg #[.int .i64 gu,cV.v,cW.v],l6.v] w λe w2=>
 ∃p39:Option Addr,e=.returned (.pointer p39)/\
 zQb prog ds w2 λw3=>
 R (.returned (.tuple #[.pointer p39,.int .i64 0])) w3
def F11_2 (R:Rt) (J1:(SV × Int)->World->Prop) (l6:SV) (p7:Option Addr) (bR:SV) (kD oL:Int) (ds:Ds) (w:World):Prop:=
 Br (decide (oL<kD)) (
 ∃a4,bR.a=some a4/\0<=oL/\oL<(bR.len:Int)/\
 ∃jI,w.cell? ((a4.add (oL.toNat * 3)).add 0)=some (.int .i64 jI)/\
 ∃nB,w.cell? ((a4.add (oL.toNat * 3)).add 1)=some (.int .i64 nB)/\
 ∃fK:SV,w.cell? ((a4.add (oL.toNat * 3)).add 2)=some (fK.v)/\
 alE (.cells #[.int .i64 0,.int .i64 0,.slice none 0 0] 90) w λm7 w5=>
 stA prog 90 (⟨m7,0,none⟩:Addr) #[.int .i64 jI,.int .i64 nB,fK.v] w5 λw6=>
 ∃uO,w6.cell? ((⟨m7,0,none⟩:Addr).add 0)=some (.int .i64 uO)/\
 ∃nM,w6.cell? ((⟨m7,0,none⟩:Addr).add 1)=some (.int .i64 nM)/\
 ∃lr:SV,w6.cell? ((⟨m7,0,none⟩:Addr).add 2)=some (lr.v)/\
 Calls prog 49 #[l6.v,.agg #[.int .i64 uO,.int .i64 nM,lr.v]] w6 λe w7=>
 ∃iz:SV,e=.returned (iz.v)/\
 J1 (iz,(IntKind.i64.wrap (oL+1))) w7) (
 F11_1 R l6 p7 ds w)
def F11_3(R:Rt)(l6:SV)(p7:Option Addr)(bR:SV)(kD oL:Int)(ds:Ds)(w:World):Prop:=
 zQA (λ(J1:(SV × Int)->World->Prop) (s:SV × Int) (w:World)=>F11_2 R J1 s.1 p7 bR kD s.2 ds w) (l6,oL) w
def F11_5(R:Rt)(l0 l1:SV)(ds:Ds)(w:World):Prop:=
 alE (.cells #[l0.v,l1.v] 22) w λr15 w8=>
 Calls prog 46 #[.slice (some ⟨r15,0,none⟩) 2 2] w8 λe w9=>
 ∃dv:SV,e=.returned (dv.v)/\
 Calls prog 47 #[dv.v] w9 λe aO=>
 ∃iQ:Int,∃cB:SV,∃cC:SV,∃bQ:Int,∃zt:Bool,∃gA:Bool,e=.returned (.tuple #[.agg #[.int .i64 iQ,cB.v,cC.v],.int .i64 bQ,.bool zt,.bool gA])/\
 alE (.cells #[.int .i64 0,.slice none 0 0,.slice none 0 0] 35) aO λr7 aR=>
 stA prog 35 (⟨r7,0,none⟩:Addr) #[.int .i64 iQ,cB.v,cC.v] aR λaM=>
 Br (!gA) (
 zQb prog ds aM λaH=>
 R (.returned (.tuple #[.pointer none,.int .i64 11])) aH) (
 Calls prog 48 #[dv.v] aM λe bo=>
 ∃bR:SV,e=.returned (bR.v)/\
 F11_3 R dv (some (⟨r7,0,none⟩:Addr)) bR (bR.len:Int) 0 ds bo)
theorem F11_p:Pl prog f11 [lS 0,lS 1] F11_5:=λR=>
 pc 6 (rest [lS 6,pS 7,lS 27,iS 28,iS 29] (F11_3 R) (bk 0 (rest [lS 6,pS 7] (F11_1 R) lf) (lp [lS 6,iS 29] [lS 6,pS 7,lS 27,iS 28,iS 29] (F11_2 R) zXH λJ1=>lf)))
theorem xXj (l0 l1:SV) (w:World) (R:Rt) (h:F11_5 R l0 l1 [] w):Calls prog 11 #[l0.v,l1.v] w R:=
 plC F11_p func11 h
def F50_1(R:Rt)(au:Int)(ah ai l1:SV)(ds:Ds)(w:World):Prop:=
 alE (.cells #[.int .i64 au,ah.v,ai.v] 35) w λr2 w1=>
 dwE w1 λw2=>
 ∃S1:World->Prop,S1 w2/\
 ∃iO,(∀w',S1 w'->w'.cell? ((⟨r2,0,none⟩:Addr).add 0)=some (.int .i64 iO))/\
 ∃dz:SV,(∀w',S1 w'->w'.cell? ((⟨r2,0,none⟩:Addr).add 1)=some (dz.v))/\
 ∃cz:SV,(∀w',S1 w'->w'.cell? ((⟨r2,0,none⟩:Addr).add 2)=some (cz.v))/\
 ∃eH,(∀w',S1 w'->w'.cell? ((⟨r2,0,none⟩:Addr).add 0)=some (.int .i64 eH))/\
 ∃cA:SV,(∀w',S1 w'->w'.cell? ((⟨r2,0,none⟩:Addr).add 1)=some (cA.v))/\
 ∃bT:SV,(∀w',S1 w'->w'.cell? ((⟨r2,0,none⟩:Addr).add 2)=some (bT.v))/\
 Calls prog 56 #[.agg #[.int .i64 iO,dz.v,cz.v]] w2 λe w3=>
 ∃nH:Int,∃fq:SV,∃ft:SV,e=.returned (.agg #[.int .i64 nH,fq.v,ft.v])/\
 S1 w3/\
 Calls prog 56 #[.agg #[.int .i64 eH,cA.v,bT.v]] w3 λe w4=>
 ∃qZ:Int,∃qg:SV,∃qh:SV,e=.returned (.agg #[.int .i64 qZ,qg.v,qh.v])/\
 alE (.cells #[.int .i64 qZ,qg.v,qh.v] 35) w4 λr9 w5=>
 alE (.cells #[.int .i32 0,.int .u32 0,.int .i64 nH,fq.v,ft.v,.slice none 0 0,.slice (some ⟨r9,0,none⟩) 1 1,l1.v,l1.v,.slice none 0 0,.slice none 0 0] 108) w5 λnt w6=>
 zQb prog ds w6 λw7=>
 R (.returned (.pointer (some (⟨nt,0,none⟩:Addr)))) w7
theorem F50_p:Pl prog f50 [aS 0 [.int .i64,.slice,.slice],lS 1] F50_1:=λR=>
 lf
theorem yYZ (au:Int) (ah ai l1:SV) (w:World) (R:Rt) (h:F50_1 R au ah ai l1 [] w):Calls prog 50 #[.agg #[.int .i64 au,ah.v,ai.v],l1.v] w R:=
 plC F50_p func50 h
end Go.Proofs.YtaeecpjhfmcliaaGreatDoor
/- Shallow texts of functions, printed by program, each checked by the kernel against the loaded code. No condition. -/
namespace Go.Proofs.YtaeecpjhfmcliaaGreatDoor
open Go.Sh Tryz
def F43_1(R:Rt)(au:Int)(ah ai:SV)(ds:Ds)(w:World):Prop:=
 alE (.cells #[.int .i64 au,ah.v,ai.v] 35) w λr1 w1=>
 ∃eH,w1.cell? ((⟨r1,0,none⟩:Addr).add 0)=some (.int .i64 eH)/\
 ∃cA:SV,w1.cell? ((⟨r1,0,none⟩:Addr).add 1)=some (cA.v)/\
 ∃bT:SV,w1.cell? ((⟨r1,0,none⟩:Addr).add 2)=some (bT.v)/\
 Calls prog 86 #[.agg #[.int .i64 eH,cA.v,bT.v]] w1 λe w2=>
 ∃qj:SV,∃kT:Int,e=.returned (.tuple #[qj.v,.int .i64 kT])/\
 Br (kT != 0) (
 zQb prog ds w2 λw3=>
 R (.returned (.tuple #[.pointer none,.int .i64 kT])) w3) (
 ∃nJ,w2.cell? ((⟨r1,0,none⟩:Addr).add 0)=some (.int .i64 nJ)/\
 ∃cO:SV,w2.cell? ((⟨r1,0,none⟩:Addr).add 1)=some (cO.v)/\
 ∃fy:SV,w2.cell? ((⟨r1,0,none⟩:Addr).add 2)=some (fy.v)/\
 alE (.cells #[qj.v,.slice none 0 0] 22) w2 λzu w4=>
 Calls prog 50 #[.agg #[.int .i64 nJ,cO.v,fy.v],.slice (some ⟨zu,0,none⟩) 2 2] w4 λe w5=>
 ∃p17:Option Addr,e=.returned (.pointer p17)/\
 zQb prog ds w5 λw6=>
 R (.returned (.tuple #[.pointer p17,.int .i64 0])) w6)
theorem F43_p:Pl prog f43 [aS 0 [.int .i64,.slice,.slice]] F43_1:=λR=>
 lf
theorem xQT (au:Int) (ah ai:SV) (w:World) (R:Rt) (h:F43_1 R au ah ai [] w):Calls prog 43 #[.agg #[.int .i64 au,ah.v,ai.v]] w R:=
 plC F43_p func43 h
end Go.Proofs.YtaeecpjhfmcliaaGreatDoor
/- Shallow texts of functions, printed by program, each checked by the kernel against the loaded code. No condition. -/
namespace Go.Proofs.YtaeecpjhfmcliaaGreatDoor
open Go.Sh Tryz
def F14_1(R:Rt)(p0:Option Addr)(ds:Ds)(w:World):Prop:=
 alE (.cells #[.int .i64 0,.slice none 0 0,.slice none 0 0] 35) w λr2 w1=>
 Calls prog 55 #[.pointer p0] w1 λe w2=>
 ∃iV:Value,∃dE:Int,e=.returned (.tuple #[iV,.int .i64 dE])/\
 fnE iV λfx firstx capx=>
 Br (dE != 0) (
 stA prog 35 (⟨r2,0,none⟩:Addr) #[.int .i64 0,.slice none 0 0,.slice none 0 0] w2 λw3=>
 zQb prog ({ target:=.fn (.func fx) capx,args:=(firstx.toList ++ ([]:List Value)).toArray } :: ds) w3 λw4=>
 ∃ag,w4.cell? ((⟨r2,0,none⟩:Addr).add 0)=some (.int .i64 ag)/\
 ∃ab:SV,w4.cell? ((⟨r2,0,none⟩:Addr).add 1)=some (ab.v)/\
 ∃ae:SV,w4.cell? ((⟨r2,0,none⟩:Addr).add 2)=some (ae.v)/\
 R (.returned (.agg #[.int .i64 ag,ab.v,ae.v])) w4) (
 zQg p0 λa5=>
 ∃gw,w2.cell? ((a5.add 2).add 0)=some (.int .i64 gw)/\
 ∃cX:SV,w2.cell? ((a5.add 2).add 1)=some (cX.v)/\
 ∃cY:SV,w2.cell? ((a5.add 2).add 2)=some (cY.v)/\
 Calls prog 56 #[.agg #[.int .i64 gw,cX.v,cY.v]] w2 λe w6=>
 ∃gv:Int,∃bV:SV,∃cZ:SV,e=.returned (.agg #[.int .i64 gv,bV.v,cZ.v])/\
 stA prog 35 (⟨r2,0,none⟩:Addr) #[.int .i64 gv,bV.v,cZ.v] w6 λw7=>
 zQb prog ({ target:=.fn (.func fx) capx,args:=(firstx.toList ++ ([]:List Value)).toArray } :: ds) w7 λw8=>
 ∃ag,w8.cell? ((⟨r2,0,none⟩:Addr).add 0)=some (.int .i64 ag)/\
 ∃ab:SV,w8.cell? ((⟨r2,0,none⟩:Addr).add 1)=some (ab.v)/\
 ∃ae:SV,w8.cell? ((⟨r2,0,none⟩:Addr).add 2)=some (ae.v)/\
 R (.returned (.agg #[.int .i64 ag,ab.v,ae.v])) w8)
theorem F14_p:Pl prog f14 [pS 0] F14_1:=λR=>
 lf
theorem xXR (p0:Option Addr) (w:World) (R:Rt) (h:F14_1 R p0 [] w):Calls prog 14 #[.pointer p0] w R:=
 plC F14_p func14 h
def F27_1(R:Rt)(p0:Option Addr)(n1:Int)(ds:Ds)(w:World):Prop:=
 alE (.cells #[.int .i64 0,.slice none 0 0,.slice none 0 0] 35) w λr4 w1=>
 Calls prog 55 #[.pointer p0] w1 λe w2=>
 ∃uP:Value,∃jp:Int,e=.returned (.tuple #[uP,.int .i64 jp])/\
 fnE uP λfx firstx capx=>
 Br (jp != 0) (
 stA prog 35 (⟨r4,0,none⟩:Addr) #[.int .i64 0,.slice none 0 0,.slice none 0 0] w2 λw3=>
 zQb prog ({ target:=.fn (.func fx) capx,args:=(firstx.toList ++ ([]:List Value)).toArray } :: ds) w3 λw4=>
 ∃ag,w4.cell? ((⟨r4,0,none⟩:Addr).add 0)=some (.int .i64 ag)/\
 ∃ab:SV,w4.cell? ((⟨r4,0,none⟩:Addr).add 1)=some (ab.v)/\
 ∃ae:SV,w4.cell? ((⟨r4,0,none⟩:Addr).add 2)=some (ae.v)/\
 R (.returned (.tuple #[.agg #[.int .i64 ag,ab.v,ae.v],.int .i64 jp])) w4) (
 Br (decide (n1<0)) (
 stA prog 35 (⟨r4,0,none⟩:Addr) #[.int .i64 0,.slice none 0 0,.slice none 0 0] w2 λw5=>
 zQb prog ({ target:=.fn (.func fx) capx,args:=(firstx.toList ++ ([]:List Value)).toArray } :: ds) w5 λw6=>
 ∃ag,w6.cell? ((⟨r4,0,none⟩:Addr).add 0)=some (.int .i64 ag)/\
 ∃ab:SV,w6.cell? ((⟨r4,0,none⟩:Addr).add 1)=some (ab.v)/\
 ∃ae:SV,w6.cell? ((⟨r4,0,none⟩:Addr).add 2)=some (ae.v)/\
 R (.returned (.tuple #[.agg #[.int .i64 ag,ab.v,ae.v],.int .i64 1])) w6) (
 zQg p0 λa7=>
 ∃eb:SV,w2.cell? (a7.add 6)=some (eb.v)/\
 Br (decide (n1 >= (eb.len:Int))) (
 stA prog 35 (⟨r4,0,none⟩:Addr) #[.int .i64 0,.slice none 0 0,.slice none 0 0] w2 λw8=>
 zQb prog ({ target:=.fn (.func fx) capx,args:=(firstx.toList ++ ([]:List Value)).toArray } :: ds) w8 λw9=>
 ∃ag,w9.cell? ((⟨r4,0,none⟩:Addr).add 0)=some (.int .i64 ag)/\
 ∃ab:SV,w9.cell? ((⟨r4,0,none⟩:Addr).add 1)=some (ab.v)/\
 ∃ae:SV,w9.cell? ((⟨r4,0,none⟩:Addr).add 2)=some (ae.v)/\
 R (.returned (.tuple #[.agg #[.int .i64 ag,ab.v,ae.v],.int .i64 1])) w9) (
 zQg p0 λeE=>
 ∃iL:SV,w2.cell? (eE.add 6)=some (iL.v)/\
 ∃dV,iL.a=some dV/\0<=n1/\n1<(iL.len:Int)/\
 ∃gP,w2.cell? ((dV.add (n1.toNat * 3)).add 0)=some (.int .i64 gP)/\
 ∃cc:SV,w2.cell? ((dV.add (n1.toNat * 3)).add 1)=some (cc.v)/\
 ∃ce:SV,w2.cell? ((dV.add (n1.toNat * 3)).add 2)=some (ce.v)/\
 Calls prog 56 #[.agg #[.int .i64 gP,cc.v,ce.v]] w2 λe aM=>
 ∃gu:Int,∃cV:SV,∃cW:SV,e=.returned (.agg #[.int .i64 gu,cV.v,cW.v])/\
 stA prog 35 (⟨r4,0,none⟩:Addr) #[.int .i64 gu,cV.v,cW.v] aM λaH=>
 zQb prog ({ target:=.fn (.func fx) capx,args:=(firstx.toList ++ ([]:List Value)).toArray } :: ds) aH λbo=>
 ∃ag,bo.cell? ((⟨r4,0,none⟩:Addr).add 0)=some (.int .i64 ag)/\
 ∃ab:SV,bo.cell? ((⟨r4,0,none⟩:Addr).add 1)=some (ab.v)/\
 ∃ae:SV,bo.cell? ((⟨r4,0,none⟩:Addr).add 2)=some (ae.v)/\
 R (.returned (.tuple #[.agg #[.int .i64 ag,ab.v,ae.v],.int .i64 0])) bo)))
theorem F27_p:Pl prog f27 [pS 0,iS 1] F27_1:=λR=>
 lf
theorem xXe (p0:Option Addr) (n1:Int) (w:World) (R:Rt) (h:F27_1 R p0 n1 [] w):Calls prog 27 #[.pointer p0,.int .i64 n1] w R:=
 plC F27_p func27 h
def F22_1(R:Rt)(p0:Option Addr)(ds:Ds)(w:World):Prop:=
 Calls prog 55 #[.pointer p0] w λe w1=>
 ∃iV:Value,∃dE:Int,e=.returned (.tuple #[iV,.int .i64 dE])/\
 fnE iV λfx firstx capx=>
 Br (dE != 0) (
 zQb prog ({ target:=.fn (.func fx) capx,args:=(firstx.toList ++ ([]:List Value)).toArray } :: ds) w1 λw2=>
 R (.returned (.int .i64 0)) w2) (
 zQg p0 λa3=>
 ∃dv:SV,w1.cell? (a3.add 6)=some (dv.v)/\
 zQb prog ({ target:=.fn (.func fx) capx,args:=(firstx.toList ++ ([]:List Value)).toArray } :: ds) w1 λw4=>
 R (.returned (.int .i64 (IntKind.i64.wrap ((dv.len:Int) - 1)))) w4)
theorem F22_p:Pl prog f22 [pS 0] F22_1:=λR=>
 lf
theorem xQc (p0:Option Addr) (w:World) (R:Rt) (h:F22_1 R p0 [] w):Calls prog 22 #[.pointer p0] w R:=
 plC F22_p func22 h
def F30_1(R:Rt)(p0:Option Addr)(ds:Ds)(w:World):Prop:=
 Calls prog 55 #[.pointer p0] w λe w1=>
 ∃iV:Value,∃dE:Int,e=.returned (.tuple #[iV,.int .i64 dE])/\
 fnE iV λfx firstx capx=>
 Br (dE != 0) (
 zQb prog ({ target:=.fn (.func fx) capx,args:=(firstx.toList ++ ([]:List Value)).toArray } :: ds) w1 λw2=>
 R (.returned (.int .i64 0)) w2) (
 zQg p0 λa3=>
 ∃dv:SV,w1.cell? (a3.add 9)=some (dv.v)/\
 zQb prog ({ target:=.fn (.func fx) capx,args:=(firstx.toList ++ ([]:List Value)).toArray } :: ds) w1 λw4=>
 R (.returned (.int .i64 (dv.len:Int))) w4)
theorem F30_p:Pl prog f30 [pS 0] F30_1:=λR=>
 lf
theorem xQL (p0:Option Addr) (w:World) (R:Rt) (h:F30_1 R p0 [] w):Calls prog 30 #[.pointer p0] w R:=
 plC F30_p func30 h
def F29_1(R:Rt)(p0:Option Addr)(ds:Ds)(w:World):Prop:=
 Calls prog 55 #[.pointer p0] w λe w1=>
 ∃iV:Value,∃dE:Int,e=.returned (.tuple #[iV,.int .i64 dE])/\
 fnE iV λfx firstx capx=>
 Br (dE != 0) (
 zQb prog ({ target:=.fn (.func fx) capx,args:=(firstx.toList ++ ([]:List Value)).toArray } :: ds) w1 λw2=>
 R (.returned (.slice none 0 0)) w2) (
 zQg p0 λa3=>
 ∃dv:SV,w1.cell? (a3.add 10)=some (dv.v)/\
 Calls prog 74 #[dv.v] w1 λe w4=>
 ∃dH:SV,e=.returned (dH.v)/\
 zQb prog ({ target:=.fn (.func fx) capx,args:=(firstx.toList ++ ([]:List Value)).toArray } :: ds) w4 λw5=>
 R (.returned (dH.v)) w5)
theorem F29_p:Pl prog f29 [pS 0] F29_1:=λR=>
 lf
theorem xQx (p0:Option Addr) (w:World) (R:Rt) (h:F29_1 R p0 [] w):Calls prog 29 #[.pointer p0] w R:=
 plC F29_p func29 h
def F33_1(R:Rt)(p0:Option Addr)(n1 n2:Int)(ct:SV)(ds:Ds)(w:World):Prop:=
 zQg p0 λa1=>
 ∃jK:SV,w.cell? (a1.add 9)=some (jK.v)/\
 Br (decide (n1<(jK.len:Int))) (
 zQg p0 λa2=>
 ∃oV:SV,w.cell? (a2.add 9)=some (oV.v)/\
 ∃a3,oV.a=some a3/\0<=n1/\n1<(oV.len:Int)/\
 ∃bE,w.cell? ((a3.add (n1.toNat * 3)).add 0)=some (.int .i64 bE)/\
 ∃bF,w.cell? ((a3.add (n1.toNat * 3)).add 1)=some (.int .i64 bF)/\
 ∃ls:SV,w.cell? ((a3.add (n1.toNat * 3)).add 2)=some (ls.v)/\
 Calls prog 76 #[.agg #[.int .i64 bE,.int .i64 bF,ls.v],ct.v,.int .i64 n2] w λe w4=>
 ∃xC:SV,e=.returned (xC.v)/\
 Calls prog 51 #[xC.v] w4 λe w5=>
 ∃fL:SV,∃aw:SV,e=.returned (.agg #[fL.v,aw.v])/\
 alE (.cells #[.slice none 0 0,.slice none 0 0] 63) w5 λaL w6=>
 stA prog 63 (⟨aL,0,none⟩:Addr) #[fL.v,aw.v] w6 λw7=>
 dwE w7 λw8=>
 0<=(0:Int)/\(0:Int)<(2:Int)/\
 ∃jM:SV,w8.cell? ((⟨aL,0,none⟩:Addr).add ((0:Int).toNat * 1))=some (jM.v)/\
 0<=(1:Int)/\(1:Int)<(2:Int)/\
 ∃lu:SV,w8.cell? ((⟨aL,0,none⟩:Addr).add ((1:Int).toNat * 1))=some (lu.v)/\
 zQb prog ds w8 λw9=>
 R (.returned (.tuple #[jM.v,lu.v,.int .i64 0])) w9) (
 Calls prog 51 #[ct.v] w λe aO=>
 ∃fL:SV,∃aw:SV,e=.returned (.agg #[fL.v,aw.v])/\
 alE (.cells #[.slice none 0 0,.slice none 0 0] 63) aO λaL aR=>
 stA prog 63 (⟨aL,0,none⟩:Addr) #[fL.v,aw.v] aR λaM=>
 dwE aM λaH=>
 0<=(0:Int)/\(0:Int)<(2:Int)/\
 ∃jM:SV,aH.cell? ((⟨aL,0,none⟩:Addr).add ((0:Int).toNat * 1))=some (jM.v)/\
 0<=(1:Int)/\(1:Int)<(2:Int)/\
 ∃lu:SV,aH.cell? ((⟨aL,0,none⟩:Addr).add ((1:Int).toNat * 1))=some (lu.v)/\
 zQb prog ds aH λbo=>
 R (.returned (.tuple #[jM.v,lu.v,.int .i64 0])) bo)
def F33_2 (R:Rt) (J1:(SV × Int)->World->Prop) (p0:Option Addr) (n1 n2:Int) (ct nw:SV) (qu iE:Int) (ds:Ds) (w:World):Prop:=
 Br (decide (iE<qu)) (
 ∃jr,nw.a=some jr/\0<=iE/\iE<(nw.len:Int)/\
 ∃eQ,w.cell? ((jr.add (iE.toNat * 3)).add 0)=some (.int .i64 eQ)/\
 ∃eR,w.cell? ((jr.add (iE.toNat * 3)).add 1)=some (.int .i64 eR)/\
 ∃lw:SV,w.cell? ((jr.add (iE.toNat * 3)).add 2)=some (lw.v)/\
 alE (.cells #[.int .i64 0,.int .i64 0,.slice none 0 0] 90) w λnt bB=>
 stA prog 90 (⟨nt,0,none⟩:Addr) #[.int .i64 eQ,.int .i64 eR,lw.v] bB λbG=>
 ∃iA,bG.cell? ((⟨nt,0,none⟩:Addr).add 0)=some (.int .i64 iA)/\
 ∃lz,bG.cell? ((⟨nt,0,none⟩:Addr).add 1)=some (.int .i64 lz)/\
 ∃lA:SV,bG.cell? ((⟨nt,0,none⟩:Addr).add 2)=some (lA.v)/\
 Calls prog 49 #[ct.v,.agg #[.int .i64 iA,.int .i64 lz,lA.v]] bG λe bI=>
 ∃l56:SV,e=.returned (l56.v)/\
 J1 (l56,(IntKind.i64.wrap (iE+1))) bI) (
 F33_1 R p0 n1 n2 ct ds w)
def F33_3(R:Rt)(p0:Option Addr)(n1 n2:Int)(ct nw:SV)(qu iE:Int)(ds:Ds)(w:World):Prop:=
 zQA (λ(J1:(SV × Int)->World->Prop) (s:SV × Int) (w:World)=>F33_2 R J1 p0 n1 n2 s.1 nw qu s.2 ds w) (ct,iE) w
def F33_5(R:Rt)(p0:Option Addr)(n1 n2:Int)(ds:Ds)(w:World):Prop:=
 Calls prog 55 #[.pointer p0] w λe cE=>
 ∃uQ:Value,∃iw:Int,e=.returned (.tuple #[uQ,.int .i64 iw])/\
 fnE uQ λfx firstx capx=>
 Br (iw != 0) (
 zQb prog ({ target:=.fn (.func fx) capx,args:=(firstx.toList ++ ([]:List Value)).toArray } :: ds) cE λbO=>
 R (.returned (.tuple #[.slice none 0 0,.slice none 0 0,.int .i64 iw])) bO) (
 Br (decide (n1<0)) (
 zQb prog ({ target:=.fn (.func fx) capx,args:=(firstx.toList ++ ([]:List Value)).toArray } :: ds) cE λcq=>
 R (.returned (.tuple #[.slice none 0 0,.slice none 0 0,.int .i64 1])) cq) (
 zQg p0 λoN=>
 ∃iP:SV,cE.cell? (oN.add 9)=some (iP.v)/\
 Br (decide (n1 > (iP.len:Int))) (
 zQb prog ({ target:=.fn (.func fx) capx,args:=(firstx.toList ++ ([]:List Value)).toArray } :: ds) cE λdU=>
 R (.returned (.tuple #[.slice none 0 0,.slice none 0 0,.int .i64 1])) dU) (
 Br (decide (n2<0)) (
 zQb prog ({ target:=.fn (.func fx) capx,args:=(firstx.toList ++ ([]:List Value)).toArray } :: ds) cE λdD=>
 R (.returned (.tuple #[.slice none 0 0,.slice none 0 0,.int .i64 1])) dD) (
 zQg p0 λmK=>
 ∃kw:SV,cE.cell? (mK.add 7)=some (kw.v)/\
 zQg p0 λwJ=>
 ∃uR:SV,cE.cell? (wJ.add 9)=some (uR.v)/\
 0<=n1/\n1.toNat<=uR.cap/\0<=n1.toNat/\
 F33_3 R p0 n1 n2 kw ⟨(if uR.cap=0 then uR.a else uR.a.map (λx=>x.add (0 * 3))),(n1.toNat - 0),(uR.cap - 0)⟩ (((n1.toNat - 0):Nat):Int) 0 ({ target:=.fn (.func fx) capx,args:=(firstx.toList ++ ([]:List Value)).toArray } :: ds) cE))))
theorem F33_p:Pl prog f33 [pS 0,iS 1,iS 2] F33_5:=λR=>
 pc 9 (rest [pS 0,iS 1,iS 2,lS 11,lS 48,iS 49,iS 50] (F33_3 R) (bk 0 (rest [pS 0,iS 1,iS 2,lS 11] (F33_1 R) lf) (lp [lS 11,iS 50] [pS 0,iS 1,iS 2,lS 11,lS 48,iS 49,iS 50] (F33_2 R) zXH λJ1=>lf)))
theorem yYV (p0:Option Addr) (n1 n2:Int) (w:World) (R:Rt) (h:F33_5 R p0 n1 n2 [] w):Calls prog 33 #[.pointer p0,.int .i64 n1,.int .i64 n2] w R:=
 plC F33_p func33 h
end Go.Proofs.YtaeecpjhfmcliaaGreatDoor
/- Shallow texts of functions, printed by program, each checked by the kernel against the loaded code. No condition. -/
namespace Go.Proofs.YtaeecpjhfmcliaaGreatDoor
open Go.Sh Tryz
def F35_1(R:Rt)(p0:Option Addr)(ds:Ds)(w:World):Prop:=
 Calls prog 55 #[.pointer p0] w λe w1=>
 ∃iV:Value,∃dE:Int,e=.returned (.tuple #[iV,.int .i64 dE])/\
 fnE iV λfx firstx capx=>
 Br (dE != 0) (
 zQb prog ({ target:=.fn (.func fx) capx,args:=(firstx.toList ++ ([]:List Value)).toArray } :: ds) w1 λw2=>
 R (.returned (.int .i64 dE)) w2) (
 zQg p0 λa3=>
 ∃dm:SV,w1.cell? (a3.add 5)=some (dm.v)/\
 Br (decide ((dm.len:Int) >= 8)) (
 zQb prog ({ target:=.fn (.func fx) capx,args:=(firstx.toList ++ ([]:List Value)).toArray } :: ds) w1 λw4=>
 R (.returned (.int .i64 3)) w4) (
 dwE w1 λw5=>
 ∃S1:World->Prop,S1 w5/\
 zQg p0 λa6=>
 ∃dT:SV,(∀w',S1 w'->w'.cell? (a6.add 5)=some (dT.v))/\
 zQg p0 λa7=>
 ∃dL,(∀w',S1 w'->w'.cell? ((a7.add 2).add 0)=some (.int .i64 dL))/\
 ∃bh:SV,(∀w',S1 w'->w'.cell? ((a7.add 2).add 1)=some (bh.v))/\
 ∃bi:SV,(∀w',S1 w'->w'.cell? ((a7.add 2).add 2)=some (bi.v))/\
 Calls prog 56 #[.agg #[.int .i64 dL,bh.v,bi.v]] w5 λe w8=>
 ∃bK:Int,∃aP:SV,∃aQ:SV,e=.returned (.agg #[.int .i64 bK,aP.v,aQ.v])/\
 S1 w8/\
 alE (.cells #[.int .i64 bK,aP.v,aQ.v] 35) w8 λr32 w9=>
 S1 w9/\
 ∃iL:SV,∃aO,(Builtin.append_ #[106,106] 106 #[dT.v,.slice (some ⟨r32,0,none⟩) 1 1]).run prog w9=.ok (iL.v) aO/\
 zQg p0 λdV=>
 st1 (dV.add 5) (iL.v) aO λaM=>
 zQb prog ({ target:=.fn (.func fx) capx,args:=(firstx.toList ++ ([]:List Value)).toArray } :: ds) aM λaH=>
 R (.returned (.int .i64 0)) aH))
theorem F35_p:Pl prog f35 [pS 0] F35_1:=λR=>
 lf
theorem xQF (p0:Option Addr) (w:World) (R:Rt) (h:F35_1 R p0 [] w):Calls prog 35 #[.pointer p0] w R:=
 plC F35_p func35 h
def F80_1(R:Rt)(p0:Option Addr)(ds:Ds)(w:World):Prop:=
 alE (.cells #[.int .i64 0,.slice none 0 0,.slice none 0 0] 35) w λr2 w1=>
 zQg p0 λa2=>
 ∃l9:SV,w1.cell? (a2.add 5)=some (l9.v)/\
 Br ((l9.len:Int) == 0) (
 stA prog 35 (⟨r2,0,none⟩:Addr) #[.int .i64 0,.slice none 0 0,.slice none 0 0] w1 λw3=>
 zQb prog ds w3 λw4=>
 ∃ag,w4.cell? ((⟨r2,0,none⟩:Addr).add 0)=some (.int .i64 ag)/\
 ∃ab:SV,w4.cell? ((⟨r2,0,none⟩:Addr).add 1)=some (ab.v)/\
 ∃ae:SV,w4.cell? ((⟨r2,0,none⟩:Addr).add 2)=some (ae.v)/\
 R (.returned (.tuple #[.agg #[.int .i64 ag,ab.v,ae.v],.int .i64 9])) w4) (
 zQg p0 λa5=>
 ∃dH:SV,w1.cell? (a5.add 5)=some (dH.v)/\
 ∃a6,dH.a=some a6/\0<=(IntKind.i64.wrap ((l9.len:Int) - 1))/\(IntKind.i64.wrap ((l9.len:Int) - 1))<(dH.len:Int)/\
 ∃dM,w1.cell? ((a6.add ((IntKind.i64.wrap ((l9.len:Int) - 1)).toNat * 3)).add 0)=some (.int .i64 dM)/\
 ∃c8:SV,w1.cell? ((a6.add ((IntKind.i64.wrap ((l9.len:Int) - 1)).toNat * 3)).add 1)=some (c8.v)/\
 ∃fM:SV,w1.cell? ((a6.add ((IntKind.i64.wrap ((l9.len:Int) - 1)).toNat * 3)).add 2)=some (fM.v)/\
 alE (.cells #[.int .i64 0,.slice none 0 0,.slice none 0 0] 35) w1 λr5 w7=>
 stA prog 35 (⟨r5,0,none⟩:Addr) #[.int .i64 dM,c8.v,fM.v] w7 λw8=>
 zQg p0 λa9=>
 ∃dT:SV,w8.cell? (a9.add 5)=some (dT.v)/\
 0<=(IntKind.i64.wrap ((l9.len:Int) - 1))/\(IntKind.i64.wrap ((l9.len:Int) - 1)).toNat<=dT.cap/\0<=(IntKind.i64.wrap ((l9.len:Int) - 1)).toNat/\
 zQg p0 λeE=>
 st1 (eE.add 5) (.slice (if dT.cap=0 then dT.a else dT.a.map (λx=>x.add (0 * 3))) ((IntKind.i64.wrap ((l9.len:Int) - 1)).toNat - 0) (dT.cap - 0)) w8 λaR=>
 ∃jI,aR.cell? ((⟨r5,0,none⟩:Addr).add 0)=some (.int .i64 jI)/\
 ∃lB:SV,aR.cell? ((⟨r5,0,none⟩:Addr).add 1)=some (lB.v)/\
 ∃fK:SV,aR.cell? ((⟨r5,0,none⟩:Addr).add 2)=some (fK.v)/\
 stA prog 35 (⟨r2,0,none⟩:Addr) #[.int .i64 jI,lB.v,fK.v] aR λaM=>
 zQb prog ds aM λaH=>
 ∃ag,aH.cell? ((⟨r2,0,none⟩:Addr).add 0)=some (.int .i64 ag)/\
 ∃ab:SV,aH.cell? ((⟨r2,0,none⟩:Addr).add 1)=some (ab.v)/\
 ∃ae:SV,aH.cell? ((⟨r2,0,none⟩:Addr).add 2)=some (ae.v)/\
 R (.returned (.tuple #[.agg #[.int .i64 ag,ab.v,ae.v],.int .i64 0])) aH)
theorem F80_p:Pl prog f80 [pS 0] F80_1:=λR=>
 lf
theorem xQ8 (p0:Option Addr) (w:World) (R:Rt) (h:F80_1 R p0 [] w):Calls prog 80 #[.pointer p0] w R:=
 plC F80_p func80 h
def F36_1(R:Rt)(p0:Option Addr)(ds:Ds)(w:World):Prop:=
 Calls prog 55 #[.pointer p0] w λe w1=>
 ∃rq:Value,∃eu:Int,e=.returned (.tuple #[rq,.int .i64 eu])/\
 fnE rq λfx firstx capx=>
 Br (eu != 0) (
 zQb prog ({ target:=.fn (.func fx) capx,args:=(firstx.toList ++ ([]:List Value)).toArray } :: ds) w1 λw2=>
 R (.returned (.int .i64 eu)) w2) (
 Calls prog 80 #[.pointer p0] w1 λe w3=>
 ∃pG:Int,∃ia:SV,∃ib:SV,∃gf:Int,e=.returned (.tuple #[.agg #[.int .i64 pG,ia.v,ib.v],.int .i64 gf])/\
 alE (.cells #[.int .i64 0,.slice none 0 0,.slice none 0 0] 35) w3 λr5 w4=>
 stA prog 35 (⟨r5,0,none⟩:Addr) #[.int .i64 pG,ia.v,ib.v] w4 λw5=>
 Br (gf != 0) (
 zQb prog ({ target:=.fn (.func fx) capx,args:=(firstx.toList ++ ([]:List Value)).toArray } :: ds) w5 λw6=>
 R (.returned (.int .i64 gf)) w6) (
 Calls prog 79 #[.pointer p0] w5 λe w7=>
 e=.returned (.tuple #[])/\
 zQb prog ({ target:=.fn (.func fx) capx,args:=(firstx.toList ++ ([]:List Value)).toArray } :: ds) w7 λw8=>
 R (.returned (.int .i64 0)) w8))
theorem F36_p:Pl prog f36 [pS 0] F36_1:=λR=>
 lf
theorem xZa (p0:Option Addr) (w:World) (R:Rt) (h:F36_1 R p0 [] w):Calls prog 36 #[.pointer p0] w R:=
 plC F36_p func36 h
def F37_1(R:Rt)(p0:Option Addr)(ds:Ds)(w:World):Prop:=
 Calls prog 55 #[.pointer p0] w λe w1=>
 ∃zv:Value,∃kT:Int,e=.returned (.tuple #[zv,.int .i64 kT])/\
 fnE zv λfx firstx capx=>
 Br (kT != 0) (
 zQb prog ({ target:=.fn (.func fx) capx,args:=(firstx.toList ++ ([]:List Value)).toArray } :: ds) w1 λw2=>
 R (.returned (.int .i64 kT)) w2) (
 Calls prog 80 #[.pointer p0] w1 λe w3=>
 ∃pH:Int,∃ic:SV,∃ie:SV,∃iw:Int,e=.returned (.tuple #[.agg #[.int .i64 pH,ic.v,ie.v],.int .i64 iw])/\
 alE (.cells #[.int .i64 0,.slice none 0 0,.slice none 0 0] 35) w3 λr5 w4=>
 stA prog 35 (⟨r5,0,none⟩:Addr) #[.int .i64 pH,ic.v,ie.v] w4 λw5=>
 Br (iw != 0) (
 zQb prog ({ target:=.fn (.func fx) capx,args:=(firstx.toList ++ ([]:List Value)).toArray } :: ds) w5 λw6=>
 R (.returned (.int .i64 iw)) w6) (
 ∃jL,w5.cell? ((⟨r5,0,none⟩:Addr).add 0)=some (.int .i64 jL)/\
 ∃cf:SV,w5.cell? ((⟨r5,0,none⟩:Addr).add 1)=some (cf.v)/\
 ∃fN:SV,w5.cell? ((⟨r5,0,none⟩:Addr).add 2)=some (fN.v)/\
 zQg p0 λa7=>
 stA prog 35 (a7.add 2) #[.int .i64 jL,cf.v,fN.v] w5 λw8=>
 zQb prog ({ target:=.fn (.func fx) capx,args:=(firstx.toList ++ ([]:List Value)).toArray } :: ds) w8 λw9=>
 R (.returned (.int .i64 0)) w9))
theorem F37_p:Pl prog f37 [pS 0] F37_1:=λR=>
 lf
theorem xX9 (p0:Option Addr) (w:World) (R:Rt) (h:F37_1 R p0 [] w):Calls prog 37 #[.pointer p0] w R:=
 plC F37_p func37 h
def F84_1(R:Rt)(p0:Option Addr)(bD co:Int)(cu:SV)(ds:Ds)(w:World):Prop:=
 alE (.cells #[.int .i64 bD,.int .i64 co,cu.v] 90) w λr3 w1=>
 dwE w1 λw2=>
 ∃S1:World->Prop,S1 w2/\
 zQg p0 λa3=>
 ∃l8:SV,(∀w',S1 w'->w'.cell? (a3.add 9)=some (l8.v))/\
 ∃ip,(∀w',S1 w'->w'.cell? ((⟨r3,0,none⟩:Addr).add 0)=some (.int .i64 ip))/\
 ∃eu,(∀w',S1 w'->w'.cell? ((⟨r3,0,none⟩:Addr).add 1)=some (.int .i64 eu))/\
 ∃je:SV,(∀w',S1 w'->w'.cell? ((⟨r3,0,none⟩:Addr).add 2)=some (je.v))/\
 alE (.cells #[.int .i64 ip,.int .i64 eu,je.v] 90) w2 λdI w4=>
 S1 w4/\
 ∃ct:SV,∃w5,(Builtin.append_ #[87,87] 87 #[l8.v,.slice (some ⟨dI,0,none⟩) 1 1]).run prog w4=.ok (ct.v) w5/\
 zQg p0 λa6=>
 st1 (a6.add 9) (ct.v) w5 λw7=>
 dwE w7 λw8=>
 zQg p0 λa9=>
 ∃du:SV,w8.cell? (a9.add 8)=some (du.v)/\
 ∃dG,w8.cell? ((⟨r3,0,none⟩:Addr).add 0)=some (.int .i64 dG)/\
 ∃bQ,w8.cell? ((⟨r3,0,none⟩:Addr).add 1)=some (.int .i64 bQ)/\
 ∃cP:SV,w8.cell? ((⟨r3,0,none⟩:Addr).add 2)=some (cP.v)/\
 Calls prog 49 #[du.v,.agg #[.int .i64 dG,.int .i64 bQ,cP.v]] w8 λe aO=>
 ∃dW:SV,e=.returned (dW.v)/\
 zQg p0 λdV=>
 st1 (dV.add 8) (dW.v) aO λaM=>
 zQb prog ds aM λaH=>
 R (.returned (.tuple #[])) aH
theorem F84_p:Pl prog f84 [pS 0,aS 1 [.int .i64,.int .i64,.slice]] F84_1:=λR=>
 lf
theorem xXP (p0:Option Addr) (bD co:Int) (cu:SV) (w:World) (R:Rt) (h:F84_1 R p0 bD co cu [] w):Calls prog 84 #[.pointer p0,.agg #[.int .i64 bD,.int .i64 co,cu.v]] w R:=
 plC F84_p func84 h
def F79_1(R:Rt)(p0:Option Addr)(ds:Ds)(w:World):Prop:=
 dwE w λw1=>
 ∃S1:World->Prop,S1 w1/\
 zQg p0 λa2=>
 ∃l8:SV,(∀w',S1 w'->w'.cell? (a2.add 6)=some (l8.v))/\
 zQg p0 λa3=>
 ∃io:SV,(∀w',S1 w'->w'.cell? (a3.add 6)=some (io.v))/\
 ∃a4,l8.a=some a4/\0<=(IntKind.i64.wrap ((io.len:Int) - 1))/\(IntKind.i64.wrap ((io.len:Int) - 1))<(l8.len:Int)/\
 ∃fJ,(∀w',S1 w'->w'.cell? ((a4.add ((IntKind.i64.wrap ((io.len:Int) - 1)).toNat * 3)).add 0)=some (.int .i64 fJ))/\
 ∃c9:SV,(∀w',S1 w'->w'.cell? ((a4.add ((IntKind.i64.wrap ((io.len:Int) - 1)).toNat * 3)).add 1)=some (c9.v))/\
 ∃db:SV,(∀w',S1 w'->w'.cell? ((a4.add ((IntKind.i64.wrap ((io.len:Int) - 1)).toNat * 3)).add 2)=some (db.v))/\
 alE (.cells #[.int .i64 0,.slice none 0 0,.slice none 0 0] 35) w1 λr2 w5=>
 S1 w5/\
 stA prog 35 (⟨r2,0,none⟩:Addr) #[.int .i64 fJ,c9.v,db.v] w5 λw6=>
 dwE w6 λw7=>
 ∃gv,w7.cell? ((⟨r2,0,none⟩:Addr).add 0)=some (.int .i64 gv)/\
 ∃bV:SV,w7.cell? ((⟨r2,0,none⟩:Addr).add 1)=some (bV.v)/\
 ∃cZ:SV,w7.cell? ((⟨r2,0,none⟩:Addr).add 2)=some (cZ.v)/\
 zQg p0 λa8=>
 ∃jO,w7.cell? ((a8.add 2).add 0)=some (.int .i64 jO)/\
 ∃bZ:SV,w7.cell? ((a8.add 2).add 1)=some (bZ.v)/\
 ∃cR:SV,w7.cell? ((a8.add 2).add 2)=some (cR.v)/\
 Calls prog 72 #[.agg #[.int .i64 gv,bV.v,cZ.v],.agg #[.int .i64 jO,bZ.v,cR.v]] w7 λe w9=>
 ∃ky:SV,∃d8:Int,e=.returned (.tuple #[ky.v,.int .i64 d8])/\
 zQg p0 λeE=>
 ∃i8:SV,w9.cell? (eE.add 5)=some (i8.v)/\
 Br (decide ((i8.len:Int) > 0)) (
 zQb prog ds w9 λaR=>
 R (.returned (.tuple #[])) aR) (
 Br ((ky.len:Int) == 0) (
 zQb prog ds w9 λaM=>
 R (.returned (.tuple #[])) aM) (
 dwE w9 λaH=>
 ∃S3:World->Prop,S3 aH/\
 zQg p0 λga=>
 ∃na:SV,(∀w',S3 w'->w'.cell? (ga.add 8)=some (na.v))/\
 ∃jr,na.a=some jr/\0<=(1:Int)/\(1:Int)<(na.len:Int)/\
 ∃m8:SV,(∀w',S3 w'->w'.cell? (jr.add ((1:Int).toNat * 1))=some (m8.v))/\
 zQg p0 λiJ=>
 ∃uS,(∀w',S3 w'->w'.cell? ((iJ.add 2).add 0)=some (.int .i64 uS))/\
 ∃lC:SV,(∀w',S3 w'->w'.cell? ((iJ.add 2).add 1)=some (lC.v))/\
 ∃lD:SV,(∀w',S3 w'->w'.cell? ((iJ.add 2).add 2)=some (lD.v))/\
 Calls prog 112 #[.agg #[.int .i64 uS,lC.v,lD.v],ky.v] aH λe bG=>
 ∃xD:SV,e=.returned (xD.v)/\
 S3 bG/\
 Calls prog 111 #[.int .u8 99,xD.v] bG λe bI=>
 ∃oH:SV,e=.returned (oH.v)/\
 S3 bI/\
 Calls prog 84 #[.pointer p0,.agg #[.int .i64 1,.int .i64 (m8.len:Int),oH.v]] bI λe cE=>
 e=.returned (.tuple #[])/\
 dwE cE λbO=>
 ∃S4:World->Prop,S4 bO/\
 zQg p0 λa21=>
 ∃oY:SV,(∀w',S4 w'->w'.cell? (a21.add 6)=some (oY.v))/\
 zQg p0 λoN=>
 ∃dJ,(∀w',S4 w'->w'.cell? ((oN.add 2).add 0)=some (.int .i64 dJ))/\
 ∃bA:SV,(∀w',S4 w'->w'.cell? ((oN.add 2).add 1)=some (bA.v))/\
 ∃fI:SV,(∀w',S4 w'->w'.cell? ((oN.add 2).add 2)=some (fI.v))/\
 Calls prog 56 #[.agg #[.int .i64 dJ,bA.v,fI.v]] bO λe dU=>
 ∃uT:Int,∃lE:SV,∃lF:SV,e=.returned (.agg #[.int .i64 uT,lE.v,lF.v])/\
 S4 dU/\
 alE (.cells #[.int .i64 uT,lE.v,lF.v] 35) dU λr64 dD=>
 S4 dD/\
 ∃jN:SV,∃gy,(Builtin.append_ #[106,106] 106 #[oY.v,.slice (some ⟨r64,0,none⟩) 1 1]).run prog dD=.ok (jN.v) gy/\
 zQg p0 λwJ=>
 st1 (wJ.add 6) (jN.v) gy λiy=>
 dwE iy λeg=>
 ∃S5:World->Prop,S5 eg/\
 zQg p0 λrj=>
 ∃mP:SV,(∀w',S5 w'->w'.cell? (rj.add 10)=some (mP.v))/\
 zQg p0 λoO=>
 ∃oI:SV,(∀w',S5 w'->w'.cell? (oO.add 9)=some (oI.v))/\
 alE (.cells #[.int .i64 (oI.len:Int)] 3) eg λr78 il=>
 S5 il/\
 ∃i9:SV,∃gz,(Builtin.append_ #[52,52] 52 #[mP.v,.slice (some ⟨r78,0,none⟩) 1 1]).run prog il=.ok (i9.v) gz/\
 zQg p0 λa33=>
 st1 (a33.add 10) (i9.v) gz λgd=>
 zQb prog ds gd λjV=>
 R (.returned (.tuple #[])) jV))
theorem F79_p:Pl prog f79 [pS 0] F79_1:=λR=>
 lf
theorem xQt (p0:Option Addr) (w:World) (R:Rt) (h:F79_1 R p0 [] w):Calls prog 79 #[.pointer p0] w R:=
 plC F79_p func79 h
def F81_1(R:Rt)(p0:Option Addr)(n1:Int)(ds:Ds)(w:World):Prop:=
 Br (decide (n1 >= 1)) (
 zQg p0 λa1=>
 ∃cy:SV,w.cell? ((a1.add 2).add 2)=some (cy.v)/\
 zQb prog ds w λw2=>
 R (.returned (.bool (decide (n1<=(cy.len:Int))))) w2) (
 zQb prog ds w λw3=>
 R (.returned (.bool false)) w3)
theorem F81_p:Pl prog f81 [pS 0,iS 1] F81_1:=λR=>
 lf
theorem xXh (p0:Option Addr) (n1:Int) (w:World) (R:Rt) (h:F81_1 R p0 n1 [] w):Calls prog 81 #[.pointer p0,.int .i64 n1] w R:=
 plC F81_p func81 h
def F77_1(R:Rt)(p0:Option Addr)(eD:Bool)(bg:SV)(ds:Ds)(w:World):Prop:=
 alE (.cells #[.bool eD,bg.v] 67) w λr3 w1=>
 dwE w1 λw2=>
 ∃S1:World->Prop,S1 w2/\
 zQg p0 λa3=>
 ∃n9,(∀w',S1 w'->w'.cell? (a3.add 2)=some (.int .i64 n9))/\
 zQg p0 λa4=>
 ∃bP:SV,(∀w',S1 w'->w'.cell? ((a4.add 2).add 1)=some (bP.v))/\
 ∃uU,(∀w',S1 w'->w'.cell? ((⟨r3,0,none⟩:Addr).add 0)=some (.bool uU))/\
 ∃fp:SV,(∀w',S1 w'->w'.cell? ((⟨r3,0,none⟩:Addr).add 1)=some (fp.v))/\
 alE (.cells #[.bool uU,fp.v] 67) w2 λzu w5=>
 S1 w5/\
 Calls prog 106 #[.agg #[.int .i64 n9,bP.v,.slice (some ⟨zu,0,none⟩) 1 1]] w5 λe w6=>
 ∃iI:Int,e=.returned (.int .i64 iI)/\
 zQb prog ds w6 λw7=>
 R (.returned (.int .i64 iI)) w7
theorem F77_p:Pl prog f77 [pS 0,aS 1 [.bool,.slice]] F77_1:=λR=>
 lf
theorem xXa (p0:Option Addr) (eD:Bool) (bg:SV) (w:World) (R:Rt) (h:F77_1 R p0 eD bg [] w):Calls prog 77 #[.pointer p0,.agg #[.bool eD,bg.v]] w R:=
 plC F77_p func77 h
end Go.Proofs.YtaeecpjhfmcliaaGreatDoor
/- Shallow texts of functions, printed by program, each checked by the kernel against the loaded code. No condition. -/
namespace Go.Proofs.YtaeecpjhfmcliaaGreatDoor
open Go.Sh Tryz
def F34_1(R:Rt)(p0:Option Addr)(eD:Bool)(bg:SV)(ds:Ds)(w:World):Prop:=
 alE (.cells #[.bool eD,bg.v] 67) w λr3 w1=>
 Calls prog 55 #[.pointer p0] w1 λe w2=>
 ∃nV:Value,∃dZ:Int,e=.returned (.tuple #[nV,.int .i64 dZ])/\
 fnE nV λfx firstx capx=>
 Br (dZ != 0) (
 zQb prog ({ target:=.fn (.func fx) capx,args:=(firstx.toList ++ ([]:List Value)).toArray } :: ds) w2 λw3=>
 R (.returned (.tuple #[.int .i64 0,.int .i64 dZ])) w3) (
 zQg p0 λa4=>
 ∃dw:SV,w2.cell? ((a4.add 2).add 2)=some (dw.v)/\
 Br (decide ((dw.len:Int) >= 300)) (
 zQb prog ({ target:=.fn (.func fx) capx,args:=(firstx.toList ++ ([]:List Value)).toArray } :: ds) w2 λw5=>
 R (.returned (.tuple #[.int .i64 0,.int .i64 3])) w5) (
 ∃nW,w2.cell? ((⟨r3,0,none⟩:Addr).add 0)=some (.bool nW)/\
 ∃bx:SV,w2.cell? ((⟨r3,0,none⟩:Addr).add 1)=some (bx.v)/\
 Calls prog 77 #[.pointer p0,.agg #[.bool nW,bx.v]] w2 λe w6=>
 ∃gn:Int,e=.returned (.int .i64 gn)/\
 Br (gn != 0) (
 zQb prog ({ target:=.fn (.func fx) capx,args:=(firstx.toList ++ ([]:List Value)).toArray } :: ds) w6 λw7=>
 R (.returned (.tuple #[.int .i64 0,.int .i64 gn])) w7) (
 dwE w6 λw8=>
 ∃S1:World->Prop,S1 w8/\
 zQg p0 λa9=>
 ∃iF:SV,(∀w',S1 w'->w'.cell? ((a9.add 2).add 2)=some (iF.v))/\
 ∃b38,(∀w',S1 w'->w'.cell? (⟨r3,0,none⟩:Addr)=some (.bool b38))/\
 ∃bH:SV,(∀w',S1 w'->w'.cell? ((⟨r3,0,none⟩:Addr).add 1)=some (bH.v))/\
 Calls prog 78 #[bH.v] w8 λe aO=>
 ∃na:SV,e=.returned (na.v)/\
 S1 aO/\
 alE (.cells #[.bool b38,na.v] 67) aO λr43 aR=>
 S1 aR/\
 ∃xE:SV,∃aM,(Builtin.append_ #[33,33] 33 #[iF.v,.slice (some ⟨r43,0,none⟩) 1 1]).run prog aR=.ok (xE.v) aM/\
 zQg p0 λkV=>
 st1 ((kV.add 2).add 2) (xE.v) aM λbo=>
 Calls prog 79 #[.pointer p0] bo λe bt=>
 e=.returned (.tuple #[])/\
 zQg p0 λiJ=>
 ∃l54:SV,bt.cell? ((iJ.add 2).add 2)=some (l54.v)/\
 zQb prog ({ target:=.fn (.func fx) capx,args:=(firstx.toList ++ ([]:List Value)).toArray } :: ds) bt λbG=>
 R (.returned (.tuple #[.int .i64 (l54.len:Int),.int .i64 0])) bG)))
theorem F34_p:Pl prog f34 [pS 0,aS 1 [.bool,.slice]] F34_1:=λR=>
 lf
theorem xXL (p0:Option Addr) (eD:Bool) (bg:SV) (w:World) (R:Rt) (h:F34_1 R p0 eD bg [] w):Calls prog 34 #[.pointer p0,.agg #[.bool eD,bg.v]] w R:=
 plC F34_p func34 h
def F38_1(R:Rt)(p0:Option Addr)(n1:Int)(gc:Bool)(bJ:SV)(ds:Ds)(w:World):Prop:=
 alE (.cells #[.bool gc,bJ.v] 67) w λr5 w1=>
 Calls prog 55 #[.pointer p0] w1 λe w2=>
 ∃uV:Value,∃ed:Int,e=.returned (.tuple #[uV,.int .i64 ed])/\
 fnE uV λfx firstx capx=>
 Br (ed != 0) (
 zQb prog ({ target:=.fn (.func fx) capx,args:=(firstx.toList ++ ([]:List Value)).toArray } :: ds) w2 λw3=>
 R (.returned (.int .i64 ed)) w3) (
 Calls prog 81 #[.pointer p0,.int .i64 n1] w2 λe w4=>
 ∃rg:Bool,e=.returned (.bool rg)/\
 Br (!rg) (
 zQb prog ({ target:=.fn (.func fx) capx,args:=(firstx.toList ++ ([]:List Value)).toArray } :: ds) w4 λw5=>
 R (.returned (.int .i64 4)) w5) (
 ∃nU,w4.cell? ((⟨r5,0,none⟩:Addr).add 0)=some (.bool nU)/\
 ∃cf:SV,w4.cell? ((⟨r5,0,none⟩:Addr).add 1)=some (cf.v)/\
 Calls prog 77 #[.pointer p0,.agg #[.bool nU,cf.v]] w4 λe w6=>
 ∃ck:Int,e=.returned (.int .i64 ck)/\
 Br (ck != 0) (
 zQb prog ({ target:=.fn (.func fx) capx,args:=(firstx.toList ++ ([]:List Value)).toArray } :: ds) w6 λw7=>
 R (.returned (.int .i64 ck)) w7) (
 dwE w6 λw8=>
 ∃S1:World->Prop,S1 w8/\
 zQg p0 λa9=>
 ∃iL:SV,(∀w',S1 w'->w'.cell? ((a9.add 2).add 2)=some (iL.v))/\
 ∃si,(∀w',S1 w'->w'.cell? (⟨r5,0,none⟩:Addr)=some (.bool si))/\
 ∃iM:SV,(∀w',S1 w'->w'.cell? ((⟨r5,0,none⟩:Addr).add 1)=some (iM.v))/\
 Calls prog 78 #[iM.v] w8 λe aO=>
 ∃bH:SV,e=.returned (bH.v)/\
 S1 aO/\
 ∃dV,iL.a=some dV/\0<=(IntKind.i64.wrap (n1 - 1))/\(IntKind.i64.wrap (n1 - 1))<(iL.len:Int)/\
 stA prog 67 (dV.add ((IntKind.i64.wrap (n1 - 1)).toNat * 2)) #[.bool si,bH.v] aO λaM=>
 Calls prog 79 #[.pointer p0] aM λe aH=>
 e=.returned (.tuple #[])/\
 zQb prog ({ target:=.fn (.func fx) capx,args:=(firstx.toList ++ ([]:List Value)).toArray } :: ds) aH λbo=>
 R (.returned (.int .i64 0)) bo)))
theorem F38_p:Pl prog f38 [pS 0,iS 1,aS 2 [.bool,.slice]] F38_1:=λR=>
 lf
theorem yYt (p0:Option Addr) (n1:Int) (gc:Bool) (bJ:SV) (w:World) (R:Rt) (h:F38_1 R p0 n1 gc bJ [] w):Calls prog 38 #[.pointer p0,.int .i64 n1,.agg #[.bool gc,bJ.v]] w R:=
 plC F38_p func38 h
def F39_1(R:Rt)(p0:Option Addr)(n1:Int)(b2:Bool)(ds:Ds)(w:World):Prop:=
 Calls prog 55 #[.pointer p0] w λe w1=>
 ∃nV:Value,∃dZ:Int,e=.returned (.tuple #[nV,.int .i64 dZ])/\
 fnE nV λfx firstx capx=>
 Br (dZ != 0) (
 zQb prog ({ target:=.fn (.func fx) capx,args:=(firstx.toList ++ ([]:List Value)).toArray } :: ds) w1 λw2=>
 R (.returned (.int .i64 dZ)) w2) (
 Calls prog 81 #[.pointer p0,.int .i64 n1] w1 λe w3=>
 ∃b20:Bool,e=.returned (.bool b20)/\
 Br (!b20) (
 zQb prog ({ target:=.fn (.func fx) capx,args:=(firstx.toList ++ ([]:List Value)).toArray } :: ds) w3 λw4=>
 R (.returned (.int .i64 4)) w4) (
 zQg p0 λa5=>
 ∃dT:SV,w3.cell? ((a5.add 2).add 2)=some (dT.v)/\
 ∃a6,dT.a=some a6/\0<=(IntKind.i64.wrap (n1 - 1))/\(IntKind.i64.wrap (n1 - 1))<(dT.len:Int)/\
 st1 (a6.add ((IntKind.i64.wrap (n1 - 1)).toNat * 2)) (.bool b2) w3 λw7=>
 Calls prog 79 #[.pointer p0] w7 λe w8=>
 e=.returned (.tuple #[])/\
 zQb prog ({ target:=.fn (.func fx) capx,args:=(firstx.toList ++ ([]:List Value)).toArray } :: ds) w8 λw9=>
 R (.returned (.int .i64 0)) w9))
theorem F39_p:Pl prog f39 [pS 0,iS 1,bS 2] F39_1:=λR=>
 lf
theorem xX6 (p0:Option Addr) (n1:Int) (b2:Bool) (w:World) (R:Rt) (h:F39_1 R p0 n1 b2 [] w):Calls prog 39 #[.pointer p0,.int .i64 n1,.bool b2] w R:=
 plC F39_p func39 h
def F40_1(R:Rt)(p0:Option Addr)(n1:Int)(s2:ByteArray)(iW gB:Int)(mQ:ByteArray)(ds:Ds)(w:World):Prop:=
 alE (.cells #[.int .i64 iW,.int .i64 gB,.string mQ] 73) w λr7 w1=>
 Calls prog 55 #[.pointer p0] w1 λe w2=>
 ∃uW:Value,∃gC:Int,e=.returned (.tuple #[uW,.int .i64 gC])/\
 fnE uW λfx firstx capx=>
 Br (gC != 0) (
 zQb prog ({ target:=.fn (.func fx) capx,args:=(firstx.toList ++ ([]:List Value)).toArray } :: ds) w2 λw3=>
 R (.returned (.int .i64 gC)) w3) (
 zQg p0 λa4=>
 ∃bR:SV,w2.cell? ((a4.add 2).add 1)=some (bR.v)/\
 Calls prog 82 #[bR.v,.string s2] w2 λe w5=>
 ∃cN:Int,∃uX:Bool,e=.returned (.tuple #[.int .i64 cN,.bool uX])/\
 Br (!uX) (
 zQb prog ({ target:=.fn (.func fx) capx,args:=(firstx.toList ++ ([]:List Value)).toArray } :: ds) w5 λw6=>
 R (.returned (.int .i64 4)) w6) (
 Calls prog 81 #[.pointer p0,.int .i64 n1] w5 λe w7=>
 ∃si:Bool,e=.returned (.bool si)/\
 Br (!si) (
 zQb prog ({ target:=.fn (.func fx) capx,args:=(firstx.toList ++ ([]:List Value)).toArray } :: ds) w7 λw8=>
 R (.returned (.int .i64 4)) w8) (
 dwE w7 λw9=>
 zQg p0 λeE=>
 ∃sf:SV,w9.cell? ((eE.add 2).add 1)=some (sf.v)/\
 ∃dV,sf.a=some dV/\0<=cN/\cN<(sf.len:Int)/\
 ∃uY,w9.cell? ((dV.add (cN.toNat * 4)).add 0)=some (.string uY)/\
 ∃uZ,w9.cell? ((dV.add (cN.toNat * 4)).add 1)=some (.int .i64 uZ)/\
 ∃u0,w9.cell? ((dV.add (cN.toNat * 4)).add 2)=some (.int .i64 u0)/\
 ∃u6,w9.cell? ((dV.add (cN.toNat * 4)).add 3)=some (.bool u6)/\
 zQg p0 λkF=>
 ∃i7,w9.cell? (kF.add 2)=some (.int .i64 i7)/\
 ∃nX,w9.cell? ((⟨r7,0,none⟩:Addr).add 0)=some (.int .i64 nX)/\
 ∃kz,w9.cell? ((⟨r7,0,none⟩:Addr).add 1)=some (.int .i64 kz)/\
 ∃u7,w9.cell? ((⟨r7,0,none⟩:Addr).add 2)=some (.string u7)/\
 Calls prog 83 #[.agg #[.string uY,.int .i64 uZ,.int .i64 u0,.bool u6],.int .i64 i7,.agg #[.int .i64 nX,.int .i64 kz,.string u7]] w9 λe aH=>
 ∃pI:Int,∃pJ:Int,∃pK:ByteArray,∃lz:Int,e=.returned (.tuple #[.agg #[.int .i64 pI,.int .i64 pJ,.string pK],.int .i64 lz])/\
 stA prog 73 (⟨r7,0,none⟩:Addr) #[.int .i64 pI,.int .i64 pJ,.string pK] aH λbo=>
 Br (lz != 0) (
 zQb prog ({ target:=.fn (.func fx) capx,args:=(firstx.toList ++ ([]:List Value)).toArray } :: ds) bo λbt=>
 R (.returned (.int .i64 lz)) bt) (
 dwE bo λbB=>
 zQg p0 λqY=>
 ∃jN:SV,bB.cell? ((qY.add 2).add 2)=some (jN.v)/\
 ∃jq,jN.a=some jq/\0<=(IntKind.i64.wrap (n1 - 1))/\(IntKind.i64.wrap (n1 - 1))<(jN.len:Int)/\
 ∃mN:SV,bB.cell? ((jq.add ((IntKind.i64.wrap (n1 - 1)).toNat * 2)).add 1)=some (mN.v)/\
 ∃vc,bB.cell? ((⟨r7,0,none⟩:Addr).add 0)=some (.int .i64 vc)/\
 ∃vd,bB.cell? ((⟨r7,0,none⟩:Addr).add 1)=some (.int .i64 vd)/\
 ∃ve,bB.cell? ((⟨r7,0,none⟩:Addr).add 2)=some (.string ve)/\
 ∃kH,mN.a=some kH/\0<=cN/\cN<(mN.len:Int)/\
 stA prog 73 (kH.add (cN.toNat * 3)) #[.int .i64 vc,.int .i64 vd,.string ve] bB λbO=>
 Calls prog 79 #[.pointer p0] bO λe cq=>
 e=.returned (.tuple #[])/\
 zQb prog ({ target:=.fn (.func fx) capx,args:=(firstx.toList ++ ([]:List Value)).toArray } :: ds) cq λd7=>
 R (.returned (.int .i64 0)) d7))))
theorem F40_p:Pl prog f40 [pS 0,iS 1,sS 2,aS 3 [.int .i64,.int .i64,.str]] F40_1:=λR=>
 lf
theorem xQM (p0:Option Addr) (n1:Int) (s2:ByteArray) (iW gB:Int) (mQ:ByteArray) (w:World) (R:Rt) (h:F40_1 R p0 n1 s2 iW gB mQ [] w):Calls prog 40 #[.pointer p0,.int .i64 n1,.string s2,.agg #[.int .i64 iW,.int .i64 gB,.string mQ]] w R:=
 plC F40_p func40 h
def F41_1(R:Rt)(ds:Ds)(w:World):Prop:=
 zQb prog ds w λw1=>
 R (.returned (.int .i64 0)) w1
def F41_2 (R:Rt) (J1:(Int)->World->Prop) (p0:Option Addr) (sj:SV) (iE oM:Int) (ds:Ds) (w:World):Prop:=
 Br (decide (oM<iE)) (
 ∃a2,sj.a=some a2/\0<=oM/\oM<(sj.len:Int)/\
 ∃nX,w.cell? ((a2.add (oM.toNat * 3)).add 0)=some (.int .i64 nX)/\
 ∃kz,w.cell? ((a2.add (oM.toNat * 3)).add 1)=some (.int .i64 kz)/\
 ∃lG:SV,w.cell? ((a2.add (oM.toNat * 3)).add 2)=some (lG.v)/\
 alE (.cells #[.int .i64 0,.int .i64 0,.slice none 0 0] 90) w λr6 w3=>
 stA prog 90 (⟨r6,0,none⟩:Addr) #[.int .i64 nX,.int .i64 kz,lG.v] w3 λw4=>
 ∃vg,w4.cell? ((⟨r6,0,none⟩:Addr).add 0)=some (.int .i64 vg)/\
 ∃vh,w4.cell? ((⟨r6,0,none⟩:Addr).add 1)=some (.int .i64 vh)/\
 ∃lH:SV,w4.cell? ((⟨r6,0,none⟩:Addr).add 2)=some (lH.v)/\
 Calls prog 84 #[.pointer p0,.agg #[.int .i64 vg,.int .i64 vh,lH.v]] w4 λe w5=>
 e=.returned (.tuple #[])/\
 J1 (IntKind.i64.wrap (oM+1)) w5) (
 F41_1 R ds w)
def F41_3(R:Rt)(p0:Option Addr)(sj:SV)(iE oM:Int)(ds:Ds)(w:World):Prop:=
 zQA (λ(J1:(Int)->World->Prop) (s:Int) (w:World)=>F41_2 R J1 p0 sj iE s ds w) oM w
def F41_5(R:Rt)(p0:Option Addr)(ds:Ds)(w:World):Prop:=
 Calls prog 55 #[.pointer p0] w λe w6=>
 ∃rq:Value,∃eu:Int,e=.returned (.tuple #[rq,.int .i64 eu])/\
 fnE rq λfx firstx capx=>
 Br (eu != 0) (
 zQb prog ({ target:=.fn (.func fx) capx,args:=(firstx.toList ++ ([]:List Value)).toArray } :: ds) w6 λw7=>
 R (.returned (.int .i64 eu)) w7) (
 zQg p0 λa8=>
 ∃dm:SV,w6.cell? (a8.add 5)=some (dm.v)/\
 Br (decide ((dm.len:Int) > 0)) (
 zQb prog ({ target:=.fn (.func fx) capx,args:=(firstx.toList ++ ([]:List Value)).toArray } :: ds) w6 λw9=>
 R (.returned (.int .i64 9)) w9) (
 zQg p0 λeE=>
 ∃eb:SV,w6.cell? (eE.add 8)=some (eb.v)/\
 ∃dV,eb.a=some dV/\0<=(1:Int)/\(1:Int)<(eb.len:Int)/\
 ∃bR:SV,w6.cell? (dV.add ((1:Int).toNat * 1))=some (bR.v)/\
 Br ((bR.len:Int) == 0) (
 zQb prog ({ target:=.fn (.func fx) capx,args:=(firstx.toList ++ ([]:List Value)).toArray } :: ds) w6 λaM=>
 R (.returned (.int .i64 0)) aM) (
 dwE w6 λaH=>
 ∃S1:World->Prop,S1 aH/\
 zQg p0 λga=>
 ∃j6:SV,(∀w',S1 w'->w'.cell? (ga.add 8)=some (j6.v))/\
 ∃jr,j6.a=some jr/\0<=(1:Int)/\(1:Int)<(j6.len:Int)/\
 ∃iF:SV,(∀w',S1 w'->w'.cell? (jr.add ((1:Int).toNat * 1))=some (iF.v))/\
 zQg p0 λiJ=>
 ∃nL,(∀w',S1 w'->w'.cell? ((iJ.add 2).add 0)=some (.int .i64 nL))/\
 ∃fG:SV,(∀w',S1 w'->w'.cell? ((iJ.add 2).add 1)=some (fG.v))/\
 ∃fH:SV,(∀w',S1 w'->w'.cell? ((iJ.add 2).add 2)=some (fH.v))/\
 Calls prog 85 #[.agg #[.int .i64 nL,fG.v,fH.v]] aH λe bG=>
 ∃kw:SV,e=.returned (kw.v)/\
 S1 bG/\
 Calls prog 84 #[.pointer p0,.agg #[.int .i64 1,.int .i64 (iF.len:Int),kw.v]] bG λe bI=>
 e=.returned (.tuple #[])/\
 zQg p0 λkH=>
 ∃nw:SV,bI.cell? (kH.add 8)=some (nw.v)/\
 Calls prog 48 #[nw.v] bI λe bO=>
 ∃sj:SV,e=.returned (sj.v)/\
 F41_3 R p0 sj (sj.len:Int) 0 ({ target:=.fn (.func fx) capx,args:=(firstx.toList ++ ([]:List Value)).toArray } :: ds) bO)))
theorem F41_p:Pl prog f41 [pS 0] F41_5:=λR=>
 pc 11 (rest [pS 0,lS 49,iS 50,iS 51] (F41_3 R) (bk 0 (rest [] (F41_1 R) lf) (lp [iS 51] [pS 0,lS 49,iS 50,iS 51] (F41_2 R) zXH λJ1=>lf)))
theorem xX5 (p0:Option Addr) (w:World) (R:Rt) (h:F41_5 R p0 [] w):Calls prog 41 #[.pointer p0] w R:=
 plC F41_p func41 h
end Go.Proofs.YtaeecpjhfmcliaaGreatDoor
