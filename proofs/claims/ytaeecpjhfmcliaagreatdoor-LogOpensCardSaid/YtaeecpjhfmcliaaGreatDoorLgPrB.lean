import Derived.Test.YtaeecpjhfmcliaaGreatDoorProg
import Derived.Test.YtaeecpjhfmcliaaGreatDoorShTwentyEight
/- Shallow texts of functions, printed by program, each checked by the kernel against the loaded code. No condition. -/
set_option maxRecDepth 100000
set_option linter.unusedVariables false
namespace Go.Proofs.YtaeecpjhfmcliaaGreatDoor
open Go.Sh Tryz
def F87_1(R:Rt)(l0:SV)(ds:Ds)(w:World):Prop:=
 alE (.cells #[.int .i64 0,.slice none 0 0,.slice none 0 0] 35) w λr2 w1=>
 Calls prog 124 #[l0.v] w1 λe w2=>
 ∃mX:Int,∃gg:SV,∃gh:SV,∃mV:Bool,e=.returned (.tuple #[.agg #[.int .i64 mX,gg.v,gh.v],.bool mV])/\
 alE (.cells #[.int .i64 0,.slice none 0 0,.slice none 0 0] 35) w2 λr4 w3=>
 stA prog 35 (⟨r4,0,none⟩:Addr) #[.int .i64 mX,gg.v,gh.v] w3 λw4=>
 Br (!mV) (
 stA prog 35 (⟨r2,0,none⟩:Addr) #[.int .i64 0,.slice none 0 0,.slice none 0 0] w4 λw5=>
 zQc prog ds w5 λw6=>
 ∃ag,w6.cell? ((⟨r2,0,none⟩:Addr).add 0)=some (.int .i64 ag)/\
 ∃ab:SV,w6.cell? ((⟨r2,0,none⟩:Addr).add 1)=some (ab.v)/\
 ∃ae:SV,w6.cell? ((⟨r2,0,none⟩:Addr).add 2)=some (ae.v)/\
 R (.returned (.tuple #[.agg #[.int .i64 ag,ab.v,ae.v],.int .i64 11])) w6) (
 ∃kr,w4.cell? ((⟨r4,0,none⟩:Addr).add 0)=some (.int .i64 kr)/\
 ∃cc:SV,w4.cell? ((⟨r4,0,none⟩:Addr).add 1)=some (cc.v)/\
 ∃dr:SV,w4.cell? ((⟨r4,0,none⟩:Addr).add 2)=some (dr.v)/\
 Calls prog 106 #[.agg #[.int .i64 kr,cc.v,dr.v]] w4 λe w7=>
 ∃iz:Int,e=.returned (.int .i64 iz)/\
 Br (iz != 0) (
 stA prog 35 (⟨r2,0,none⟩:Addr) #[.int .i64 0,.slice none 0 0,.slice none 0 0] w7 λw8=>
 zQc prog ds w8 λw9=>
 ∃ag,w9.cell? ((⟨r2,0,none⟩:Addr).add 0)=some (.int .i64 ag)/\
 ∃ab:SV,w9.cell? ((⟨r2,0,none⟩:Addr).add 1)=some (ab.v)/\
 ∃ae:SV,w9.cell? ((⟨r2,0,none⟩:Addr).add 2)=some (ae.v)/\
 R (.returned (.tuple #[.agg #[.int .i64 ag,ab.v,ae.v],.int .i64 11])) w9) (
 ∃cY,w7.cell? ((⟨r4,0,none⟩:Addr).add 0)=some (.int .i64 cY)/\
 ∃iZ:SV,w7.cell? ((⟨r4,0,none⟩:Addr).add 1)=some (iZ.v)/\
 ∃cf:SV,w7.cell? ((⟨r4,0,none⟩:Addr).add 2)=some (cf.v)/\
 Calls prog 123 #[.agg #[.int .i64 cY,iZ.v,cf.v]] w7 λe aU=>
 ∃dZ:SV,e=.returned (dZ.v)/\
 Calls prog 125 #[dZ.v,l0.v] aU λe aT=>
 ∃mh:Bool,e=.returned (.bool mh)/\
 Br (!mh) (
 stA prog 35 (⟨r2,0,none⟩:Addr) #[.int .i64 0,.slice none 0 0,.slice none 0 0] aT λaX=>
 zQc prog ds aX λaK=>
 ∃ag,aK.cell? ((⟨r2,0,none⟩:Addr).add 0)=some (.int .i64 ag)/\
 ∃ab:SV,aK.cell? ((⟨r2,0,none⟩:Addr).add 1)=some (ab.v)/\
 ∃ae:SV,aK.cell? ((⟨r2,0,none⟩:Addr).add 2)=some (ae.v)/\
 R (.returned (.tuple #[.agg #[.int .i64 ag,ab.v,ae.v],.int .i64 11])) aK) (
 ∃ez,aT.cell? ((⟨r4,0,none⟩:Addr).add 0)=some (.int .i64 ez)/\
 ∃cg:SV,aT.cell? ((⟨r4,0,none⟩:Addr).add 1)=some (cg.v)/\
 ∃ci:SV,aT.cell? ((⟨r4,0,none⟩:Addr).add 2)=some (ci.v)/\
 stA prog 35 (⟨r2,0,none⟩:Addr) #[.int .i64 ez,cg.v,ci.v] aT λbH=>
 zQc prog ds bH λbC=>
 ∃ag,bC.cell? ((⟨r2,0,none⟩:Addr).add 0)=some (.int .i64 ag)/\
 ∃ab:SV,bC.cell? ((⟨r2,0,none⟩:Addr).add 1)=some (ab.v)/\
 ∃ae:SV,bC.cell? ((⟨r2,0,none⟩:Addr).add 2)=some (ae.v)/\
 R (.returned (.tuple #[.agg #[.int .i64 ag,ab.v,ae.v],.int .i64 0])) bC)))
theorem F87_p:Pl prog f87 [lS 0] F87_1:=λR=>
 lf
theorem yVr (l0:SV) (w:World) (R:Rt) (h:F87_1 R l0 [] w):Calls prog 87 #[l0.v] w R:=
 plC F87_p func87 h
def xZy(R:Rt)(p2 p4:Option Addr)(ds:Ds)(w:World):Prop:=
 zQg p4 λa1=>
 ∃eD,w.cell? (a1.add 0)=some (.int .i64 eD)/\
 ∃bq:SV,w.cell? (a1.add 1)=some (bq.v)/\
 ∃br:SV,w.cell? (a1.add 2)=some (br.v)/\
 zQg p2 λa2=>
 stA prog 35 a2 #[.int .i64 eD,bq.v,br.v] w λw3=>
 zQc prog ds w3 λw4=>
 zQg p2 λa5=>
 ∃ag,w4.cell? (a5.add 0)=some (.int .i64 ag)/\
 ∃ab:SV,w4.cell? (a5.add 1)=some (ab.v)/\
 ∃ae:SV,w4.cell? (a5.add 2)=some (ae.v)/\
 R (.returned (.tuple #[.agg #[.int .i64 ag,ab.v,ae.v],.bool true])) w4
def xZD (R:Rt) (J1:(Int)->World->Prop) (l0:SV) (p2 p4:Option Addr) (n6 n8 wT i5:Int) (ds:Ds) (w:World):Prop:=
 Br (decide (i5<wT)) (
 dwE w λw6=>
 ∃S1:World->Prop,S1 w6/\
 zQg p4 λa7=>
 ∃oa:SV,(∀w',S1 w'->w'.cell? (a7.add 1)=some (oa.v))/\
 0<=(IntKind.i64.wrap (n6+(IntKind.i64.wrap (n8 * (IntKind.i64.wrap (i5+1))))))/\(IntKind.i64.wrap (n6+(IntKind.i64.wrap (n8 * (IntKind.i64.wrap (i5+1)))))).toNat<=l0.cap/\0<=(IntKind.i64.wrap (n6+(IntKind.i64.wrap (n8 * i5))))/\(IntKind.i64.wrap (n6+(IntKind.i64.wrap (n8 * i5)))).toNat<=(IntKind.i64.wrap (n6+(IntKind.i64.wrap (n8 * (IntKind.i64.wrap (i5+1)))))).toNat/\
 (
 Calls prog 163 #[oa.v,.slice (if l0.cap=(IntKind.i64.wrap (n6+(IntKind.i64.wrap (n8 * i5)))).toNat then l0.a else l0.a.map (λx=>x.add ((IntKind.i64.wrap (n6+(IntKind.i64.wrap (n8 * i5)))).toNat * 1))) ((IntKind.i64.wrap (n6+(IntKind.i64.wrap (n8 * (IntKind.i64.wrap (i5+1)))))).toNat - (IntKind.i64.wrap (n6+(IntKind.i64.wrap (n8 * i5)))).toNat) (l0.cap - (IntKind.i64.wrap (n6+(IntKind.i64.wrap (n8 * i5)))).toNat)] w6 λe w8=>
 ∃eE:Bool,∃bt:SV,∃ij:Bool,e=.returned (.tuple #[.agg #[.bool eE,bt.v],.bool ij])/\
 alE (.cells #[.bool false,.slice none 0 0] 67) w8 λbU w9=>
 stA prog 67 (⟨bU,0,none⟩:Addr) #[.bool eE,bt.v] w9 λaU=>
 Br (!ij) (
 zQg p4 λeL=>
 ∃ik,aU.cell? (eL.add 0)=some (.int .i64 ik)/\
 ∃cy:SV,aU.cell? (eL.add 1)=some (cy.v)/\
 ∃cz:SV,aU.cell? (eL.add 2)=some (cz.v)/\
 zQg p2 λiR=>
 stA prog 35 iR #[.int .i64 ik,cy.v,cz.v] aU λaK=>
 zQc prog ds aK λbH=>
 zQg p2 λkO=>
 ∃ag,bH.cell? (kO.add 0)=some (.int .i64 ag)/\
 ∃ab:SV,bH.cell? (kO.add 1)=some (ab.v)/\
 ∃ae:SV,bH.cell? (kO.add 2)=some (ae.v)/\
 R (.returned (.tuple #[.agg #[.int .i64 ag,ab.v,ae.v],.bool false])) bH) (
 zQg p4 λjX=>
 ∃du:SV,aU.cell? (jX.add 2)=some (du.v)/\
 ∃eF,aU.cell? ((⟨bU,0,none⟩:Addr).add 0)=some (.bool eF)/\
 ∃bu:SV,aU.cell? ((⟨bU,0,none⟩:Addr).add 1)=some (bu.v)/\
 alE (.cells #[.bool eF,bu.v] 67) aU λmY bD=>
 ∃dv:SV,∃cH,(Builtin.append_ #[33,33] 33 #[du.v,.slice (some ⟨mY,0,none⟩) 1 1]).run prog bD=.ok (dv.v) cH/\
 zQg p4 λkP=>
 st1 (kP.add 2) (dv.v) cH λcP=>
 J1 (IntKind.i64.wrap (i5+1)) cP))/\(
 alE (.cells #[.bool false,.slice none 0 0] 67) w6 λbU bX=>
 S1 bX/\
 Calls prog 163 #[oa.v,.slice (if l0.cap=(IntKind.i64.wrap (n6+(IntKind.i64.wrap (n8 * i5)))).toNat then l0.a else l0.a.map (λx=>x.add ((IntKind.i64.wrap (n6+(IntKind.i64.wrap (n8 * i5)))).toNat * 1))) ((IntKind.i64.wrap (n6+(IntKind.i64.wrap (n8 * (IntKind.i64.wrap (i5+1)))))).toNat - (IntKind.i64.wrap (n6+(IntKind.i64.wrap (n8 * i5)))).toNat) (l0.cap - (IntKind.i64.wrap (n6+(IntKind.i64.wrap (n8 * i5)))).toNat)] bX λe dQ=>
 ∃eE:Bool,∃bt:SV,∃ij:Bool,e=.returned (.tuple #[.agg #[.bool eE,bt.v],.bool ij])/\
 stA prog 67 (⟨bU,0,none⟩:Addr) #[.bool eE,bt.v] dQ λdM=>
 Br (!ij) (
 zQg p4 λrz=>
 ∃ik,dM.cell? (rz.add 0)=some (.int .i64 ik)/\
 ∃cy:SV,dM.cell? (rz.add 1)=some (cy.v)/\
 ∃cz:SV,dM.cell? (rz.add 2)=some (cz.v)/\
 zQg p2 λj3=>
 stA prog 35 j3 #[.int .i64 ik,cy.v,cz.v] dM λfy=>
 zQc prog ds fy λgR=>
 zQg p2 λwU=>
 ∃ag,gR.cell? (wU.add 0)=some (.int .i64 ag)/\
 ∃ab:SV,gR.cell? (wU.add 1)=some (ab.v)/\
 ∃ae:SV,gR.cell? (wU.add 2)=some (ae.v)/\
 R (.returned (.tuple #[.agg #[.int .i64 ag,ab.v,ae.v],.bool false])) gR) (
 zQg p4 λmZ=>
 ∃du:SV,dM.cell? (mZ.add 2)=some (du.v)/\
 ∃eF,dM.cell? ((⟨bU,0,none⟩:Addr).add 0)=some (.bool eF)/\
 ∃bu:SV,dM.cell? ((⟨bU,0,none⟩:Addr).add 1)=some (bu.v)/\
 alE (.cells #[.bool eF,bu.v] 67) dM λmY hM=>
 ∃dv:SV,∃fX,(Builtin.append_ #[33,33] 33 #[du.v,.slice (some ⟨mY,0,none⟩) 1 1]).run prog hM=.ok (dv.v) fX/\
 zQg p4 λwN=>
 st1 (wN.add 2) (dv.v) fX λga=>
 J1 (IntKind.i64.wrap (i5+1)) ga))) (
 xZy R p2 p4 ds w)
def xJM(R:Rt)(l0:SV)(p2 p4:Option Addr)(n6 n8 wT i5:Int)(ds:Ds)(w:World):Prop:=
 zQD (λ(J1:(Int)->World->Prop) (s:Int) (w:World)=>xZD R J1 l0 p2 p4 n6 n8 wT s ds w) i5 w
def xJA(R:Rt)(l0:SV)(p2 p4:Option Addr)(n6:Int)(ds:Ds)(w:World):Prop:=
 zQg p4 λob=>
 ∃gE:SV,w.cell? (ob.add 1)=some (gE.v)/\
 Calls prog 141 #[gE.v] w λe kU=>
 ∃th:Int,e=.returned (.int .i64 th)/\
 Br (th != 0) (
 zQg p4 λmz=>
 ∃pX,kU.cell? (mz.add 0)=some (.int .i64 pX)/\
 ∃i6:SV,kU.cell? (mz.add 1)=some (i6.v)/\
 ∃i7:SV,kU.cell? (mz.add 2)=some (i7.v)/\
 zQg p2 λa37=>
 stA prog 35 a37 #[.int .i64 pX,i6.v,i7.v] kU λkZ=>
 zQc prog ds kZ λiy=>
 zQg p2 λnP=>
 ∃ag,iy.cell? (nP.add 0)=some (.int .i64 ag)/\
 ∃ab:SV,iy.cell? (nP.add 1)=some (ab.v)/\
 ∃ae:SV,iy.cell? (nP.add 2)=some (ae.v)/\
 R (.returned (.tuple #[.agg #[.int .i64 ag,ab.v,ae.v],.bool false])) iy) (
 dwE kU λnF=>
 zQg p4 λnQ=>
 ∃jM:SV,nF.cell? (nQ.add 1)=some (jM.v)/\
 0<=(6:Int)/\(6:Int).toNat<=l0.cap/\0<=(2:Int)/\(2:Int).toNat<=(6:Int).toNat/\
 Calls prog 161 #[jM.v] nF λe mK=>
 ∃sB:Int,e=.returned (.int .i64 sB)/\
 Calls prog 162 #[.slice (if l0.cap=(2:Int).toNat then l0.a else l0.a.map (λx=>x.add ((2:Int).toNat * 1))) ((6:Int).toNat - (2:Int).toNat) (l0.cap - (2:Int).toNat)] mK λe jJ=>
 ∃vY:Int,e=.returned (.int .i64 vY)/\
 Br (decide (vY > 300)) (
 zQg p4 λro=>
 ∃ku,jJ.cell? (ro.add 0)=some (.int .i64 ku)/\
 ∃dw:SV,jJ.cell? (ro.add 1)=some (dw.v)/\
 ∃dx:SV,jJ.cell? (ro.add 2)=some (dx.v)/\
 zQg p2 λa46=>
 stA prog 35 a46 #[.int .i64 ku,dw.v,dx.v] jJ λtM=>
 zQc prog ds tM λjK=>
 zQg p2 λtO=>
 ∃ag,jK.cell? (tO.add 0)=some (.int .i64 ag)/\
 ∃ab:SV,jK.cell? (tO.add 1)=some (ab.v)/\
 ∃ae:SV,jK.cell? (tO.add 2)=some (ae.v)/\
 R (.returned (.tuple #[.agg #[.int .i64 ag,ab.v,ae.v],.bool false])) jK) (
 Br ((l0.len:Int) != (IntKind.i64.wrap ((IntKind.i64.wrap (n6+(IntKind.i64.wrap (sB * vY))))+1))) (
 zQg p4 λrp=>
 ∃ku,jJ.cell? (rp.add 0)=some (.int .i64 ku)/\
 ∃dw:SV,jJ.cell? (rp.add 1)=some (dw.v)/\
 ∃dx:SV,jJ.cell? (rp.add 2)=some (dx.v)/\
 zQg p2 λa51=>
 stA prog 35 a51 #[.int .i64 ku,dw.v,dx.v] jJ λw52=>
 zQc prog ds w52 λoS=>
 zQg p2 λtP=>
 ∃ag,oS.cell? (tP.add 0)=some (.int .i64 ag)/\
 ∃ab:SV,oS.cell? (tP.add 1)=some (ab.v)/\
 ∃ae:SV,oS.cell? (tP.add 2)=some (ae.v)/\
 R (.returned (.tuple #[.agg #[.int .i64 ag,ab.v,ae.v],.bool false])) oS) (
 xJM R l0 p2 p4 n6 sB vY 0 ds jJ)))
def xXQ (R:Rt) (J1:(Int)->World->Prop) (l0:SV) (p2 p4:Option Addr) (n6 mi cN:Int) (ds:Ds) (w:World):Prop:=
 Br (decide (cN<mi)) (
 dwE w λoc=>
 ∃S3:World->Prop,S3 oc/\
 zQg p4 λtQ=>
 ∃sC:SV,(∀w',S3 w'->w'.cell? (tQ.add 1)=some (sC.v))/\
 ∃lj:SV,∃tk,(Instr.sliceAt 22 (l0.v) (some (.int .i64 (IntKind.i64.wrap ((12:Int)+(IntKind.i64.wrap ((16:Int) * cN)))))) (some (.int .i64 (IntKind.i64.wrap ((28:Int)+(IntKind.i64.wrap ((16:Int) * cN)))))) (some (.int .i64 (IntKind.i64.wrap ((28:Int)+(IntKind.i64.wrap ((16:Int) * cN))))))).run prog oc=.ok (lj.v) tk/\
 S3 tk/\
 Calls prog 160 #[lj.v] tk λe nB=>
 ∃pY:ByteArray,∃fE:Int,∃fF:Int,∃pZ:Bool,e=.returned (.agg #[.string pY,.int .i64 fE,.int .i64 fF,.bool pZ])/\
 S3 nB/\
 alE (.cells #[.string pY,.int .i64 fE,.int .i64 fF,.bool pZ] 129) nB λr60 k7=>
 S3 k7/\
 ∃sD:SV,∃lC,(Builtin.append_ #[32,32] 32 #[sC.v,.slice (some ⟨r60,0,none⟩) 1 1]).run prog k7=.ok (sD.v) lC/\
 zQg p4 λa61=>
 st1 (a61.add 1) (sD.v) lC λmL=>
 J1 (IntKind.i64.wrap (cN+1)) mL) (
 xJA R l0 p2 p4 n6 ds w)
def xZC(R:Rt)(l0:SV)(p2 p4:Option Addr)(n6 mi cN:Int)(ds:Ds)(w:World):Prop:=
 zQD (λ(J1:(Int)->World->Prop) (s:Int) (w:World)=>xXQ R J1 l0 p2 p4 n6 mi s ds w) cN w
def xJR(R:Rt)(l0:SV)(ds:Ds)(w:World):Prop:=
 alE (.cells #[.int .i64 0,.slice none 0 0,.slice none 0 0] 35) w λr2 kQ=>
 alE (.cells #[.int .i64 0,.slice none 0 0,.slice none 0 0] 35) kQ λr4 kR=>
 Br (decide ((l0.len:Int)<14)) (
 ∃gF,kR.cell? ((⟨r4,0,none⟩:Addr).add 0)=some (.int .i64 gF)/\
 ∃cj:SV,kR.cell? ((⟨r4,0,none⟩:Addr).add 1)=some (cj.v)/\
 ∃ck:SV,kR.cell? ((⟨r4,0,none⟩:Addr).add 2)=some (ck.v)/\
 stA prog 35 (⟨r2,0,none⟩:Addr) #[.int .i64 gF,cj.v,ck.v] kR λk8=>
 zQc prog ds k8 λlD=>
 ∃ag,lD.cell? ((⟨r2,0,none⟩:Addr).add 0)=some (.int .i64 ag)/\
 ∃ab:SV,lD.cell? ((⟨r2,0,none⟩:Addr).add 1)=some (ab.v)/\
 ∃ae:SV,lD.cell? ((⟨r2,0,none⟩:Addr).add 2)=some (ae.v)/\
 R (.returned (.tuple #[.agg #[.int .i64 ag,ab.v,ae.v],.bool false])) lD) (
 ∃qa,l0.a=some qa/\0<=(0:Int)/\(0:Int)<(l0.len:Int)/\
 ∃jL,kR.cell? (qa.add ((0:Int).toNat * 1))=some (.int .u8 jL)/\
 Br (jL != 67) (
 ∃gF,kR.cell? ((⟨r4,0,none⟩:Addr).add 0)=some (.int .i64 gF)/\
 ∃cj:SV,kR.cell? ((⟨r4,0,none⟩:Addr).add 1)=some (cj.v)/\
 ∃ck:SV,kR.cell? ((⟨r4,0,none⟩:Addr).add 2)=some (ck.v)/\
 stA prog 35 (⟨r2,0,none⟩:Addr) #[.int .i64 gF,cj.v,ck.v] kR λtl=>
 zQc prog ds tl λnR=>
 ∃ag,nR.cell? ((⟨r2,0,none⟩:Addr).add 0)=some (.int .i64 ag)/\
 ∃ab:SV,nR.cell? ((⟨r2,0,none⟩:Addr).add 1)=some (ab.v)/\
 ∃ae:SV,nR.cell? ((⟨r2,0,none⟩:Addr).add 2)=some (ae.v)/\
 R (.returned (.tuple #[.agg #[.int .i64 ag,ab.v,ae.v],.bool false])) nR) (
 ∃a70,l0.a=some a70/\0<=(1:Int)/\(1:Int)<(l0.len:Int)/\
 ∃bF,kR.cell? (a70.add ((1:Int).toNat * 1))=some (.int .u8 bF)/\
 st1 (⟨r4,0,none⟩:Addr) (.int .i64 (IntKind.i64.wrap bF)) kR λmA=>
 dwE mA λtn=>
 ∃S4:World->Prop,S4 tn/\
 ∃a73,l0.a=some a73/\0<=(10:Int)/\(10:Int)<(l0.len:Int)/\
 ∃mM,(∀w',S4 w'->w'.cell? (a73.add ((10:Int).toNat * 1))=some (.int .u8 mM))/\
 ∃vZ,l0.a=some vZ/\0<=(10:Int)/\(10:Int)<(l0.len:Int)/\
 ∃qb,(∀w',S4 w'->w'.cell? (vZ.add ((10:Int).toNat * 1))=some (.int .u8 qb))/\
 Calls prog 159 #[.int .i64 (IntKind.i64.wrap qb)] tn λe k9=>
 ∃kT:Int,e=.returned (.int .i64 kT)/\
 S4 k9/\
 Br (decide (kT > (l0.len:Int))) (
 ∃qc,k9.cell? ((⟨r4,0,none⟩:Addr).add 0)=some (.int .i64 qc)/\
 ∃i8:SV,k9.cell? ((⟨r4,0,none⟩:Addr).add 1)=some (i8.v)/\
 ∃i9:SV,k9.cell? ((⟨r4,0,none⟩:Addr).add 2)=some (i9.v)/\
 stA prog 35 (⟨r2,0,none⟩:Addr) #[.int .i64 qc,i8.v,i9.v] k9 λkW=>
 zQc prog ds kW λsE=>
 ∃ag,sE.cell? ((⟨r2,0,none⟩:Addr).add 0)=some (.int .i64 ag)/\
 ∃ab:SV,sE.cell? ((⟨r2,0,none⟩:Addr).add 1)=some (ab.v)/\
 ∃ae:SV,sE.cell? ((⟨r2,0,none⟩:Addr).add 2)=some (ae.v)/\
 R (.returned (.tuple #[.agg #[.int .i64 ag,ab.v,ae.v],.bool false])) sE) (
 xZC R l0 (some (⟨r2,0,none⟩:Addr)) (some (⟨r4,0,none⟩:Addr)) kT (IntKind.i64.wrap mM) 0 ds k9)))
theorem F124_p:Pl prog f124 [lS 0] xJR:=λR=>
 pc 9 (rest [lS 0,pS 2,pS 4,iS 6,iS 42,iS 43] (xZC R) (bk 0 (rest [lS 0,pS 2,pS 4,iS 6] (xJA R) (pc 6 (rest [lS 0,pS 2,pS 4,iS 6,iS 8,iS 89,iS 90] (xJM R) (bk 2 (rest [pS 2,pS 4] (xZy R) lf) (lp [iS 90] [lS 0,pS 2,pS 4,iS 6,iS 8,iS 89,iS 90] (xZD R) zXY λJ1=>lf))))) (lp [iS 43] [lS 0,pS 2,pS 4,iS 6,iS 42,iS 43] (xXQ R) zXY λJ1=>lf)))
theorem yKG (l0:SV) (w:World) (R:Rt) (h:xJR R l0 [] w):Calls prog 124 #[l0.v] w R:=
 plC F124_p func124 h
def xKl(R:Rt)(p2 p3:Option Addr)(ds:Ds)(w:World):Prop:=
 zQg p3 λa1=>
 ∃qd,w.cell? (a1.add 0)=some (.string qd)/\
 ∃kv,w.cell? (a1.add 1)=some (.int .i64 kv)/\
 ∃qe,w.cell? (a1.add 2)=some (.int .i64 qe)/\
 ∃qg,w.cell? (a1.add 3)=some (.bool qg)/\
 zQg p2 λa2=>
 stA prog 129 a2 #[.string qd,.int .i64 kv,.int .i64 qe,.bool qg] w λw3=>
 zQc prog ds w3 λw4=>
 zQg p2 λa5=>
 ∃qh,w4.cell? (a5.add 0)=some (.string qh)/\
 ∃aB,w4.cell? (a5.add 1)=some (.int .i64 aB)/\
 ∃qj,w4.cell? (a5.add 2)=some (.int .i64 qj)/\
 ∃qk,w4.cell? (a5.add 3)=some (.bool qk)/\
 R (.returned (.agg #[.string qh,.int .i64 aB,.int .i64 qj,.bool qk])) w4
def xK9 (R:Rt) (J1:(Unit)->World->Prop) (l0:SV) (p2 p3 kw:Option Addr) (ds:Ds) (w:World):Prop:=
 (∃w6,(Instr.next (.pointer kw) false 0).run prog w=.ok (.tuple #[.bool false]) w6/\
 xKl R p2 p3 ds w6)∨(∃k21 v21:Value,∃w7,(Instr.next (.pointer kw) false 0).run prog w=.ok (.tuple #[.bool true,k21,v21]) w7/\
 ∃k23 v23:Value,∃w8,(Instr.entry (.pointer kw)).run prog w7=.ok (.tuple #[k23,v23]) w8/\
 yWE .i64 k23 λmm=>
 yWF v23 λq25=>
 dHd q25 λtR tS=>
 yWE .u8 tR λlF=>
 dHd tS λtT tU=>
 yWE .i64 tT λgZ=>
 dHd tU λtV tW=>
 yWE .i64 tV λtX=>
 dHd tW λtY tZ=>
 dHd tZ λt6 t7=>
 yYV t7 (
 alE (.cells #[.int .u8 0,.int .i64 0,.int .i64 0,.nilFunc,.nilFunc] 174) w8 λr5 w9=>
 stA prog 174 (⟨r5,0,none⟩:Addr) #[.int .u8 lF,.int .i64 gZ,.int .i64 tX,tY,t6] w9 λaU=>
 dwE aU λaT=>
 ∃fW,aT.cell? (⟨r5,0,none⟩:Addr)=some (.int .u8 fW)/\
 ∃iR,l0.a=some iR/\0<=(10:Int)/\(10:Int)<(l0.len:Int)/\
 ∃mM,aT.cell? (iR.add ((10:Int).toNat * 1))=some (.int .u8 mM)/\
 Br (fW == mM) (
 zQg p3 λmx=>
 st1 (mx.add 1) (.int .i64 mm) aT λbH=>
 J1 () bH) (
 J1 () aT)))
def yXp(R:Rt)(l0:SV)(p2 p3 kw:Option Addr)(ds:Ds)(w:World):Prop:=
 zQD (λ(J1:(Unit)->World->Prop) (_:Unit) (w:World)=>xK9 R J1 l0 p2 p3 kw ds w) () w
def xJu(R:Rt)(l0:SV)(ds:Ds)(w:World):Prop:=
 alE (.cells #[.string (⟨#[]⟩:ByteArray),.int .i64 0,.int .i64 0,.bool false] 129) w λr2 bC=>
 dwE bC λbT=>
 ∃S2:World->Prop,S2 bT/\
 0<=(10:Int)/\(10:Int).toNat<=l0.cap/\0<=(10:Int).toNat/\
 ∃nY,l0.a=some nY/\0<=(11:Int)/\(11:Int)<(l0.len:Int)/\
 ∃cv,(∀w',S2 w'->w'.cell? (nY.add ((11:Int).toNat * 1))=some (.int .u8 cv))/\
 ∃gn,l0.a=some gn/\0<=(12:Int)/\(12:Int)<(l0.len:Int)/\
 ∃n16,(∀w',S2 w'->w'.cell? (gn.add ((12:Int).toNat * 1))=some (.int .u8 n16))/\
 (
 ∃s8:ByteArray,∃cR,(convert 22 9 (.slice (if l0.cap=0 then l0.a else l0.a.map (λx=>x.add (0 * 1))) ((10:Int).toNat - 0) (l0.cap - 0))).run prog bT=.ok (.string s8) cR/\
 S2 cR/\
 (
 Calls prog 119 #[.string s8,.string (⟨#[0]⟩:ByteArray)] cR λe cP=>
 ∃s9:ByteArray,e=.returned (.string s9)/\
 S2 cP/\
 alE (.cells #[.string (⟨#[]⟩:ByteArray),.int .i64 0,.int .i64 0,.bool false] 129) cP λr3 bX=>
 S2 bX/\
 stA prog 129 (⟨r3,0,none⟩:Addr) #[.string s9,.int .i64 0,.int .i64 (IntKind.i64.wrap cv),.bool (n16 == 1)] bX λdQ=>
 Calls prog 145 #[] dQ λe dM=>
 ∃m4:Option Nat,e=.returned (.map m4)/\
 ∃kw:Option Addr,∃dP,(Instr.range 176 (.map m4)).run prog dM=.ok (.pointer kw) dP/\
 yXp R l0 (some (⟨r2,0,none⟩:Addr)) (some (⟨r3,0,none⟩:Addr)) kw ds dP)/\(
 alE (.cells #[.string (⟨#[]⟩:ByteArray),.int .i64 0,.int .i64 0,.bool false] 129) cR λr3 gK=>
 S2 gK/\
 Calls prog 119 #[.string s8,.string (⟨#[0]⟩:ByteArray)] gK λe fy=>
 ∃s9:ByteArray,e=.returned (.string s9)/\
 S2 fy/\
 stA prog 129 (⟨r3,0,none⟩:Addr) #[.string s9,.int .i64 0,.int .i64 (IntKind.i64.wrap cv),.bool (n16 == 1)] fy λgR=>
 Calls prog 145 #[] gR λe df=>
 ∃m4:Option Nat,e=.returned (.map m4)/\
 ∃kw:Option Addr,∃gI,(Instr.range 176 (.map m4)).run prog df=.ok (.pointer kw) gI/\
 yXp R l0 (some (⟨r2,0,none⟩:Addr)) (some (⟨r3,0,none⟩:Addr)) kw ds gI))/\(
 alE (.cells #[.string (⟨#[]⟩:ByteArray),.int .i64 0,.int .i64 0,.bool false] 129) bT λr3 hM=>
 S2 hM/\
 ∃s8:ByteArray,∃fX,(convert 22 9 (.slice (if l0.cap=0 then l0.a else l0.a.map (λx=>x.add (0 * 1))) ((10:Int).toNat - 0) (l0.cap - 0))).run prog hM=.ok (.string s8) fX/\
 S2 fX/\
 Calls prog 119 #[.string s8,.string (⟨#[0]⟩:ByteArray)] fX λe fY=>
 ∃s9:ByteArray,e=.returned (.string s9)/\
 S2 fY/\
 stA prog 129 (⟨r3,0,none⟩:Addr) #[.string s9,.int .i64 0,.int .i64 (IntKind.i64.wrap cv),.bool (n16 == 1)] fY λga=>
 Calls prog 145 #[] ga λe fA=>
 ∃m4:Option Nat,e=.returned (.map m4)/\
 ∃kw:Option Addr,∃kU,(Instr.range 176 (.map m4)).run prog fA=.ok (.pointer kw) kU/\
 yXp R l0 (some (⟨r2,0,none⟩:Addr)) (some (⟨r3,0,none⟩:Addr)) kw ds kU)
theorem F160_p:Pl prog f160 [lS 0] xJu:=λR=>
 pc 3 (rest [lS 0,pS 2,pS 3,pS 20] (yXp R) (bk 0 (rest [pS 2,pS 3] (xKl R) lf) (lp [] [lS 0,pS 2,pS 3,pS 20] (xK9 R) zXY λJ1=>lf)))
theorem yJQ (l0:SV) (w:World) (R:Rt) (h:xJu R l0 [] w):Calls prog 160 #[l0.v] w R:=
 plC F160_p func160 h
def xJT(R:Rt)(n3:Int)(ds:Ds)(w:World):Prop:=
 zQc prog ds w λw1=>
 R (.returned (.int .i64 n3)) w1
def xJv (R:Rt) (J1:(Int × Int)->World->Prop) (l0:SV) (n3 n4:Int) (ds:Ds) (w:World):Prop:=
 Br (decide (n4 >= 0)) (
 0<=(8:Int)/\
 ∃a2,l0.a=some a2/\0<=n4/\n4<(l0.len:Int)/\
 ∃kN,w.cell? (a2.add (n4.toNat * 1))=some (.int .u8 kN)/\
 J1 ((IntKind.i64.wrap ((BitVec.ofInt 64 (IntKind.i64.wrap (n3 * 2 ^ 8)) ||| BitVec.ofInt 64 (IntKind.i64.wrap kN)).toNat:Nat)),(IntKind.i64.wrap (n4 - 1))) w) (
 xJT R n3 ds w)
def xJy(R:Rt)(l0:SV)(n3 n4:Int)(ds:Ds)(w:World):Prop:=
 zQD (λ(J1:(Int × Int)->World->Prop) (s:Int × Int) (w:World)=>xJv R J1 l0 s.1 s.2 ds w) (n3,n4) w
def yYY(R:Rt)(l0:SV)(ds:Ds)(w:World):Prop:=
 xJy R l0 0 (IntKind.i64.wrap ((l0.len:Int) - 1)) ds w
theorem F162_p:Pl prog f162 [lS 0] yYY:=λR=>
 pc 3 (rest [lS 0,iS 3,iS 4] (xJy R) (bk 0 (rest [iS 3] (xJT R) lf) (lp [iS 3,iS 4] [lS 0,iS 3,iS 4] (xJv R) zXY λJ1=>lf)))
theorem yW1 (l0:SV) (w:World) (R:Rt) (h:yYY R l0 [] w):Calls prog 162 #[l0.v] w R:=
 plC F162_p func162 h
def xXW(R:Rt)(p4 p6:Option Addr)(b9:Bool)(ds:Ds)(w:World):Prop:=
 zQg p6 λa1=>
 ∃ql,w.cell? (a1.add 0)=some (.bool ql)/\
 ∃ja:SV,w.cell? (a1.add 1)=some (ja.v)/\
 zQg p4 λa2=>
 stA prog 67 a2 #[.bool ql,ja.v] w λw3=>
 zQc prog ds w3 λw4=>
 zQg p4 λa5=>
 ∃c8,w4.cell? (a5.add 0)=some (.bool c8)/\
 ∃ab:SV,w4.cell? (a5.add 1)=some (ab.v)/\
 R (.returned (.tuple #[.agg #[.bool c8,ab.v],.bool b9])) w4
def zQP (R:Rt) (J1:(Int × Int × Bool × Int)->World->Prop) (l1:SV) (p4 p6:Option Addr) (n7 n8:Int) (b9:Bool) (bW:SV) (bF bE:Int) (ds:Ds) (w:World):Prop:=
 J1 (n7,n8,b9,(IntKind.i64.wrap (bE+1))) w
def xKI (R:Rt) (J1:(Int × Int × Bool × Int)->World->Prop) (l1:SV) (p4 p6:Option Addr) (n7 n8:Int) (b9:Bool) (bW:SV) (bF bE:Int) (ds:Ds) (w:World):Prop:=
 ∃a6,bW.a=some a6/\0<=bE/\bE<(bW.len:Int)/\
 ∃qm,w.cell? ((a6.add (bE.toNat * 4)).add 0)=some (.string qm)/\
 ∃ke,w.cell? ((a6.add (bE.toNat * 4)).add 1)=some (.int .i64 ke)/\
 ∃qn,w.cell? ((a6.add (bE.toNat * 4)).add 2)=some (.int .i64 qn)/\
 ∃kx,w.cell? ((a6.add (bE.toNat * 4)).add 3)=some (.bool kx)/\
 alE (.cells #[.string (⟨#[]⟩:ByteArray),.int .i64 0,.int .i64 0,.bool false] 129) w λbU w7=>
 stA prog 129 (⟨bU,0,none⟩:Addr) #[.string qm,.int .i64 ke,.int .i64 qn,.bool kx] w7 λw8=>
 ∃qb,w8.cell? ((⟨bU,0,none⟩:Addr).add 2)=some (.int .i64 qb)/\
 ∃nC,w8.cell? ((⟨bU,0,none⟩:Addr).add 2)=some (.int .i64 nC)/\
 ∃bB:SV,∃w9,(Instr.sliceAt 22 (l1.v) (some (.int .i64 n7)) (some (.int .i64 (IntKind.i64.wrap (n7+qb)))) (some (.int .i64 (IntKind.i64.wrap (n7+nC))))).run prog w8=.ok (bB.v) w9/\
 ∃cN,w9.cell? ((⟨bU,0,none⟩:Addr).add 2)=some (.int .i64 cN)/\
 ∃b46,w9.cell? ((⟨bU,0,none⟩:Addr).add 3)=some (.bool b46)/\
 Br b46 (
 IntKind.i64=IntKind.i64/\(8:Int) ≠ 0/\
 ∃eJ,l1.a=some eJ/\0<=(IntKind.i64.wrap ((1:Int)+(IntKind.i64.wrap (n8.tdiv 8))))/\(IntKind.i64.wrap ((1:Int)+(IntKind.i64.wrap (n8.tdiv 8))))<(l1.len:Int)/\
 ∃oP,w9.cell? (eJ.add ((IntKind.i64.wrap ((1:Int)+(IntKind.i64.wrap (n8.tdiv 8)))).toNat * 1))=some (.int .u8 oP)/\
 IntKind.i64=IntKind.i64/\(8:Int) ≠ 0/\
 0<=(n8.tmod 8)/\
 Br ((IntKind.u8.wrap ((BitVec.ofInt 8 (oP.fdiv (2 ^ (min (n8.tmod 8).toNat 8))) &&& BitVec.ofInt 8 1).toNat:Nat)) == 1) (
 zQg p6 λeL=>
 ∃iA:SV,w9.cell? (eL.add 1)=some (iA.v)/\
 alE (.cells #[.int .i64 0,.int .i64 0,.string (⟨#[]⟩:ByteArray)] 73) w9 λr64 aX=>
 ∃gE:SV,∃aK,(Builtin.append_ #[38,38] 38 #[iA.v,.slice (some ⟨r64,0,none⟩) 1 1]).run prog aX=.ok (gE.v) aK/\
 zQg p6 λft=>
 st1 (ft.add 1) (gE.v) aK λbC=>
 zQP R J1 l1 p4 p6 (IntKind.i64.wrap (n7+cN)) (IntKind.i64.wrap (n8+1)) b9 bW bF bE ds bC) (
 dwE w9 λbT=>
 ∃S1:World->Prop,S1 bT/\
 ∃jb,(∀w',S1 w'->w'.cell? ((⟨bU,0,none⟩:Addr).add 1)=some (.int .i64 jb))/\
 (
 Calls prog 145 #[] bT λe bD=>
 ∃c9:Option Nat,e=.returned (.map c9)/\
 ∃S2:World->Prop,S2 bD/\(∀u,S2 u->S1 u)/\
 ∃bj:Int,∃bl:Int,∃bm:Int,∃bn:Value,∃aL:Value,(∀w',S2 w'->(Instr.lookup 176 (.map c9) (.int .i64 jb) false).run prog w'=.ok (.agg #[.int .u8 bj,.int .i64 bl,.int .i64 bm,bn,aL]) w')/\
 (
 ∃cF:ByteArray,∃cH,(convert 22 9 (bB.v)).run prog bD=.ok (.string cF) cH/\
 ∃S3:World->Prop,S3 cH/\(∀u,S3 u->S2 u)/\
 (
 fnE aL λf75 first75 aO=>
 zQv prog f75=true/\Calls prog f75 (first75.toList ++ (([.string cF]:List Value) ++ aO.toList)).toArray cH λe cR=>
 ∃ah:Int,∃ai:Int,∃aj:ByteArray,∃aD:Bool,e=.returned (.tuple #[.agg #[.int .i64 ah,.int .i64 ai,.string aj],.bool aD])/\
 alE (.cells #[.int .i64 0,.int .i64 0,.string (⟨#[]⟩:ByteArray)] 73) cR λaI cP=>
 stA prog 73 (⟨aI,0,none⟩:Addr) #[.int .i64 ah,.int .i64 ai,.string aj] cP λbX=>
 Br b9 (
 zQg p6 λnN=>
 ∃ay:SV,bX.cell? (nN.add 1)=some (ay.v)/\
 ∃am,bX.cell? ((⟨aI,0,none⟩:Addr).add 0)=some (.int .i64 am)/\
 ∃ao,bX.cell? ((⟨aI,0,none⟩:Addr).add 1)=some (.int .i64 ao)/\
 ∃ap,bX.cell? ((⟨aI,0,none⟩:Addr).add 2)=some (.string ap)/\
 alE (.cells #[.int .i64 am,.int .i64 ao,.string ap] 73) bX λbK dM=>
 ∃az:SV,∃dP,(Builtin.append_ #[38,38] 38 #[ay.v,.slice (some ⟨bK,0,none⟩) 1 1]).run prog dM=.ok (az.v) dP/\
 zQg p6 λj3=>
 st1 (j3.add 1) (az.v) dP λfy=>
 zQP R J1 l1 p4 p6 (IntKind.i64.wrap (n7+cN)) (IntKind.i64.wrap (n8+1)) aD bW bF bE ds fy) (
 zQg p6 λwM=>
 ∃ay:SV,bX.cell? (wM.add 1)=some (ay.v)/\
 ∃am,bX.cell? ((⟨aI,0,none⟩:Addr).add 0)=some (.int .i64 am)/\
 ∃ao,bX.cell? ((⟨aI,0,none⟩:Addr).add 1)=some (.int .i64 ao)/\
 ∃ap,bX.cell? ((⟨aI,0,none⟩:Addr).add 2)=some (.string ap)/\
 alE (.cells #[.int .i64 am,.int .i64 ao,.string ap] 73) bX λbK df=>
 ∃az:SV,∃gI,(Builtin.append_ #[38,38] 38 #[ay.v,.slice (some ⟨bK,0,none⟩) 1 1]).run prog df=.ok (az.v) gI/\
 zQg p6 λkY=>
 st1 (kY.add 1) (az.v) gI λfX=>
 zQP R J1 l1 p4 p6 (IntKind.i64.wrap (n7+cN)) (IntKind.i64.wrap (n8+1)) false bW bF bE ds fX))/\(
 alE (.cells #[.int .i64 0,.int .i64 0,.string (⟨#[]⟩:ByteArray)] 73) cH λaI fY=>
 ∃S4:World->Prop,S4 fY/\(∀u,S4 u->S3 u)/\
 fnE aL λf75 first75 aO=>
 zQv prog f75=true/\Calls prog f75 (first75.toList ++ (([.string cF]:List Value) ++ aO.toList)).toArray fY λe ga=>
 ∃ah:Int,∃ai:Int,∃aj:ByteArray,∃aD:Bool,e=.returned (.tuple #[.agg #[.int .i64 ah,.int .i64 ai,.string aj],.bool aD])/\
 stA prog 73 (⟨aI,0,none⟩:Addr) #[.int .i64 ah,.int .i64 ai,.string aj] ga λfA=>
 Br b9 (
 zQg p6 λnO=>
 ∃ay:SV,fA.cell? (nO.add 1)=some (ay.v)/\
 ∃am,fA.cell? ((⟨aI,0,none⟩:Addr).add 0)=some (.int .i64 am)/\
 ∃ao,fA.cell? ((⟨aI,0,none⟩:Addr).add 1)=some (.int .i64 ao)/\
 ∃ap,fA.cell? ((⟨aI,0,none⟩:Addr).add 2)=some (.string ap)/\
 alE (.cells #[.int .i64 am,.int .i64 ao,.string ap] 73) fA λbK tD=>
 ∃az:SV,∃nE,(Builtin.append_ #[38,38] 38 #[ay.v,.slice (some ⟨bK,0,none⟩) 1 1]).run prog tD=.ok (az.v) nE/\
 zQg p6 λa38=>
 st1 (a38.add 1) (az.v) nE λiy=>
 zQP R J1 l1 p4 p6 (IntKind.i64.wrap (n7+cN)) (IntKind.i64.wrap (n8+1)) aD bW bF bE ds iy) (
 zQg p6 λnP=>
 ∃ay:SV,fA.cell? (nP.add 1)=some (ay.v)/\
 ∃am,fA.cell? ((⟨aI,0,none⟩:Addr).add 0)=some (.int .i64 am)/\
 ∃ao,fA.cell? ((⟨aI,0,none⟩:Addr).add 1)=some (.int .i64 ao)/\
 ∃ap,fA.cell? ((⟨aI,0,none⟩:Addr).add 2)=some (.string ap)/\
 alE (.cells #[.int .i64 am,.int .i64 ao,.string ap] 73) fA λbK nF=>
 ∃az:SV,∃tE,(Builtin.append_ #[38,38] 38 #[ay.v,.slice (some ⟨bK,0,none⟩) 1 1]).run prog nF=.ok (az.v) tE/\
 zQg p6 λa43=>
 st1 (a43.add 1) (az.v) tE λjJ=>
 zQP R J1 l1 p4 p6 (IntKind.i64.wrap (n7+cN)) (IntKind.i64.wrap (n8+1)) false bW bF bE ds jJ)))/\(
 alE (.cells #[.int .i64 0,.int .i64 0,.string (⟨#[]⟩:ByteArray)] 73) bD λaI rA=>
 ∃S5:World->Prop,S5 rA/\(∀u,S5 u->S2 u)/\
 ∃cF:ByteArray,∃eM,(convert 22 9 (bB.v)).run prog rA=.ok (.string cF) eM/\
 ∃S6:World->Prop,S6 eM/\(∀u,S6 u->S5 u)/\
 fnE aL λf75 first75 aO=>
 zQv prog f75=true/\Calls prog f75 (first75.toList ++ (([.string cF]:List Value) ++ aO.toList)).toArray eM λe tM=>
 ∃ah:Int,∃ai:Int,∃aj:ByteArray,∃aD:Bool,e=.returned (.tuple #[.agg #[.int .i64 ah,.int .i64 ai,.string aj],.bool aD])/\
 stA prog 73 (⟨aI,0,none⟩:Addr) #[.int .i64 ah,.int .i64 ai,.string aj] tM λjK=>
 Br b9 (
 zQg p6 λtO=>
 ∃ay:SV,jK.cell? (tO.add 1)=some (ay.v)/\
 ∃am,jK.cell? ((⟨aI,0,none⟩:Addr).add 0)=some (.int .i64 am)/\
 ∃ao,jK.cell? ((⟨aI,0,none⟩:Addr).add 1)=some (.int .i64 ao)/\
 ∃ap,jK.cell? ((⟨aI,0,none⟩:Addr).add 2)=some (.string ap)/\
 alE (.cells #[.int .i64 am,.int .i64 ao,.string ap] 73) jK λbK sF=>
 ∃az:SV,∃w51,(Builtin.append_ #[38,38] 38 #[ay.v,.slice (some ⟨bK,0,none⟩) 1 1]).run prog sF=.ok (az.v) w51/\
 zQg p6 λrq=>
 st1 (rq.add 1) (az.v) w51 λoS=>
 zQP R J1 l1 p4 p6 (IntKind.i64.wrap (n7+cN)) (IntKind.i64.wrap (n8+1)) aD bW bF bE ds oS) (
 zQg p6 λtP=>
 ∃ay:SV,jK.cell? (tP.add 1)=some (ay.v)/\
 ∃am,jK.cell? ((⟨aI,0,none⟩:Addr).add 0)=some (.int .i64 am)/\
 ∃ao,jK.cell? ((⟨aI,0,none⟩:Addr).add 1)=some (.int .i64 ao)/\
 ∃ap,jK.cell? ((⟨aI,0,none⟩:Addr).add 2)=some (.string ap)/\
 alE (.cells #[.int .i64 am,.int .i64 ao,.string ap] 73) jK λbK oc=>
 ∃az:SV,∃vT,(Builtin.append_ #[38,38] 38 #[ay.v,.slice (some ⟨bK,0,none⟩) 1 1]).run prog oc=.ok (az.v) vT/\
 zQg p6 λwV=>
 st1 (wV.add 1) (az.v) vT λnB=>
 zQP R J1 l1 p4 p6 (IntKind.i64.wrap (n7+cN)) (IntKind.i64.wrap (n8+1)) false bW bF bE ds nB)))/\(
 (
 ∃cF:ByteArray,∃k7,(convert 22 9 (bB.v)).run prog bT=.ok (.string cF) k7/\
 ∃S7:World->Prop,S7 k7/\(∀u,S7 u->S1 u)/\
 (
 Calls prog 145 #[] k7 λe lC=>
 ∃c9:Option Nat,e=.returned (.map c9)/\
 ∃S8:World->Prop,S8 lC/\(∀u,S8 u->S7 u)/\
 ∃bj:Int,∃bl:Int,∃bm:Int,∃bn:Value,∃aL:Value,(∀w',S8 w'->(Instr.lookup 176 (.map c9) (.int .i64 jb) false).run prog w'=.ok (.agg #[.int .u8 bj,.int .i64 bl,.int .i64 bm,bn,aL]) w')/\
 (
 fnE aL λf75 first75 aO=>
 zQv prog f75=true/\Calls prog f75 (first75.toList ++ (([.string cF]:List Value) ++ aO.toList)).toArray lC λe mj=>
 ∃ah:Int,∃ai:Int,∃aj:ByteArray,∃aD:Bool,e=.returned (.tuple #[.agg #[.int .i64 ah,.int .i64 ai,.string aj],.bool aD])/\
 alE (.cells #[.int .i64 0,.int .i64 0,.string (⟨#[]⟩:ByteArray)] 73) mj λaI mL=>
 stA prog 73 (⟨aI,0,none⟩:Addr) #[.int .i64 ah,.int .i64 ai,.string aj] mL λkQ=>
 Br b9 (
 zQg p6 λwW=>
 ∃ay:SV,kQ.cell? (wW.add 1)=some (ay.v)/\
 ∃am,kQ.cell? ((⟨aI,0,none⟩:Addr).add 0)=some (.int .i64 am)/\
 ∃ao,kQ.cell? ((⟨aI,0,none⟩:Addr).add 1)=some (.int .i64 ao)/\
 ∃ap,kQ.cell? ((⟨aI,0,none⟩:Addr).add 2)=some (.string ap)/\
 alE (.cells #[.int .i64 am,.int .i64 ao,.string ap] 73) kQ λbK k8=>
 ∃az:SV,∃lD,(Builtin.append_ #[38,38] 38 #[ay.v,.slice (some ⟨bK,0,none⟩) 1 1]).run prog k8=.ok (az.v) lD/\
 zQg p6 λqa=>
 st1 (qa.add 1) (az.v) lD λtl=>
 zQP R J1 l1 p4 p6 (IntKind.i64.wrap (n7+cN)) (IntKind.i64.wrap (n8+1)) aD bW bF bE ds tl) (
 zQg p6 λwX=>
 ∃ay:SV,kQ.cell? (wX.add 1)=some (ay.v)/\
 ∃am,kQ.cell? ((⟨aI,0,none⟩:Addr).add 0)=some (.int .i64 am)/\
 ∃ao,kQ.cell? ((⟨aI,0,none⟩:Addr).add 1)=some (.int .i64 ao)/\
 ∃ap,kQ.cell? ((⟨aI,0,none⟩:Addr).add 2)=some (.string ap)/\
 alE (.cells #[.int .i64 am,.int .i64 ao,.string ap] 73) kQ λbK tm=>
 ∃az:SV,∃mA,(Builtin.append_ #[38,38] 38 #[ay.v,.slice (some ⟨bK,0,none⟩) 1 1]).run prog tm=.ok (az.v) mA/\
 zQg p6 λa72=>
 st1 (a72.add 1) (az.v) mA λoX=>
 zQP R J1 l1 p4 p6 (IntKind.i64.wrap (n7+cN)) (IntKind.i64.wrap (n8+1)) false bW bF bE ds oX))/\(
 alE (.cells #[.int .i64 0,.int .i64 0,.string (⟨#[]⟩:ByteArray)] 73) lC λaI rt=>
 ∃S9:World->Prop,S9 rt/\(∀u,S9 u->S8 u)/\
 fnE aL λf75 first75 aO=>
 zQv prog f75=true/\Calls prog f75 (first75.toList ++ (([.string cF]:List Value) ++ aO.toList)).toArray rt λe k9=>
 ∃ah:Int,∃ai:Int,∃aj:ByteArray,∃aD:Bool,e=.returned (.tuple #[.agg #[.int .i64 ah,.int .i64 ai,.string aj],.bool aD])/\
 stA prog 73 (⟨aI,0,none⟩:Addr) #[.int .i64 ah,.int .i64 ai,.string aj] k9 λkW=>
 Br b9 (
 zQg p6 λa77=>
 ∃ay:SV,kW.cell? (a77.add 1)=some (ay.v)/\
 ∃am,kW.cell? ((⟨aI,0,none⟩:Addr).add 0)=some (.int .i64 am)/\
 ∃ao,kW.cell? ((⟨aI,0,none⟩:Addr).add 1)=some (.int .i64 ao)/\
 ∃ap,kW.cell? ((⟨aI,0,none⟩:Addr).add 2)=some (.string ap)/\
 alE (.cells #[.int .i64 am,.int .i64 ao,.string ap] 73) kW λbK v6=>
 ∃az:SV,∃mD,(Builtin.append_ #[38,38] 38 #[ay.v,.slice (some ⟨bK,0,none⟩) 1 1]).run prog v6=.ok (az.v) mD/\
 zQg p6 λa80=>
 st1 (a80.add 1) (az.v) mD λsG=>
 zQP R J1 l1 p4 p6 (IntKind.i64.wrap (n7+cN)) (IntKind.i64.wrap (n8+1)) aD bW bF bE ds sG) (
 zQg p6 λa82=>
 ∃ay:SV,kW.cell? (a82.add 1)=some (ay.v)/\
 ∃am,kW.cell? ((⟨aI,0,none⟩:Addr).add 0)=some (.int .i64 am)/\
 ∃ao,kW.cell? ((⟨aI,0,none⟩:Addr).add 1)=some (.int .i64 ao)/\
 ∃ap,kW.cell? ((⟨aI,0,none⟩:Addr).add 2)=some (.string ap)/\
 alE (.cells #[.int .i64 am,.int .i64 ao,.string ap] 73) kW λbK sH=>
 ∃az:SV,∃w84,(Builtin.append_ #[38,38] 38 #[ay.v,.slice (some ⟨bK,0,none⟩) 1 1]).run prog sH=.ok (az.v) w84/\
 zQg p6 λa85=>
 st1 (a85.add 1) (az.v) w84 λwY=>
 zQP R J1 l1 p4 p6 (IntKind.i64.wrap (n7+cN)) (IntKind.i64.wrap (n8+1)) false bW bF bE ds wY)))/\(
 alE (.cells #[.int .i64 0,.int .i64 0,.string (⟨#[]⟩:ByteArray)] 73) k7 λaI t8=>
 ∃S10:World->Prop,S10 t8/\(∀u,S10 u->S7 u)/\
 Calls prog 145 #[] t8 λe ua=>
 ∃c9:Option Nat,e=.returned (.map c9)/\
 ∃S11:World->Prop,S11 ua/\(∀u,S11 u->S10 u)/\
 ∃bj:Int,∃bl:Int,∃bm:Int,∃bn:Value,∃aL:Value,(∀w',S11 w'->(Instr.lookup 176 (.map c9) (.int .i64 jb) false).run prog w'=.ok (.agg #[.int .u8 bj,.int .i64 bl,.int .i64 bm,bn,aL]) w')/\
 fnE aL λf75 first75 aO=>
 zQv prog f75=true/\Calls prog f75 (first75.toList ++ (([.string cF]:List Value) ++ aO.toList)).toArray ua λe wZ=>
 ∃ah:Int,∃ai:Int,∃aj:ByteArray,∃aD:Bool,e=.returned (.tuple #[.agg #[.int .i64 ah,.int .i64 ai,.string aj],.bool aD])/\
 stA prog 73 (⟨aI,0,none⟩:Addr) #[.int .i64 ah,.int .i64 ai,.string aj] wZ λmE=>
 Br b9 (
 zQg p6 λa91=>
 ∃ay:SV,mE.cell? (a91.add 1)=some (ay.v)/\
 ∃am,mE.cell? ((⟨aI,0,none⟩:Addr).add 0)=some (.int .i64 am)/\
 ∃ao,mE.cell? ((⟨aI,0,none⟩:Addr).add 1)=some (.int .i64 ao)/\
 ∃ap,mE.cell? ((⟨aI,0,none⟩:Addr).add 2)=some (.string ap)/\
 alE (.cells #[.int .i64 am,.int .i64 ao,.string ap] 73) mE λbK w92=>
 ∃az:SV,∃w93,(Builtin.append_ #[38,38] 38 #[ay.v,.slice (some ⟨bK,0,none⟩) 1 1]).run prog w92=.ok (az.v) w93/\
 zQg p6 λa94=>
 st1 (a94.add 1) (az.v) w93 λw95=>
 zQP R J1 l1 p4 p6 (IntKind.i64.wrap (n7+cN)) (IntKind.i64.wrap (n8+1)) aD bW bF bE ds w95) (
 zQg p6 λa96=>
 ∃ay:SV,mE.cell? (a96.add 1)=some (ay.v)/\
 ∃am,mE.cell? ((⟨aI,0,none⟩:Addr).add 0)=some (.int .i64 am)/\
 ∃ao,mE.cell? ((⟨aI,0,none⟩:Addr).add 1)=some (.int .i64 ao)/\
 ∃ap,mE.cell? ((⟨aI,0,none⟩:Addr).add 2)=some (.string ap)/\
 alE (.cells #[.int .i64 am,.int .i64 ao,.string ap] 73) mE λbK w97=>
 ∃az:SV,∃w98,(Builtin.append_ #[38,38] 38 #[ay.v,.slice (some ⟨bK,0,none⟩) 1 1]).run prog w97=.ok (az.v) w98/\
 zQg p6 λa99=>
 st1 (a99.add 1) (az.v) w98 λxa=>
 zQP R J1 l1 p4 p6 (IntKind.i64.wrap (n7+cN)) (IntKind.i64.wrap (n8+1)) false bW bF bE ds xa)))/\(
 alE (.cells #[.int .i64 0,.int .i64 0,.string (⟨#[]⟩:ByteArray)] 73) bT λaI lk=>
 ∃S12:World->Prop,S12 lk/\(∀u,S12 u->S1 u)/\
 (
 Calls prog 145 #[] lk λe m7=>
 ∃c9:Option Nat,e=.returned (.map c9)/\
 ∃S13:World->Prop,S13 m7/\(∀u,S13 u->S12 u)/\
 ∃bj:Int,∃bl:Int,∃bm:Int,∃bn:Value,∃aL:Value,(∀w',S13 w'->(Instr.lookup 176 (.map c9) (.int .i64 jb) false).run prog w'=.ok (.agg #[.int .u8 bj,.int .i64 bl,.int .i64 bm,bn,aL]) w')/\
 ∃cF:ByteArray,∃lm,(convert 22 9 (bB.v)).run prog m7=.ok (.string cF) lm/\
 ∃S14:World->Prop,S14 lm/\(∀u,S14 u->S13 u)/\
 fnE aL λf75 first75 aO=>
 zQv prog f75=true/\Calls prog f75 (first75.toList ++ (([.string cF]:List Value) ++ aO.toList)).toArray lm λe rB=>
 ∃ah:Int,∃ai:Int,∃aj:ByteArray,∃aD:Bool,e=.returned (.tuple #[.agg #[.int .i64 ah,.int .i64 ai,.string aj],.bool aD])/\
 stA prog 73 (⟨aI,0,none⟩:Addr) #[.int .i64 ah,.int .i64 ai,.string aj] rB λgL=>
 Br b9 (
 zQg p6 λxb=>
 ∃ay:SV,gL.cell? (xb.add 1)=some (ay.v)/\
 ∃am,gL.cell? ((⟨aI,0,none⟩:Addr).add 0)=some (.int .i64 am)/\
 ∃ao,gL.cell? ((⟨aI,0,none⟩:Addr).add 1)=some (.int .i64 ao)/\
 ∃ap,gL.cell? ((⟨aI,0,none⟩:Addr).add 2)=some (.string ap)/\
 alE (.cells #[.int .i64 am,.int .i64 ao,.string ap] 73) gL λbK xc=>
 ∃az:SV,∃ub,(Builtin.append_ #[38,38] 38 #[ay.v,.slice (some ⟨bK,0,none⟩) 1 1]).run prog xc=.ok (az.v) ub/\
 zQg p6 λa109=>
 st1 (a109.add 1) (az.v) ub λxd=>
 zQP R J1 l1 p4 p6 (IntKind.i64.wrap (n7+cN)) (IntKind.i64.wrap (n8+1)) aD bW bF bE ds xd) (
 zQg p6 λxe=>
 ∃ay:SV,gL.cell? (xe.add 1)=some (ay.v)/\
 ∃am,gL.cell? ((⟨aI,0,none⟩:Addr).add 0)=some (.int .i64 am)/\
 ∃ao,gL.cell? ((⟨aI,0,none⟩:Addr).add 1)=some (.int .i64 ao)/\
 ∃ap,gL.cell? ((⟨aI,0,none⟩:Addr).add 2)=some (.string ap)/\
 alE (.cells #[.int .i64 am,.int .i64 ao,.string ap] 73) gL λbK xf=>
 ∃az:SV,∃uc,(Builtin.append_ #[38,38] 38 #[ay.v,.slice (some ⟨bK,0,none⟩) 1 1]).run prog xf=.ok (az.v) uc/\
 zQg p6 λxg=>
 st1 (xg.add 1) (az.v) uc λxh=>
 zQP R J1 l1 p4 p6 (IntKind.i64.wrap (n7+cN)) (IntKind.i64.wrap (n8+1)) false bW bF bE ds xh))/\(
 ∃cF:ByteArray,∃ln,(convert 22 9 (bB.v)).run prog lk=.ok (.string cF) ln/\
 ∃S15:World->Prop,S15 ln/\(∀u,S15 u->S12 u)/\
 Calls prog 145 #[] ln λe m8=>
 ∃c9:Option Nat,e=.returned (.map c9)/\
 ∃S16:World->Prop,S16 m8/\(∀u,S16 u->S15 u)/\
 ∃bj:Int,∃bl:Int,∃bm:Int,∃bn:Value,∃aL:Value,(∀w',S16 w'->(Instr.lookup 176 (.map c9) (.int .i64 jb) false).run prog w'=.ok (.agg #[.int .u8 bj,.int .i64 bl,.int .i64 bm,bn,aL]) w')/\
 fnE aL λf75 first75 aO=>
 zQv prog f75=true/\Calls prog f75 (first75.toList ++ (([.string cF]:List Value) ++ aO.toList)).toArray m8 λe rC=>
 ∃ah:Int,∃ai:Int,∃aj:ByteArray,∃aD:Bool,e=.returned (.tuple #[.agg #[.int .i64 ah,.int .i64 ai,.string aj],.bool aD])/\
 stA prog 73 (⟨aI,0,none⟩:Addr) #[.int .i64 ah,.int .i64 ai,.string aj] rC λgM=>
 Br b9 (
 zQg p6 λxi=>
 ∃ay:SV,gM.cell? (xi.add 1)=some (ay.v)/\
 ∃am,gM.cell? ((⟨aI,0,none⟩:Addr).add 0)=some (.int .i64 am)/\
 ∃ao,gM.cell? ((⟨aI,0,none⟩:Addr).add 1)=some (.int .i64 ao)/\
 ∃ap,gM.cell? ((⟨aI,0,none⟩:Addr).add 2)=some (.string ap)/\
 alE (.cells #[.int .i64 am,.int .i64 ao,.string ap] 73) gM λbK xj=>
 ∃az:SV,∃ud,(Builtin.append_ #[38,38] 38 #[ay.v,.slice (some ⟨bK,0,none⟩) 1 1]).run prog xj=.ok (az.v) ud/\
 zQg p6 λxk=>
 st1 (xk.add 1) (az.v) ud λxm=>
 zQP R J1 l1 p4 p6 (IntKind.i64.wrap (n7+cN)) (IntKind.i64.wrap (n8+1)) aD bW bF bE ds xm) (
 zQg p6 λxn=>
 ∃ay:SV,gM.cell? (xn.add 1)=some (ay.v)/\
 ∃am,gM.cell? ((⟨aI,0,none⟩:Addr).add 0)=some (.int .i64 am)/\
 ∃ao,gM.cell? ((⟨aI,0,none⟩:Addr).add 1)=some (.int .i64 ao)/\
 ∃ap,gM.cell? ((⟨aI,0,none⟩:Addr).add 2)=some (.string ap)/\
 alE (.cells #[.int .i64 am,.int .i64 ao,.string ap] 73) gM λbK xo=>
 ∃az:SV,∃ue,(Builtin.append_ #[38,38] 38 #[ay.v,.slice (some ⟨bK,0,none⟩) 1 1]).run prog xo=.ok (az.v) ue/\
 zQg p6 λxp=>
 st1 (xp.add 1) (az.v) ue λxq=>
 zQP R J1 l1 p4 p6 (IntKind.i64.wrap (n7+cN)) (IntKind.i64.wrap (n8+1)) false bW bF bE ds xq)))))) (
 dwE w9 λod=>
 ∃S17:World->Prop,S17 od/\
 ∃jb,(∀w',S17 w'->w'.cell? ((⟨bU,0,none⟩:Addr).add 1)=some (.int .i64 jb))/\
 (
 Calls prog 145 #[] od λe rD=>
 ∃c9:Option Nat,e=.returned (.map c9)/\
 ∃S18:World->Prop,S18 rD/\(∀u,S18 u->S17 u)/\
 ∃bj:Int,∃bl:Int,∃bm:Int,∃bn:Value,∃aL:Value,(∀w',S18 w'->(Instr.lookup 176 (.map c9) (.int .i64 jb) false).run prog w'=.ok (.agg #[.int .u8 bj,.int .i64 bl,.int .i64 bm,bn,aL]) w')/\
 (
 ∃cF:ByteArray,∃oe,(convert 22 9 (bB.v)).run prog rD=.ok (.string cF) oe/\
 ∃S19:World->Prop,S19 oe/\(∀u,S19 u->S18 u)/\
 (
 fnE aL λf75 first75 aO=>
 zQv prog f75=true/\Calls prog f75 (first75.toList ++ (([.string cF]:List Value) ++ aO.toList)).toArray oe λe xr=>
 ∃ah:Int,∃ai:Int,∃aj:ByteArray,∃aD:Bool,e=.returned (.tuple #[.agg #[.int .i64 ah,.int .i64 ai,.string aj],.bool aD])/\
 alE (.cells #[.int .i64 0,.int .i64 0,.string (⟨#[]⟩:ByteArray)] 73) xr λaI xt=>
 stA prog 73 (⟨aI,0,none⟩:Addr) #[.int .i64 ah,.int .i64 ai,.string aj] xt λiD=>
 Br b9 (
 zQg p6 λxu=>
 ∃ay:SV,iD.cell? (xu.add 1)=some (ay.v)/\
 ∃am,iD.cell? ((⟨aI,0,none⟩:Addr).add 0)=some (.int .i64 am)/\
 ∃ao,iD.cell? ((⟨aI,0,none⟩:Addr).add 1)=some (.int .i64 ao)/\
 ∃ap,iD.cell? ((⟨aI,0,none⟩:Addr).add 2)=some (.string ap)/\
 alE (.cells #[.int .i64 am,.int .i64 ao,.string ap] 73) iD λbK xv=>
 ∃az:SV,∃uf,(Builtin.append_ #[38,38] 38 #[ay.v,.slice (some ⟨bK,0,none⟩) 1 1]).run prog xv=.ok (az.v) uf/\
 zQg p6 λa139=>
 st1 (a139.add 1) (az.v) uf λxx=>
 zQP R J1 l1 p4 p6 (IntKind.i64.wrap (n7+cN)) n8 aD bW bF bE ds xx) (
 zQg p6 λxy=>
 ∃ay:SV,iD.cell? (xy.add 1)=some (ay.v)/\
 ∃am,iD.cell? ((⟨aI,0,none⟩:Addr).add 0)=some (.int .i64 am)/\
 ∃ao,iD.cell? ((⟨aI,0,none⟩:Addr).add 1)=some (.int .i64 ao)/\
 ∃ap,iD.cell? ((⟨aI,0,none⟩:Addr).add 2)=some (.string ap)/\
 alE (.cells #[.int .i64 am,.int .i64 ao,.string ap] 73) iD λbK xz=>
 ∃az:SV,∃ug,(Builtin.append_ #[38,38] 38 #[ay.v,.slice (some ⟨bK,0,none⟩) 1 1]).run prog xz=.ok (az.v) ug/\
 zQg p6 λxA=>
 st1 (xA.add 1) (az.v) ug λxB=>
 zQP R J1 l1 p4 p6 (IntKind.i64.wrap (n7+cN)) n8 false bW bF bE ds xB))/\(
 alE (.cells #[.int .i64 0,.int .i64 0,.string (⟨#[]⟩:ByteArray)] 73) oe λaI uh=>
 ∃S20:World->Prop,S20 uh/\(∀u,S20 u->S19 u)/\
 fnE aL λf75 first75 aO=>
 zQv prog f75=true/\Calls prog f75 (first75.toList ++ (([.string cF]:List Value) ++ aO.toList)).toArray uh λe xC=>
 ∃ah:Int,∃ai:Int,∃aj:ByteArray,∃aD:Bool,e=.returned (.tuple #[.agg #[.int .i64 ah,.int .i64 ai,.string aj],.bool aD])/\
 stA prog 73 (⟨aI,0,none⟩:Addr) #[.int .i64 ah,.int .i64 ai,.string aj] xC λiE=>
 Br b9 (
 zQg p6 λxD=>
 ∃ay:SV,iE.cell? (xD.add 1)=some (ay.v)/\
 ∃am,iE.cell? ((⟨aI,0,none⟩:Addr).add 0)=some (.int .i64 am)/\
 ∃ao,iE.cell? ((⟨aI,0,none⟩:Addr).add 1)=some (.int .i64 ao)/\
 ∃ap,iE.cell? ((⟨aI,0,none⟩:Addr).add 2)=some (.string ap)/\
 alE (.cells #[.int .i64 am,.int .i64 ao,.string ap] 73) iE λbK xE=>
 ∃az:SV,∃ui,(Builtin.append_ #[38,38] 38 #[ay.v,.slice (some ⟨bK,0,none⟩) 1 1]).run prog xE=.ok (az.v) ui/\
 zQg p6 λxF=>
 st1 (xF.add 1) (az.v) ui λxG=>
 zQP R J1 l1 p4 p6 (IntKind.i64.wrap (n7+cN)) n8 aD bW bF bE ds xG) (
 zQg p6 λxH=>
 ∃ay:SV,iE.cell? (xH.add 1)=some (ay.v)/\
 ∃am,iE.cell? ((⟨aI,0,none⟩:Addr).add 0)=some (.int .i64 am)/\
 ∃ao,iE.cell? ((⟨aI,0,none⟩:Addr).add 1)=some (.int .i64 ao)/\
 ∃ap,iE.cell? ((⟨aI,0,none⟩:Addr).add 2)=some (.string ap)/\
 alE (.cells #[.int .i64 am,.int .i64 ao,.string ap] 73) iE λbK xI=>
 ∃az:SV,∃uj,(Builtin.append_ #[38,38] 38 #[ay.v,.slice (some ⟨bK,0,none⟩) 1 1]).run prog xI=.ok (az.v) uj/\
 zQg p6 λxJ=>
 st1 (xJ.add 1) (az.v) uj λxK=>
 zQP R J1 l1 p4 p6 (IntKind.i64.wrap (n7+cN)) n8 false bW bF bE ds xK)))/\(
 alE (.cells #[.int .i64 0,.int .i64 0,.string (⟨#[]⟩:ByteArray)] 73) rD λaI uk=>
 ∃S21:World->Prop,S21 uk/\(∀u,S21 u->S18 u)/\
 ∃cF:ByteArray,∃rE,(convert 22 9 (bB.v)).run prog uk=.ok (.string cF) rE/\
 ∃S22:World->Prop,S22 rE/\(∀u,S22 u->S21 u)/\
 fnE aL λf75 first75 aO=>
 zQv prog f75=true/\Calls prog f75 (first75.toList ++ (([.string cF]:List Value) ++ aO.toList)).toArray rE λe xL=>
 ∃ah:Int,∃ai:Int,∃aj:ByteArray,∃aD:Bool,e=.returned (.tuple #[.agg #[.int .i64 ah,.int .i64 ai,.string aj],.bool aD])/\
 stA prog 73 (⟨aI,0,none⟩:Addr) #[.int .i64 ah,.int .i64 ai,.string aj] xL λiF=>
 Br b9 (
 zQg p6 λxM=>
 ∃ay:SV,iF.cell? (xM.add 1)=some (ay.v)/\
 ∃am,iF.cell? ((⟨aI,0,none⟩:Addr).add 0)=some (.int .i64 am)/\
 ∃ao,iF.cell? ((⟨aI,0,none⟩:Addr).add 1)=some (.int .i64 ao)/\
 ∃ap,iF.cell? ((⟨aI,0,none⟩:Addr).add 2)=some (.string ap)/\
 alE (.cells #[.int .i64 am,.int .i64 ao,.string ap] 73) iF λbK xN=>
 ∃az:SV,∃ul,(Builtin.append_ #[38,38] 38 #[ay.v,.slice (some ⟨bK,0,none⟩) 1 1]).run prog xN=.ok (az.v) ul/\
 zQg p6 λxO=>
 st1 (xO.add 1) (az.v) ul λxP=>
 zQP R J1 l1 p4 p6 (IntKind.i64.wrap (n7+cN)) n8 aD bW bF bE ds xP) (
 zQg p6 λxQ=>
 ∃ay:SV,iF.cell? (xQ.add 1)=some (ay.v)/\
 ∃am,iF.cell? ((⟨aI,0,none⟩:Addr).add 0)=some (.int .i64 am)/\
 ∃ao,iF.cell? ((⟨aI,0,none⟩:Addr).add 1)=some (.int .i64 ao)/\
 ∃ap,iF.cell? ((⟨aI,0,none⟩:Addr).add 2)=some (.string ap)/\
 alE (.cells #[.int .i64 am,.int .i64 ao,.string ap] 73) iF λbK xR=>
 ∃az:SV,∃um,(Builtin.append_ #[38,38] 38 #[ay.v,.slice (some ⟨bK,0,none⟩) 1 1]).run prog xR=.ok (az.v) um/\
 zQg p6 λxS=>
 st1 (xS.add 1) (az.v) um λxT=>
 zQP R J1 l1 p4 p6 (IntKind.i64.wrap (n7+cN)) n8 false bW bF bE ds xT)))/\(
 (
 ∃cF:ByteArray,∃og,(convert 22 9 (bB.v)).run prog od=.ok (.string cF) og/\
 ∃S23:World->Prop,S23 og/\(∀u,S23 u->S17 u)/\
 (
 Calls prog 145 #[] og λe rF=>
 ∃c9:Option Nat,e=.returned (.map c9)/\
 ∃S24:World->Prop,S24 rF/\(∀u,S24 u->S23 u)/\
 ∃bj:Int,∃bl:Int,∃bm:Int,∃bn:Value,∃aL:Value,(∀w',S24 w'->(Instr.lookup 176 (.map c9) (.int .i64 jb) false).run prog w'=.ok (.agg #[.int .u8 bj,.int .i64 bl,.int .i64 bm,bn,aL]) w')/\
 (
 fnE aL λf75 first75 aO=>
 zQv prog f75=true/\Calls prog f75 (first75.toList ++ (([.string cF]:List Value) ++ aO.toList)).toArray rF λe xU=>
 ∃ah:Int,∃ai:Int,∃aj:ByteArray,∃aD:Bool,e=.returned (.tuple #[.agg #[.int .i64 ah,.int .i64 ai,.string aj],.bool aD])/\
 alE (.cells #[.int .i64 0,.int .i64 0,.string (⟨#[]⟩:ByteArray)] 73) xU λaI xV=>
 stA prog 73 (⟨aI,0,none⟩:Addr) #[.int .i64 ah,.int .i64 ai,.string aj] xV λiG=>
 Br b9 (
 zQg p6 λxW=>
 ∃ay:SV,iG.cell? (xW.add 1)=some (ay.v)/\
 ∃am,iG.cell? ((⟨aI,0,none⟩:Addr).add 0)=some (.int .i64 am)/\
 ∃ao,iG.cell? ((⟨aI,0,none⟩:Addr).add 1)=some (.int .i64 ao)/\
 ∃ap,iG.cell? ((⟨aI,0,none⟩:Addr).add 2)=some (.string ap)/\
 alE (.cells #[.int .i64 am,.int .i64 ao,.string ap] 73) iG λbK xX=>
 ∃az:SV,∃un,(Builtin.append_ #[38,38] 38 #[ay.v,.slice (some ⟨bK,0,none⟩) 1 1]).run prog xX=.ok (az.v) un/\
 zQg p6 λxY=>
 st1 (xY.add 1) (az.v) un λxZ=>
 zQP R J1 l1 p4 p6 (IntKind.i64.wrap (n7+cN)) n8 aD bW bF bE ds xZ) (
 zQg p6 λx4=>
 ∃ay:SV,iG.cell? (x4.add 1)=some (ay.v)/\
 ∃am,iG.cell? ((⟨aI,0,none⟩:Addr).add 0)=some (.int .i64 am)/\
 ∃ao,iG.cell? ((⟨aI,0,none⟩:Addr).add 1)=some (.int .i64 ao)/\
 ∃ap,iG.cell? ((⟨aI,0,none⟩:Addr).add 2)=some (.string ap)/\
 alE (.cells #[.int .i64 am,.int .i64 ao,.string ap] 73) iG λbK x5=>
 ∃az:SV,∃uo,(Builtin.append_ #[38,38] 38 #[ay.v,.slice (some ⟨bK,0,none⟩) 1 1]).run prog x5=.ok (az.v) uo/\
 zQg p6 λx6=>
 st1 (x6.add 1) (az.v) uo λx7=>
 zQP R J1 l1 p4 p6 (IntKind.i64.wrap (n7+cN)) n8 false bW bF bE ds x7))/\(
 alE (.cells #[.int .i64 0,.int .i64 0,.string (⟨#[]⟩:ByteArray)] 73) rF λaI uq=>
 ∃S25:World->Prop,S25 uq/\(∀u,S25 u->S24 u)/\
 fnE aL λf75 first75 aO=>
 zQv prog f75=true/\Calls prog f75 (first75.toList ++ (([.string cF]:List Value) ++ aO.toList)).toArray uq λe x8=>
 ∃ah:Int,∃ai:Int,∃aj:ByteArray,∃aD:Bool,e=.returned (.tuple #[.agg #[.int .i64 ah,.int .i64 ai,.string aj],.bool aD])/\
 stA prog 73 (⟨aI,0,none⟩:Addr) #[.int .i64 ah,.int .i64 ai,.string aj] x8 λiH=>
 Br b9 (
 zQg p6 λx9=>
 ∃ay:SV,iH.cell? (x9.add 1)=some (ay.v)/\
 ∃am,iH.cell? ((⟨aI,0,none⟩:Addr).add 0)=some (.int .i64 am)/\
 ∃ao,iH.cell? ((⟨aI,0,none⟩:Addr).add 1)=some (.int .i64 ao)/\
 ∃ap,iH.cell? ((⟨aI,0,none⟩:Addr).add 2)=some (.string ap)/\
 alE (.cells #[.int .i64 am,.int .i64 ao,.string ap] 73) iH λbK ya=>
 ∃az:SV,∃ur,(Builtin.append_ #[38,38] 38 #[ay.v,.slice (some ⟨bK,0,none⟩) 1 1]).run prog ya=.ok (az.v) ur/\
 zQg p6 λyb=>
 st1 (yb.add 1) (az.v) ur λyc=>
 zQP R J1 l1 p4 p6 (IntKind.i64.wrap (n7+cN)) n8 aD bW bF bE ds yc) (
 zQg p6 λyd=>
 ∃ay:SV,iH.cell? (yd.add 1)=some (ay.v)/\
 ∃am,iH.cell? ((⟨aI,0,none⟩:Addr).add 0)=some (.int .i64 am)/\
 ∃ao,iH.cell? ((⟨aI,0,none⟩:Addr).add 1)=some (.int .i64 ao)/\
 ∃ap,iH.cell? ((⟨aI,0,none⟩:Addr).add 2)=some (.string ap)/\
 alE (.cells #[.int .i64 am,.int .i64 ao,.string ap] 73) iH λbK ye=>
 ∃az:SV,∃ut,(Builtin.append_ #[38,38] 38 #[ay.v,.slice (some ⟨bK,0,none⟩) 1 1]).run prog ye=.ok (az.v) ut/\
 zQg p6 λyf=>
 st1 (yf.add 1) (az.v) ut λyg=>
 zQP R J1 l1 p4 p6 (IntKind.i64.wrap (n7+cN)) n8 false bW bF bE ds yg)))/\(
 alE (.cells #[.int .i64 0,.int .i64 0,.string (⟨#[]⟩:ByteArray)] 73) og λaI uu=>
 ∃S26:World->Prop,S26 uu/\(∀u,S26 u->S23 u)/\
 Calls prog 145 #[] uu λe uv=>
 ∃c9:Option Nat,e=.returned (.map c9)/\
 ∃S27:World->Prop,S27 uv/\(∀u,S27 u->S26 u)/\
 ∃bj:Int,∃bl:Int,∃bm:Int,∃bn:Value,∃aL:Value,(∀w',S27 w'->(Instr.lookup 176 (.map c9) (.int .i64 jb) false).run prog w'=.ok (.agg #[.int .u8 bj,.int .i64 bl,.int .i64 bm,bn,aL]) w')/\
 fnE aL λf75 first75 aO=>
 zQv prog f75=true/\Calls prog f75 (first75.toList ++ (([.string cF]:List Value) ++ aO.toList)).toArray uv λe yh=>
 ∃ah:Int,∃ai:Int,∃aj:ByteArray,∃aD:Bool,e=.returned (.tuple #[.agg #[.int .i64 ah,.int .i64 ai,.string aj],.bool aD])/\
 stA prog 73 (⟨aI,0,none⟩:Addr) #[.int .i64 ah,.int .i64 ai,.string aj] yh λiI=>
 Br b9 (
 zQg p6 λyi=>
 ∃ay:SV,iI.cell? (yi.add 1)=some (ay.v)/\
 ∃am,iI.cell? ((⟨aI,0,none⟩:Addr).add 0)=some (.int .i64 am)/\
 ∃ao,iI.cell? ((⟨aI,0,none⟩:Addr).add 1)=some (.int .i64 ao)/\
 ∃ap,iI.cell? ((⟨aI,0,none⟩:Addr).add 2)=some (.string ap)/\
 alE (.cells #[.int .i64 am,.int .i64 ao,.string ap] 73) iI λbK yj=>
 ∃az:SV,∃uw,(Builtin.append_ #[38,38] 38 #[ay.v,.slice (some ⟨bK,0,none⟩) 1 1]).run prog yj=.ok (az.v) uw/\
 zQg p6 λyk=>
 st1 (yk.add 1) (az.v) uw λym=>
 zQP R J1 l1 p4 p6 (IntKind.i64.wrap (n7+cN)) n8 aD bW bF bE ds ym) (
 zQg p6 λyn=>
 ∃ay:SV,iI.cell? (yn.add 1)=some (ay.v)/\
 ∃am,iI.cell? ((⟨aI,0,none⟩:Addr).add 0)=some (.int .i64 am)/\
 ∃ao,iI.cell? ((⟨aI,0,none⟩:Addr).add 1)=some (.int .i64 ao)/\
 ∃ap,iI.cell? ((⟨aI,0,none⟩:Addr).add 2)=some (.string ap)/\
 alE (.cells #[.int .i64 am,.int .i64 ao,.string ap] 73) iI λbK yo=>
 ∃az:SV,∃ux,(Builtin.append_ #[38,38] 38 #[ay.v,.slice (some ⟨bK,0,none⟩) 1 1]).run prog yo=.ok (az.v) ux/\
 zQg p6 λyp=>
 st1 (yp.add 1) (az.v) ux λyq=>
 zQP R J1 l1 p4 p6 (IntKind.i64.wrap (n7+cN)) n8 false bW bF bE ds yq)))/\(
 alE (.cells #[.int .i64 0,.int .i64 0,.string (⟨#[]⟩:ByteArray)] 73) od λaI rG=>
 ∃S28:World->Prop,S28 rG/\(∀u,S28 u->S17 u)/\
 (
 Calls prog 145 #[] rG λe uy=>
 ∃c9:Option Nat,e=.returned (.map c9)/\
 ∃S29:World->Prop,S29 uy/\(∀u,S29 u->S28 u)/\
 ∃bj:Int,∃bl:Int,∃bm:Int,∃bn:Value,∃aL:Value,(∀w',S29 w'->(Instr.lookup 176 (.map c9) (.int .i64 jb) false).run prog w'=.ok (.agg #[.int .u8 bj,.int .i64 bl,.int .i64 bm,bn,aL]) w')/\
 ∃cF:ByteArray,∃rH,(convert 22 9 (bB.v)).run prog uy=.ok (.string cF) rH/\
 ∃S30:World->Prop,S30 rH/\(∀u,S30 u->S29 u)/\
 fnE aL λf75 first75 aO=>
 zQv prog f75=true/\Calls prog f75 (first75.toList ++ (([.string cF]:List Value) ++ aO.toList)).toArray rH λe yr=>
 ∃ah:Int,∃ai:Int,∃aj:ByteArray,∃aD:Bool,e=.returned (.tuple #[.agg #[.int .i64 ah,.int .i64 ai,.string aj],.bool aD])/\
 stA prog 73 (⟨aI,0,none⟩:Addr) #[.int .i64 ah,.int .i64 ai,.string aj] yr λiJ=>
 Br b9 (
 zQg p6 λyt=>
 ∃ay:SV,iJ.cell? (yt.add 1)=some (ay.v)/\
 ∃am,iJ.cell? ((⟨aI,0,none⟩:Addr).add 0)=some (.int .i64 am)/\
 ∃ao,iJ.cell? ((⟨aI,0,none⟩:Addr).add 1)=some (.int .i64 ao)/\
 ∃ap,iJ.cell? ((⟨aI,0,none⟩:Addr).add 2)=some (.string ap)/\
 alE (.cells #[.int .i64 am,.int .i64 ao,.string ap] 73) iJ λbK yu=>
 ∃az:SV,∃uz,(Builtin.append_ #[38,38] 38 #[ay.v,.slice (some ⟨bK,0,none⟩) 1 1]).run prog yu=.ok (az.v) uz/\
 zQg p6 λyv=>
 st1 (yv.add 1) (az.v) uz λyw=>
 zQP R J1 l1 p4 p6 (IntKind.i64.wrap (n7+cN)) n8 aD bW bF bE ds yw) (
 zQg p6 λyx=>
 ∃ay:SV,iJ.cell? (yx.add 1)=some (ay.v)/\
 ∃am,iJ.cell? ((⟨aI,0,none⟩:Addr).add 0)=some (.int .i64 am)/\
 ∃ao,iJ.cell? ((⟨aI,0,none⟩:Addr).add 1)=some (.int .i64 ao)/\
 ∃ap,iJ.cell? ((⟨aI,0,none⟩:Addr).add 2)=some (.string ap)/\
 alE (.cells #[.int .i64 am,.int .i64 ao,.string ap] 73) iJ λbK yy=>
 ∃az:SV,∃uA,(Builtin.append_ #[38,38] 38 #[ay.v,.slice (some ⟨bK,0,none⟩) 1 1]).run prog yy=.ok (az.v) uA/\
 zQg p6 λyz=>
 st1 (yz.add 1) (az.v) uA λyA=>
 zQP R J1 l1 p4 p6 (IntKind.i64.wrap (n7+cN)) n8 false bW bF bE ds yA))/\(
 ∃cF:ByteArray,∃rI,(convert 22 9 (bB.v)).run prog rG=.ok (.string cF) rI/\
 ∃S31:World->Prop,S31 rI/\(∀u,S31 u->S28 u)/\
 Calls prog 145 #[] rI λe uB=>
 ∃c9:Option Nat,e=.returned (.map c9)/\
 ∃S32:World->Prop,S32 uB/\(∀u,S32 u->S31 u)/\
 ∃bj:Int,∃bl:Int,∃bm:Int,∃bn:Value,∃aL:Value,(∀w',S32 w'->(Instr.lookup 176 (.map c9) (.int .i64 jb) false).run prog w'=.ok (.agg #[.int .u8 bj,.int .i64 bl,.int .i64 bm,bn,aL]) w')/\
 fnE aL λf75 first75 aO=>
 zQv prog f75=true/\Calls prog f75 (first75.toList ++ (([.string cF]:List Value) ++ aO.toList)).toArray uB λe yB=>
 ∃ah:Int,∃ai:Int,∃aj:ByteArray,∃aD:Bool,e=.returned (.tuple #[.agg #[.int .i64 ah,.int .i64 ai,.string aj],.bool aD])/\
 stA prog 73 (⟨aI,0,none⟩:Addr) #[.int .i64 ah,.int .i64 ai,.string aj] yB λiK=>
 Br b9 (
 zQg p6 λyC=>
 ∃ay:SV,iK.cell? (yC.add 1)=some (ay.v)/\
 ∃am,iK.cell? ((⟨aI,0,none⟩:Addr).add 0)=some (.int .i64 am)/\
 ∃ao,iK.cell? ((⟨aI,0,none⟩:Addr).add 1)=some (.int .i64 ao)/\
 ∃ap,iK.cell? ((⟨aI,0,none⟩:Addr).add 2)=some (.string ap)/\
 alE (.cells #[.int .i64 am,.int .i64 ao,.string ap] 73) iK λbK yD=>
 ∃az:SV,∃uC,(Builtin.append_ #[38,38] 38 #[ay.v,.slice (some ⟨bK,0,none⟩) 1 1]).run prog yD=.ok (az.v) uC/\
 zQg p6 λyE=>
 st1 (yE.add 1) (az.v) uC λyF=>
 zQP R J1 l1 p4 p6 (IntKind.i64.wrap (n7+cN)) n8 aD bW bF bE ds yF) (
 zQg p6 λyG=>
 ∃ay:SV,iK.cell? (yG.add 1)=some (ay.v)/\
 ∃am,iK.cell? ((⟨aI,0,none⟩:Addr).add 0)=some (.int .i64 am)/\
 ∃ao,iK.cell? ((⟨aI,0,none⟩:Addr).add 1)=some (.int .i64 ao)/\
 ∃ap,iK.cell? ((⟨aI,0,none⟩:Addr).add 2)=some (.string ap)/\
 alE (.cells #[.int .i64 am,.int .i64 ao,.string ap] 73) iK λbK yH=>
 ∃az:SV,∃uD,(Builtin.append_ #[38,38] 38 #[ay.v,.slice (some ⟨bK,0,none⟩) 1 1]).run prog yH=.ok (az.v) uD/\
 zQg p6 λyI=>
 st1 (yI.add 1) (az.v) uD λyJ=>
 zQP R J1 l1 p4 p6 (IntKind.i64.wrap (n7+cN)) n8 false bW bF bE ds yJ)))))
def xZx (R:Rt) (J1:(Int × Int × Bool × Int)->World->Prop) (l1:SV) (p4 p6:Option Addr) (n7 n8:Int) (b9:Bool) (bW:SV) (bF bE:Int) (ds:Ds) (w:World):Prop:=
 Br (decide (bE<bF)) (
 xKI R J1 l1 p4 p6 n7 n8 b9 bW bF bE ds w) (
 xXW R p4 p6 b9 ds w)
def xJd(R:Rt)(l1:SV)(p4 p6:Option Addr)(n7 n8:Int)(b9:Bool)(bW:SV)(bF bE:Int)(ds:Ds)(w:World):Prop:=
 zQD (λ(J1:(Int × Int × Bool × Int)->World->Prop) (s:Int × Int × Bool × Int) (w:World)=>xZx R J1 l1 p4 p6 s.1 s.2.1 s.2.2.1 bW bF s.2.2.2 ds w) (n7,n8,b9,bE) w
def xZd(R:Rt)(l0 l1:SV)(ds:Ds)(w:World):Prop:=
 alE (.cells #[.bool false,.slice none 0 0] 67) w λr4 uE=>
 ∃uF,l1.a=some uF/\0<=(0:Int)/\(0:Int)<(l1.len:Int)/\
 ∃gO,uE.cell? (uF.add ((0:Int).toNat * 1))=some (.int .u8 gO)/\
 alE (.cells #[.bool false,.slice none 0 0] 67) uE λr6 yK=>
 stA prog 67 (⟨r6,0,none⟩:Addr) #[.bool (gO == 42),.slice none 0 0] yK λyL=>
 Calls prog 203 #[l0.v] yL λe yM=>
 ∃cq:Int,e=.returned (.int .i64 cq)/\
 xJd R l1 (some (⟨r4,0,none⟩:Addr)) (some (⟨r6,0,none⟩:Addr)) (IntKind.i64.wrap ((1:Int)+cq)) 0 true l0 (l0.len:Int) 0 ds yM
theorem F163_p:Pl prog f163 [lS 0,lS 1] xZd:=λR=>
 pc 4 (rest [lS 1,pS 4,pS 6,iS 7,iS 8,bS 9,lS 24,iS 25,iS 26] (xJd R) (bk 0 (rest [pS 4,pS 6,bS 9] (xXW R) lf) (lp [iS 7,iS 8,bS 9,iS 26] [lS 1,pS 4,pS 6,iS 7,iS 8,bS 9,lS 24,iS 25,iS 26] (xZx R) zXY λJ1=>pc 2 (rest [lS 1,pS 4,pS 6,iS 7,iS 8,bS 9,lS 24,iS 25,iS 26] (xKI R J1) (pc 1 (rest [lS 1,pS 4,pS 6,iS 7,iS 8,bS 9,lS 24,iS 25,iS 26] (zQP R J1) lf))))))
theorem yJJ (l0 l1:SV) (w:World) (R:Rt) (h:xZd R l0 l1 [] w):Calls prog 163 #[l0.v,l1.v] w R:=
 plC F163_p func163 h
def xXY(R:Rt)(l0 l1:SV)(ds:Ds)(w:World):Prop:=
 ∃s6:ByteArray,∃w1,(convert 22 9 (l0.v)).run prog w=.ok (.string s6) w1/\
 ∃s8:ByteArray,∃w2,(convert 22 9 (l1.v)).run prog w1=.ok (.string s8) w2/\
 zQc prog ds w2 λw3=>
 R (.returned (.bool (s6.toList == s8.toList))) w3
theorem F125_p:Pl prog f125 [lS 0,lS 1] xXY:=λR=>
 lf
theorem yKz (l0 l1:SV) (w:World) (R:Rt) (h:xXY R l0 l1 [] w):Calls prog 125 #[l0.v,l1.v] w R:=
 plC F125_p func125 h
end Go.Proofs.YtaeecpjhfmcliaaGreatDoor
/- Shallow texts of functions, printed by program, each checked by the kernel against the loaded code. No condition. -/
namespace Go.Proofs.YtaeecpjhfmcliaaGreatDoor
open Go.Sh Tryz
def F56_1(R:Rt)(p1 p2:Option Addr)(ds:Ds)(w:World):Prop:=
 zQg p1 λa1=>
 ∃da,w.cell? (a1.add 0)=some (.int .i64 da)/\
 ∃ba:SV,w.cell? (a1.add 1)=some (ba.v)/\
 ∃be:SV,w.cell? (a1.add 2)=some (be.v)/\
 zQg p2 λa2=>
 stA prog 35 a2 #[.int .i64 da,ba.v,be.v] w λw3=>
 zQc prog ds w3 λw4=>
 zQg p2 λa5=>
 ∃ag,w4.cell? (a5.add 0)=some (.int .i64 ag)/\
 ∃ab:SV,w4.cell? (a5.add 1)=some (ab.v)/\
 ∃ae:SV,w4.cell? (a5.add 2)=some (ae.v)/\
 R (.returned (.agg #[.int .i64 ag,ab.v,ae.v])) w4
def F56_2 (R:Rt) (J1:(Int)->World->Prop) (p1 p2:Option Addr) (bN:SV) (iz n16:Int) (ds:Ds) (w:World):Prop:=
 Br (decide (n16<iz)) (
 ∃a6,bN.a=some a6/\0<=n16/\n16<(bN.len:Int)/\
 ∃qo,w.cell? ((a6.add (n16.toNat * 2)).add 0)=some (.bool qo)/\
 ∃jc:SV,w.cell? ((a6.add (n16.toNat * 2)).add 1)=some (jc.v)/\
 alE (.cells #[.bool false,.slice none 0 0] 67) w λr4 w7=>
 stA prog 67 (⟨r4,0,none⟩:Addr) #[.bool qo,jc.v] w7 λw8=>
 dwE w8 λw9=>
 ∃S1:World->Prop,S1 w9/\
 zQg p1 λeJ=>
 ∃cI:SV,(∀w',S1 w'->w'.cell? (eJ.add 2)=some (cI.v))/\
 ∃cZ:SV,(∀w',S1 w'->w'.cell? ((⟨r4,0,none⟩:Addr).add 1)=some (cZ.v))/\
 Calls prog 78 #[cZ.v] w9 λe aT=>
 ∃dI:SV,e=.returned (dI.v)/\
 S1 aT/\
 ∃iR,cI.a=some iR/\0<=n16/\n16<(cI.len:Int)/\
 st1 ((iR.add (n16.toNat * 2)).add 1) (dI.v) aT λaK=>
 J1 (IntKind.i64.wrap (n16+1)) aK) (
 F56_1 R p1 p2 ds w)
def F56_3(R:Rt)(p1 p2:Option Addr)(bN:SV)(iz n16:Int)(ds:Ds)(w:World):Prop:=
 zQD (λ(J1:(Int)->World->Prop) (s:Int) (w:World)=>F56_2 R J1 p1 p2 bN iz s ds w) n16 w
def F56_5(R:Rt)(aF:Int)(aq ak:SV)(ds:Ds)(w:World):Prop:=
 alE (.cells #[.int .i64 aF,aq.v,ak.v] 35) w λr1 bH=>
 alE (.cells #[.int .i64 0,.slice none 0 0,.slice none 0 0] 35) bH λr2 bC=>
 ∃l6:SV,bC.cell? ((⟨r1,0,none⟩:Addr).add 1)=some (l6.v)/\
 Calls prog 97 #[l6.v] bC λe bT=>
 ∃l7:SV,e=.returned (l7.v)/\
 st1 ((⟨r1,0,none⟩:Addr).add 1) (l7.v) bT λbD=>
 ∃eN:SV,bD.cell? ((⟨r1,0,none⟩:Addr).add 2)=some (eN.v)/\
 Calls prog 98 #[eN.v] bD λe cH=>
 ∃bY:SV,e=.returned (bY.v)/\
 st1 ((⟨r1,0,none⟩:Addr).add 2) (bY.v) cH λcR=>
 ∃bN:SV,cR.cell? ((⟨r1,0,none⟩:Addr).add 2)=some (bN.v)/\
 F56_3 R (some (⟨r1,0,none⟩:Addr)) (some (⟨r2,0,none⟩:Addr)) bN (bN.len:Int) 0 ds cR
theorem F56_p:Pl prog f56 [aS 0 [.int .i64,.slice,.slice]] F56_5:=λR=>
 pc 4 (rest [pS 1,pS 2,lS 14,iS 15,iS 16] (F56_3 R) (bk 0 (rest [pS 1,pS 2] (F56_1 R) lf) (lp [iS 16] [pS 1,pS 2,lS 14,iS 15,iS 16] (F56_2 R) zXY λJ1=>lf)))
theorem yVb (aF:Int) (aq ak:SV) (w:World) (R:Rt) (h:F56_5 R aF aq ak [] w):Calls prog 56 #[.agg #[.int .i64 aF,aq.v,ak.v]] w R:=
 plC F56_p func56 h
def F97_1(R:Rt)(l0:SV)(ds:Ds)(w:World):Prop:=
 ∃b4:Bool,∃w1,(eqS .eql 32 (.tmp 3) (.const (.slice none 0 0)) (l0.v) (.slice none 0 0)).run prog w=.ok (.bool b4) w1/\
 Br b4 (
 zQc prog ds w1 λw2=>
 R (.returned (.slice none 0 0)) w2) (
 alE (.cells #[] 129) w1 λr5 w3=>
 ∃l7:SV,∃w4,(Builtin.append_ #[32,32] 32 #[.slice (some ⟨r5,0,none⟩) 0 0,l0.v]).run prog w3=.ok (l7.v) w4/\
 zQc prog ds w4 λw5=>
 R (.returned (l7.v)) w5)
theorem F97_p:Pl prog f97 [lS 0] F97_1:=λR=>
 lf
theorem yWI (l0:SV) (w:World) (R:Rt) (h:F97_1 R l0 [] w):Calls prog 97 #[l0.v] w R:=
 plC F97_p func97 h
def F98_1(R:Rt)(l0:SV)(ds:Ds)(w:World):Prop:=
 ∃b4:Bool,∃w1,(eqS .eql 33 (.tmp 3) (.const (.slice none 0 0)) (l0.v) (.slice none 0 0)).run prog w=.ok (.bool b4) w1/\
 Br b4 (
 zQc prog ds w1 λw2=>
 R (.returned (.slice none 0 0)) w2) (
 alE (.cells #[] 67) w1 λr5 w3=>
 ∃l7:SV,∃w4,(Builtin.append_ #[33,33] 33 #[.slice (some ⟨r5,0,none⟩) 0 0,l0.v]).run prog w3=.ok (l7.v) w4/\
 zQc prog ds w4 λw5=>
 R (.returned (l7.v)) w5)
theorem F98_p:Pl prog f98 [lS 0] F98_1:=λR=>
 lf
theorem yVV (l0:SV) (w:World) (R:Rt) (h:F98_1 R l0 [] w):Calls prog 98 #[l0.v] w R:=
 plC F98_p func98 h
def F78_1(R:Rt)(l0:SV)(ds:Ds)(w:World):Prop:=
 ∃b4:Bool,∃w1,(eqS .eql 38 (.tmp 3) (.const (.slice none 0 0)) (l0.v) (.slice none 0 0)).run prog w=.ok (.bool b4) w1/\
 Br b4 (
 zQc prog ds w1 λw2=>
 R (.returned (.slice none 0 0)) w2) (
 alE (.cells #[] 73) w1 λr5 w3=>
 ∃l7:SV,∃w4,(Builtin.append_ #[38,38] 38 #[.slice (some ⟨r5,0,none⟩) 0 0,l0.v]).run prog w3=.ok (l7.v) w4/\
 zQc prog ds w4 λw5=>
 R (.returned (l7.v)) w5)
theorem F78_p:Pl prog f78 [lS 0] F78_1:=λR=>
 lf
theorem yVS (l0:SV) (w:World) (R:Rt) (h:F78_1 R l0 [] w):Calls prog 78 #[l0.v] w R:=
 plC F78_p func78 h
end Go.Proofs.YtaeecpjhfmcliaaGreatDoor
/- Shallow texts of functions, printed by program, each checked by the kernel against the loaded code. No condition. -/
namespace Go.Proofs.YtaeecpjhfmcliaaGreatDoor
open Go.Sh Tryz
def F76_1(R:Rt)(aF aH:Int)(ak l1:SV)(n2:Int)(ds:Ds)(w:World):Prop:=
 alE (.cells #[.int .i64 aF,.int .i64 aH,ak.v] 90) w λr3 w1=>
 Calls prog 109 #[l1.v] w1 λe w2=>
 ∃eN:SV,e=.returned (eN.v)/\
 Br (decide (n2<=0)) (
 zQc prog ds w2 λw3=>
 R (.returned (eN.v)) w3) (
 dwE w2 λw4=>
 ∃S1:World->Prop,S1 w4/\
 ∃n16,(∀w',S1 w'->w'.cell? (⟨r3,0,none⟩:Addr)=some (.int .i64 n16))/\
 ∃a5,eN.a=some a5/\0<=n16/\n16<(eN.len:Int)/\
 ∃cJ:SV,(∀w',S1 w'->w'.cell? (a5.add (n16.toNat * 1))=some (cJ.v))/\
 ∃iQ,(∀w',S1 w'->w'.cell? ((⟨r3,0,none⟩:Addr).add 1)=some (.int .i64 iQ))/\
 ∃jV,(∀w',S1 w'->w'.cell? (⟨r3,0,none⟩:Addr)=some (.int .i64 jV))/\
 ∃a6,eN.a=some a6/\0<=jV/\jV<(eN.len:Int)/\
 ∃cZ:SV,(∀w',S1 w'->w'.cell? (a6.add (jV.toNat * 1))=some (cZ.v))/\
 ∃fW:Int,∃w7,(Builtin.min_ #[3,3] 3 #[.int .i64 iQ,.int .i64 (cZ.len:Int)]).run prog w4=.ok (.int .i64 fW) w7/\
 S1 w7/\
 0<=fW/\fW.toNat<=cJ.cap/\0<=fW.toNat/\
 Calls prog 110 #[.slice (if cJ.cap=0 then cJ.a else cJ.a.map (λx=>x.add (0 * 1))) (fW.toNat - 0) (cJ.cap - 0)] w7 λe w8=>
 ∃fZ:SV,e=.returned (fZ.v)/\
 ∃fL:SV,w8.cell? ((⟨r3,0,none⟩:Addr).add 2)=some (fL.v)/\
 Br (decide ((fL.len:Int) > 0)) (
 ∃jP:SV,w8.cell? ((⟨r3,0,none⟩:Addr).add 2)=some (jP.v)/\
 ∃ky:SV,w8.cell? ((⟨r3,0,none⟩:Addr).add 2)=some (ky.v)/\
 ∃j2:Int,∃w9,(Builtin.min_ #[3,3] 3 #[.int .i64 n2,.int .i64 (ky.len:Int)]).run prog w8=.ok (.int .i64 j2) w9/\
 0<=j2/\j2.toNat<=jP.cap/\0<=j2.toNat/\
 ∃jZ:SV,∃aU,(Builtin.append_ #[22,22] 22 #[fZ.v,.slice (if jP.cap=0 then jP.a else jP.a.map (λx=>x.add (0 * 1))) (j2.toNat - 0) (jP.cap - 0)]).run prog w9=.ok (jZ.v) aU/\
 ∃iu,aU.cell? (⟨r3,0,none⟩:Addr)=some (.int .i64 iu)/\
 ∃eL,eN.a=some eL/\0<=iu/\iu<(eN.len:Int)/\
 st1 (eL.add (iu.toNat * 1)) (jZ.v) aU λaX=>
 zQc prog ds aX λaK=>
 R (.returned (eN.v)) aK) (
 ∃iu,w8.cell? (⟨r3,0,none⟩:Addr)=some (.int .i64 iu)/\
 ∃ft,eN.a=some ft/\0<=iu/\iu<(eN.len:Int)/\
 st1 (ft.add (iu.toNat * 1)) (fZ.v) w8 λbC=>
 zQc prog ds bC λbT=>
 R (.returned (eN.v)) bT))
theorem F76_p:Pl prog f76 [aS 0 [.int .i64,.int .i64,.slice],lS 1,iS 2] F76_1:=λR=>
 lf
theorem yWK (aF aH:Int) (ak l1:SV) (n2:Int) (w:World) (R:Rt) (h:F76_1 R aF aH ak l1 n2 [] w):Calls prog 76 #[.agg #[.int .i64 aF,.int .i64 aH,ak.v],l1.v,.int .i64 n2] w R:=
 plC F76_p func76 h
def F90_1(R:Rt)(aF aH:Int)(ak:SV)(ds:Ds)(w:World):Prop:=
 alE (.cells #[.int .i64 aF,.int .i64 aH,ak.v] 90) w λr1 w1=>
 ∃l4:SV,w1.cell? ((⟨r1,0,none⟩:Addr).add 2)=some (l4.v)/\
 zQc prog ds w1 λw2=>
 R (.returned (.int .i64 (IntKind.i64.wrap ((l4.len:Int)+1)))) w2
theorem F90_p:Pl prog f90 [aS 0 [.int .i64,.int .i64,.slice]] F90_1:=λR=>
 lf
theorem yYE (aF aH:Int) (ak:SV) (w:World) (R:Rt) (h:F90_1 R aF aH ak [] w):Calls prog 90 #[.agg #[.int .i64 aF,.int .i64 aH,ak.v]] w R:=
 plC F90_p func90 h
def xZ5(R:Rt)(l0:SV)(ds:Ds)(w:World):Prop:=
 ∃b4:Bool,∃w1,(eqS .eql 82 (.tmp 3) (.const (.slice none 0 0)) (l0.v) (.slice none 0 0)).run prog w=.ok (.bool b4) w1/\
 Br b4 (
 zQc prog ds w1 λw2=>
 R (.returned (.slice none 0 0)) w2) (
 alE (.cells #[] 22) w1 λr5 w3=>
 ∃l7:SV,∃w4,(Builtin.append_ #[82,82] 82 #[.slice (some ⟨r5,0,none⟩) 0 0,l0.v]).run prog w3=.ok (l7.v) w4/\
 zQc prog ds w4 λw5=>
 R (.returned (l7.v)) w5)
theorem F109_p:Pl prog f109 [lS 0] xZ5:=λR=>
 lf
theorem yKf (l0:SV) (w:World) (R:Rt) (h:xZ5 R l0 [] w):Calls prog 109 #[l0.v] w R:=
 plC F109_p func109 h
def xKK(R:Rt)(l0:SV)(ds:Ds)(w:World):Prop:=
 ∃b4:Bool,∃w1,(eqS .eql 22 (.tmp 3) (.const (.slice none 0 0)) (l0.v) (.slice none 0 0)).run prog w=.ok (.bool b4) w1/\
 Br b4 (
 zQc prog ds w1 λw2=>
 R (.returned (.slice none 0 0)) w2) (
 alE (.cells #[] 5) w1 λr5 w3=>
 ∃l7:SV,∃w4,(Builtin.append_ #[22,22] 22 #[.slice (some ⟨r5,0,none⟩) 0 0,l0.v]).run prog w3=.ok (l7.v) w4/\
 zQc prog ds w4 λw5=>
 R (.returned (l7.v)) w5)
theorem F110_p:Pl prog f110 [lS 0] xKK:=λR=>
 lf
theorem yJL (l0:SV) (w:World) (R:Rt) (h:xKK R l0 [] w):Calls prog 110 #[l0.v] w R:=
 plC F110_p func110 h
end Go.Proofs.YtaeecpjhfmcliaaGreatDoor
/- Shallow texts of functions, printed by program, each checked by the kernel against the loaded code. No condition. -/
namespace Go.Proofs.YtaeecpjhfmcliaaGreatDoor
open Go.Sh Tryz
def xKm(R:Rt)(n3:Int)(ds:Ds)(w:World):Prop:=
 zQc prog ds w λw1=>
 R (.returned (.int .i64 n3)) w1
def xXS (R:Rt) (J1:(Int × Int)->World->Prop) (n3:Int) (l6:SV) (n7 n8:Int) (ds:Ds) (w:World):Prop:=
 Br (decide (n8<n7)) (
 ∃a2,l6.a=some a2/\0<=n8/\n8<(l6.len:Int)/\
 ∃cv,w.cell? (a2.add (n8.toNat * 1))=some (.int .u8 cv)/\
 0<=(IntKind.i64.wrap ((8:Int) * n8))/\
 J1 ((IntKind.i64.wrap ((BitVec.ofInt 64 n3 ||| BitVec.ofInt 64 (IntKind.i64.wrap ((IntKind.i64.wrap cv) * 2 ^ (min (IntKind.i64.wrap ((8:Int) * n8)).toNat 64)))).toNat:Nat)),(IntKind.i64.wrap (n8+1))) w) (
 xKm R n3 ds w)
def xJ8(R:Rt)(n3:Int)(l6:SV)(n7 n8:Int)(ds:Ds)(w:World):Prop:=
 zQD (λ(J1:(Int × Int)->World->Prop) (s:Int × Int) (w:World)=>xXS R J1 s.1 l6 n7 s.2 ds w) (n3,n8) w
def xJh(R:Rt)(l0:SV)(ds:Ds)(w:World):Prop:=
 xJ8 R 0 l0 (l0.len:Int) 0 ds w
theorem F126_p:Pl prog f126 [lS 0] xJh:=λR=>
 pc 3 (rest [iS 3,lS 6,iS 7,iS 8] (xJ8 R) (bk 0 (rest [iS 3] (xKm R) lf) (lp [iS 3,iS 8] [iS 3,lS 6,iS 7,iS 8] (xXS R) zXY λJ1=>lf)))
theorem yJU (l0:SV) (w:World) (R:Rt) (h:xJh R l0 [] w):Calls prog 126 #[l0.v] w R:=
 plC F126_p func126 h
def xJ7(R:Rt)(n3:Int)(ds:Ds)(w:World):Prop:=
 zQc prog ds w λw1=>
 R (.returned (.int .i64 (IntKind.i64.wrap n3))) w1
def xKb (R:Rt) (J1:(Int × Int)->World->Prop) (n3:Int) (l6:SV) (n7 n8:Int) (ds:Ds) (w:World):Prop:=
 Br (decide (n8<n7)) (
 ∃a2,l6.a=some a2/\0<=n8/\n8<(l6.len:Int)/\
 ∃cS,w.cell? (a2.add (n8.toNat * 1))=some (.int .u8 cS)/\
 J1 ((IntKind.u32.wrap ((BitVec.ofInt 32 (IntKind.u32.wrap (n3 * 16777619)) ^^^ BitVec.ofInt 32 (IntKind.u32.wrap cS)).toNat:Nat)),(IntKind.i64.wrap (n8+1))) w) (
 xJ7 R n3 ds w)
def xZK(R:Rt)(n3:Int)(l6:SV)(n7 n8:Int)(ds:Ds)(w:World):Prop:=
 zQD (λ(J1:(Int × Int)->World->Prop) (s:Int × Int) (w:World)=>xKb R J1 s.1 l6 n7 s.2 ds w) (n3,n8) w
def xJp(R:Rt)(l0:SV)(ds:Ds)(w:World):Prop:=
 xZK R 7 l0 (l0.len:Int) 0 ds w
theorem F127_p:Pl prog f127 [lS 0] xJp:=λR=>
 pc 3 (rest [kS .u32 3,lS 6,iS 7,iS 8] (xZK R) (bk 0 (rest [kS .u32 3] (xJ7 R) lf) (lp [kS .u32 3,iS 8] [kS .u32 3,lS 6,iS 7,iS 8] (xKb R) zXY λJ1=>lf)))
theorem yWe (l0:SV) (w:World) (R:Rt) (h:xJp R l0 [] w):Calls prog 127 #[l0.v] w R:=
 plC F127_p func127 h
def xJb(R:Rt)(l5:SV)(ds:Ds)(w:World):Prop:=
 zQc prog ds w λw1=>
 R (.returned (l5.v)) w1
def xJN (R:Rt) (J1:(Int)->World->Prop) (n0:Int) (l5:SV) (gb cS:Int) (ds:Ds) (w:World):Prop:=
 Br (decide (cS<gb)) (
 0<=(IntKind.i64.wrap ((8:Int) * cS))/\
 ∃a2,l5.a=some a2/\0<=cS/\cS<(l5.len:Int)/\
 st1 (a2.add (cS.toNat * 1)) (.int .u8 (IntKind.u8.wrap (n0.fdiv (2 ^ (min (IntKind.i64.wrap ((8:Int) * cS)).toNat 64))))) w λw3=>
 J1 (IntKind.i64.wrap (cS+1)) w3) (
 xJb R l5 ds w)
def xKJ(R:Rt)(n0:Int)(l5:SV)(gb cS:Int)(ds:Ds)(w:World):Prop:=
 zQD (λ(J1:(Int)->World->Prop) (s:Int) (w:World)=>xJN R J1 n0 l5 gb s ds w) cS w
def xJi(R:Rt)(n0 n1:Int)(ds:Ds)(w:World):Prop:=
 ∃l8:SV,∃w4,(Instr.makeSlice 22 (.int .i64 n1) (.int .i64 n1)).run prog w=.ok (l8.v) w4/\
 xKJ R n0 l8 (l8.len:Int) 0 ds w4
theorem F143_p:Pl prog f143 [iS 0,iS 1] xJi:=λR=>
 pc 3 (rest [iS 0,lS 5,iS 10,iS 11] (xKJ R) (bk 0 (rest [lS 5] (xJb R) lf) (lp [iS 11] [iS 0,lS 5,iS 10,iS 11] (xJN R) zXY λJ1=>lf)))
theorem yKA (n0 n1:Int) (w:World) (R:Rt) (h:xJi R n0 n1 [] w):Calls prog 143 #[.int .i64 n0,.int .i64 n1] w R:=
 plC F143_p func143 h
def F88_1(R:Rt)(l0:SV)(ds:Ds)(w:World):Prop:=
 Br (decide ((l0.len:Int)<9)) (
 zQc prog ds w λw1=>
 R (.returned (.tuple #[.int .u8 0,.slice none 0 0,.slice none 0 0,.bool false])) w1) (
 0<=(5:Int)/\(5:Int).toNat<=l0.cap/\0<=(1:Int)/\(1:Int).toNat<=(5:Int).toNat/\
 Calls prog 126 #[.slice (if l0.cap=(1:Int).toNat then l0.a else l0.a.map (λx=>x.add ((1:Int).toNat * 1))) ((5:Int).toNat - (1:Int).toNat) (l0.cap - (1:Int).toNat)] w λe w2=>
 ∃cv:Int,e=.returned (.int .i64 cv)/\
 dwE w2 λw3=>
 Br (decide (cv > (IntKind.i64.wrap ((IntKind.i64.wrap ((l0.len:Int) - 5)) - 4)))) (
 zQc prog ds w3 λw4=>
 R (.returned (.tuple #[.int .u8 0,.slice none 0 0,.slice none 0 0,.bool false])) w4) (
 0<=(IntKind.i64.wrap ((IntKind.i64.wrap ((5:Int)+cv))+4))/\(IntKind.i64.wrap ((IntKind.i64.wrap ((5:Int)+cv))+4)).toNat<=l0.cap/\0<=(IntKind.i64.wrap ((5:Int)+cv))/\(IntKind.i64.wrap ((5:Int)+cv)).toNat<=(IntKind.i64.wrap ((IntKind.i64.wrap ((5:Int)+cv))+4)).toNat/\
 0<=(IntKind.i64.wrap ((5:Int)+cv))/\(IntKind.i64.wrap ((5:Int)+cv)).toNat<=l0.cap/\0<=(IntKind.i64.wrap ((5:Int)+cv)).toNat/\
 Calls prog 126 #[.slice (if l0.cap=(IntKind.i64.wrap ((5:Int)+cv)).toNat then l0.a else l0.a.map (λx=>x.add ((IntKind.i64.wrap ((5:Int)+cv)).toNat * 1))) ((IntKind.i64.wrap ((IntKind.i64.wrap ((5:Int)+cv))+4)).toNat - (IntKind.i64.wrap ((5:Int)+cv)).toNat) (l0.cap - (IntKind.i64.wrap ((5:Int)+cv)).toNat)] w3 λe w5=>
 ∃fW:Int,e=.returned (.int .i64 fW)/\
 Calls prog 127 #[.slice (if l0.cap=0 then l0.a else l0.a.map (λx=>x.add (0 * 1))) ((IntKind.i64.wrap ((5:Int)+cv)).toNat - 0) (l0.cap - 0)] w5 λe w6=>
 ∃lc:Int,e=.returned (.int .i64 lc)/\
 Br (fW != lc) (
 zQc prog ds w6 λw7=>
 R (.returned (.tuple #[.int .u8 0,.slice none 0 0,.slice none 0 0,.bool false])) w7) (
 dwE w6 λw8=>
 ∃a9,l0.a=some a9/\0<=(0:Int)/\(0:Int)<(l0.len:Int)/\
 ∃lz,w8.cell? (a9.add ((0:Int).toNat * 1))=some (.int .u8 lz)/\
 0<=(IntKind.i64.wrap ((5:Int)+cv))/\(IntKind.i64.wrap ((5:Int)+cv)).toNat<=l0.cap/\0<=(5:Int)/\(5:Int).toNat<=(IntKind.i64.wrap ((5:Int)+cv)).toNat/\
 l0.len<=l0.cap/\0<=(IntKind.i64.wrap ((IntKind.i64.wrap ((5:Int)+cv))+4))/\(IntKind.i64.wrap ((IntKind.i64.wrap ((5:Int)+cv))+4)).toNat<=l0.len/\
 zQc prog ds w8 λaU=>
 R (.returned (.tuple #[.int .u8 lz,.slice (if l0.cap=(5:Int).toNat then l0.a else l0.a.map (λx=>x.add ((5:Int).toNat * 1))) ((IntKind.i64.wrap ((5:Int)+cv)).toNat - (5:Int).toNat) (l0.cap - (5:Int).toNat),.slice (if l0.cap=(IntKind.i64.wrap ((IntKind.i64.wrap ((5:Int)+cv))+4)).toNat then l0.a else l0.a.map (λx=>x.add ((IntKind.i64.wrap ((IntKind.i64.wrap ((5:Int)+cv))+4)).toNat * 1))) (l0.len - (IntKind.i64.wrap ((IntKind.i64.wrap ((5:Int)+cv))+4)).toNat) (l0.cap - (IntKind.i64.wrap ((IntKind.i64.wrap ((5:Int)+cv))+4)).toNat),.bool true])) aU)))
theorem F88_p:Pl prog f88 [lS 0] F88_1:=λR=>
 lf
theorem yVt (l0:SV) (w:World) (R:Rt) (h:F88_1 R l0 [] w):Calls prog 88 #[l0.v] w R:=
 plC F88_p func88 h
def xZH(R:Rt)(n0:Int)(l1:SV)(ds:Ds)(w:World):Prop:=
 ∃l9:SV,∃w1,(Instr.makeSlice 22 (.int .i64 (IntKind.i64.wrap ((5:Int)+(l1.len:Int)))) (.int .i64 (IntKind.i64.wrap ((5:Int)+(l1.len:Int))))).run prog w=.ok (l9.v) w1/\
 ∃a2,l9.a=some a2/\0<=(0:Int)/\(0:Int)<(l9.len:Int)/\
 st1 (a2.add ((0:Int).toNat * 1)) (.int .u8 n0) w1 λw3=>
 dwE w3 λw4=>
 0<=(5:Int)/\(5:Int).toNat<=l9.cap/\0<=(1:Int)/\(1:Int).toNat<=(5:Int).toNat/\
 Calls prog 143 #[.int .i64 (l1.len:Int),.int .i64 4] w4 λe w5=>
 ∃dd:SV,e=.returned (dd.v)/\
 ∃gO:Int,∃w6,(Builtin.copy_ #[22,22] 3 #[.slice (if l9.cap=(1:Int).toNat then l9.a else l9.a.map (λx=>x.add ((1:Int).toNat * 1))) ((5:Int).toNat - (1:Int).toNat) (l9.cap - (1:Int).toNat),dd.v]).run prog w5=.ok (.int .i64 gO) w6/\
 l9.len<=l9.cap/\0<=(5:Int)/\(5:Int).toNat<=l9.len/\
 ∃cq:Int,∃w7,(Builtin.copy_ #[22,22] 3 #[.slice (if l9.cap=(5:Int).toNat then l9.a else l9.a.map (λx=>x.add ((5:Int).toNat * 1))) (l9.len - (5:Int).toNat) (l9.cap - (5:Int).toNat),l1.v]).run prog w6=.ok (.int .i64 cq) w7/\
 Calls prog 127 #[l9.v] w7 λe w8=>
 ∃bF:Int,e=.returned (.int .i64 bF)/\
 Calls prog 143 #[.int .i64 bF,.int .i64 4] w8 λe w9=>
 ∃dI:SV,e=.returned (dI.v)/\
 ∃bG:SV,∃aU,(Builtin.append_ #[22,22] 22 #[l9.v,dI.v]).run prog w9=.ok (bG.v) aU/\
 zQc prog ds aU λaT=>
 R (.returned (bG.v)) aT
theorem F111_p:Pl prog f111 [kS .u8 0,lS 1] xZH:=λR=>
 lf
theorem yKh (n0:Int) (l1:SV) (w:World) (R:Rt) (h:xZH R n0 l1 [] w):Calls prog 111 #[.int .u8 n0,l1.v] w R:=
 plC F111_p func111 h
end Go.Proofs.YtaeecpjhfmcliaaGreatDoor
/- Shallow texts of functions, printed by program, each checked by the kernel against the loaded code. No condition. -/
namespace Go.Proofs.YtaeecpjhfmcliaaGreatDoor
open Go.Sh Tryz
def F46_1(R:Rt)(l3:SV)(ds:Ds)(w:World):Prop:=
 zQc prog ds w λw1=>
 R (.returned (l3.v)) w1
def xWy (R:Rt) (J1:(Int)->World->Prop) (l3 l7:SV) (n8 n9:Int) (ds:Ds) (w:World):Prop:=
 Br (decide (n9<n8)) (
 ∃a2,l7.a=some a2/\0<=n9/\n9<(l7.len:Int)/\
 ∃dN:SV,w.cell? (a2.add (n9.toNat * 1))=some (dN.v)/\
 ∃cJ:SV,∃w3,(Instr.makeSlice 22 (.int .i64 (dN.len:Int)) (.int .i64 (dN.len:Int))).run prog w=.ok (cJ.v) w3/\
 ∃a4,l3.a=some a4/\0<=n9/\n9<(l3.len:Int)/\
 st1 (a4.add (n9.toNat * 1)) (cJ.v) w3 λw5=>
 ∃a6,l3.a=some a6/\0<=n9/\n9<(l3.len:Int)/\
 ∃fC:SV,w5.cell? (a6.add (n9.toNat * 1))=some (fC.v)/\
 ∃bF:Int,∃w7,(Builtin.copy_ #[22,22] 3 #[fC.v,dN.v]).run prog w5=.ok (.int .i64 bF) w7/\
 J1 (IntKind.i64.wrap (n9+1)) w7) (
 F46_1 R l3 ds w)
def F46_3(R:Rt)(l3 l7:SV)(n8 n9:Int)(ds:Ds)(w:World):Prop:=
 zQD (λ(J1:(Int)->World->Prop) (s:Int) (w:World)=>xWy R J1 l3 l7 n8 s ds w) n9 w
def F46_5(R:Rt)(l0:SV)(ds:Ds)(w:World):Prop:=
 ∃l6:SV,∃w8,(Instr.makeSlice 83 (.int .i64 2) (.int .i64 2)).run prog w=.ok (l6.v) w8/\
 F46_3 R l6 l0 (l0.len:Int) 0 ds w8
theorem F46_p:Pl prog f46 [lS 0] F46_5:=λR=>
 pc 3 (rest [lS 3,lS 7,iS 8,iS 9] (F46_3 R) (bk 0 (rest [lS 3] (F46_1 R) lf) (lp [iS 9] [lS 3,lS 7,iS 8,iS 9] (xWy R) zXY λJ1=>lf)))
theorem yY3 (l0:SV) (w:World) (R:Rt) (h:F46_5 R l0 [] w):Calls prog 46 #[l0.v] w R:=
 plC F46_p func46 h
def F47_1 (R:Rt) (J1:(Bool × Bool × SV)->World->Prop) (l0:SV) (p2 p6:Option Addr) (b8 b9:Bool) (eN:SV) (ds:Ds) (w:World):Prop:=
 Calls prog 88 #[eN.v] w λe w1=>
 ∃cB:Int,∃fP:SV,∃il:SV,∃kx:Bool,e=.returned (.tuple #[.int .u8 cB,fP.v,il.v,.bool kx])/\
 Br (!kx) (
 dwE w1 λw2=>
 ∃S1:World->Prop,S1 w2/\
 zQg p6 λa3=>
 ∃eG,(∀w',S1 w'->w'.cell? (a3.add 0)=some (.int .i64 eG))/\
 ∃cm:SV,(∀w',S1 w'->w'.cell? (a3.add 1)=some (cm.v))/\
 ∃bv:SV,(∀w',S1 w'->w'.cell? (a3.add 2)=some (bv.v))/\
 ∃a4,l0.a=some a4/\0<=(1:Int)/\(1:Int)<(l0.len:Int)/\
 ∃ky:SV,(∀w',S1 w'->w'.cell? (a4.add ((1:Int).toNat * 1))=some (ky.v))/\
 zQg p2 λa5=>
 stA prog 35 a5 #[.int .i64 eG,cm.v,bv.v] w2 λw6=>
 S1 w6/\
 zQc prog ds w6 λw7=>
 zQg p2 λa8=>
 ∃ag,w7.cell? (a8.add 0)=some (.int .i64 ag)/\
 ∃ab:SV,w7.cell? (a8.add 1)=some (ab.v)/\
 ∃ae:SV,w7.cell? (a8.add 2)=some (ae.v)/\
 R (.returned (.tuple #[.agg #[.int .i64 ag,ab.v,ae.v],.int .i64 (IntKind.i64.wrap ((ky.len:Int) - (eN.len:Int))),.bool b9,.bool b8])) w7) (
 Br (cB == 119) (
 Calls prog 87 #[fP.v] w1 λe w9=>
 ∃lJ:Int,∃eO:SV,∃eP:SV,∃j8:Int,e=.returned (.tuple #[.agg #[.int .i64 lJ,eO.v,eP.v],.int .i64 j8])/\
 zQg p6 λeJ=>
 stA prog 35 eJ #[.int .i64 lJ,eO.v,eP.v] w9 λaT=>
 J1 ((j8 == 0),true,il) aT) (
 Br (cB != 99) (
 J1 (false,b9,il) w1) (
 Br b8 (
 zQg p6 λiR=>
 ∃cE,w1.cell? (iR.add 0)=some (.int .i64 cE)/\
 ∃dy:SV,w1.cell? (iR.add 1)=some (dy.v)/\
 ∃dz:SV,w1.cell? (iR.add 2)=some (dz.v)/\
 Calls prog 89 #[.agg #[.int .i64 cE,dy.v,dz.v],fP.v] w1 λe aK=>
 ∃lK:Int,∃eQ:SV,∃eR:SV,∃qp:Bool,e=.returned (.tuple #[.agg #[.int .i64 lK,eQ.v,eR.v],.bool qp])/\
 zQg p6 λft=>
 stA prog 35 ft #[.int .i64 lK,eQ.v,eR.v] aK λbC=>
 J1 (qp,b9,il) bC) (
 J1 (b8,b9,il) w1))))
def F47_2(R:Rt)(l0:SV)(p2 p6:Option Addr)(b8 b9:Bool)(eN:SV)(ds:Ds)(w:World):Prop:=
 zQD (λ(J1:(Bool × Bool × SV)->World->Prop) (s:Bool × Bool × SV) (w:World)=>F47_1 R J1 l0 p2 p6 s.1 s.2.1 s.2.2 ds w) (b8,b9,eN) w
def F47_4(R:Rt)(l0:SV)(ds:Ds)(w:World):Prop:=
 alE (.cells #[.int .i64 0,.slice none 0 0,.slice none 0 0] 35) w λr2 bT=>
 ∃nY,l0.a=some nY/\0<=(0:Int)/\(0:Int)<(l0.len:Int)/\
 ∃cJ:SV,bT.cell? (nY.add ((0:Int).toNat * 1))=some (cJ.v)/\
 Calls prog 87 #[cJ.v] bT λe cH=>
 ∃fQ:Int,∃bP:SV,∃bQ:SV,∃aY:Int,e=.returned (.tuple #[.agg #[.int .i64 fQ,bP.v,bQ.v],.int .i64 aY])/\
 alE (.cells #[.int .i64 0,.slice none 0 0,.slice none 0 0] 35) cH λr6 cR=>
 stA prog 35 (⟨r6,0,none⟩:Addr) #[.int .i64 fQ,bP.v,bQ.v] cR λcP=>
 ∃a21,l0.a=some a21/\0<=(1:Int)/\(1:Int)<(l0.len:Int)/\
 ∃dI:SV,cP.cell? (a21.add ((1:Int).toNat * 1))=some (dI.v)/\
 F47_2 R l0 (some (⟨r2,0,none⟩:Addr)) (some (⟨r6,0,none⟩:Addr)) (aY == 0) false dI ds cP
theorem F47_p:Pl prog f47 [lS 0] F47_4:=λR=>
 pc 4 (rest [lS 0,pS 2,pS 6,bS 8,bS 9,lS 10] (F47_2 R) (bk 0 zXY (lp [bS 8,bS 9,lS 10] [lS 0,pS 2,pS 6,bS 8,bS 9,lS 10] (F47_1 R) zXY λJ1=>lf)))
theorem yY2 (l0:SV) (w:World) (R:Rt) (h:F47_4 R l0 [] w):Calls prog 47 #[l0.v] w R:=
 plC F47_p func47 h
def F51_1(R:Rt)(l0:SV)(ds:Ds)(w:World):Prop:=
 alE (.cells #[.slice none 0 0,.slice none 0 0] 63) w λr2 w1=>
 Calls prog 46 #[l0.v] w1 λe w2=>
 ∃l5:SV,e=.returned (l5.v)/\
 dwE w2 λw3=>
 ∃a4,l5.a=some a4/\0<=(0:Int)/\(0:Int)<(l5.len:Int)/\
 ∃l8:SV,w3.cell? (a4.add ((0:Int).toNat * 1))=some (l8.v)/\
 ∃a5,l5.a=some a5/\0<=(1:Int)/\(1:Int)<(l5.len:Int)/\
 ∃bY:SV,w3.cell? (a5.add ((1:Int).toNat * 1))=some (bY.v)/\
 stA prog 63 (⟨r2,0,none⟩:Addr) #[l8.v,bY.v] w3 λw6=>
 zQc prog ds w6 λw7=>
 ∃jd:SV,w7.cell? ((⟨r2,0,none⟩:Addr).add 0)=some (jd.v)/\
 ∃ab:SV,w7.cell? ((⟨r2,0,none⟩:Addr).add 1)=some (ab.v)/\
 R (.returned (.agg #[jd.v,ab.v])) w7
theorem F51_p:Pl prog f51 [lS 0] F51_1:=λR=>
 lf
theorem yVy (l0:SV) (w:World) (R:Rt) (h:F51_1 R l0 [] w):Calls prog 51 #[l0.v] w R:=
 plC F51_p func51 h
end Go.Proofs.YtaeecpjhfmcliaaGreatDoor
/- Shallow texts of functions, printed by program, each checked by the kernel against the loaded code. No condition. -/
namespace Go.Proofs.YtaeecpjhfmcliaaGreatDoor
open Go.Sh Tryz
def F48_1(R:Rt)(l0:SV)(ds:Ds)(w:World):Prop:=
 Calls prog 47 #[l0.v] w λe w1=>
 ∃lL:Int,∃eV:SV,∃eW:SV,∃gD:Int,∃kz:Bool,∃uG:Bool,e=.returned (.tuple #[.agg #[.int .i64 lL,eV.v,eW.v],.int .i64 gD,.bool kz,.bool uG])/\
 alE (.cells #[.int .i64 0,.slice none 0 0,.slice none 0 0] 35) w1 λr3 w2=>
 stA prog 35 (⟨r3,0,none⟩:Addr) #[.int .i64 lL,eV.v,eW.v] w2 λw3=>
 ∃a4,l0.a=some a4/\0<=(1:Int)/\(1:Int)<(l0.len:Int)/\
 ∃dZ:SV,w3.cell? (a4.add ((1:Int).toNat * 1))=some (dZ.v)/\
 Br (decide (gD<(dZ.len:Int))) (
 alE (.cells #[.int .i64 1,.int .i64 gD,.slice none 0 0] 90) w3 λr26 w5=>
 ∃bG:SV,∃w6,(Builtin.append_ #[87,87] 87 #[.slice none 0 0,.slice (some ⟨r26,0,none⟩) 1 1]).run prog w5=.ok (bG.v) w6/\
 Br kz (
 ∃da,w6.cell? ((⟨r3,0,none⟩:Addr).add 0)=some (.int .i64 da)/\
 ∃ba:SV,w6.cell? ((⟨r3,0,none⟩:Addr).add 1)=some (ba.v)/\
 ∃be:SV,w6.cell? ((⟨r3,0,none⟩:Addr).add 2)=some (be.v)/\
 Calls prog 86 #[.agg #[.int .i64 da,ba.v,be.v]] w6 λe w7=>
 ∃cn:SV,∃d7:Int,e=.returned (.tuple #[cn.v,.int .i64 d7])/\
 alE (.cells #[.int .i64 0,.int .i64 0,.slice none 0 0,.int .i64 0,.int .i64 0,cn.v,.int .i64 1,.int .i64 0,.slice none 0 0] 90) w7 λuH w8=>
 ∃bB:SV,∃w9,(Builtin.append_ #[87,87] 87 #[bG.v,.slice (some ⟨uH,0,none⟩) 3 3]).run prog w8=.ok (bB.v) w9/\
 zQc prog ds w9 λaU=>
 R (.returned (bB.v)) aU) (
 zQc prog ds w6 λaT=>
 R (.returned (bG.v)) aT)) (
 Br kz (
 ∃da,w3.cell? ((⟨r3,0,none⟩:Addr).add 0)=some (.int .i64 da)/\
 ∃ba:SV,w3.cell? ((⟨r3,0,none⟩:Addr).add 1)=some (ba.v)/\
 ∃be:SV,w3.cell? ((⟨r3,0,none⟩:Addr).add 2)=some (be.v)/\
 Calls prog 86 #[.agg #[.int .i64 da,ba.v,be.v]] w3 λe aX=>
 ∃cn:SV,∃d7:Int,e=.returned (.tuple #[cn.v,.int .i64 d7])/\
 alE (.cells #[.int .i64 0,.int .i64 0,.slice none 0 0,.int .i64 0,.int .i64 0,cn.v,.int .i64 1,.int .i64 0,.slice none 0 0] 90) aX λuH aK=>
 ∃bB:SV,∃bH,(Builtin.append_ #[87,87] 87 #[.slice none 0 0,.slice (some ⟨uH,0,none⟩) 3 3]).run prog aK=.ok (bB.v) bH/\
 zQc prog ds bH λbC=>
 R (.returned (bB.v)) bC) (
 zQc prog ds w3 λbT=>
 R (.returned (.slice none 0 0)) bT))
theorem F48_p:Pl prog f48 [lS 0] F48_1:=λR=>
 lf
theorem yYf (l0:SV) (w:World) (R:Rt) (h:F48_1 R l0 [] w):Calls prog 48 #[l0.v] w R:=
 plC F48_p func48 h
def F49_1(R:Rt)(l0:SV)(bh bA:Int)(bJ:SV)(ds:Ds)(w:World):Prop:=
 alE (.cells #[.int .i64 bh,.int .i64 bA,bJ.v] 90) w λr3 w1=>
 dwE w1 λw2=>
 ∃S1:World->Prop,S1 w2/\
 ∃hH,(∀w',S1 w'->w'.cell? ((⟨r3,0,none⟩:Addr).add 0)=some (.int .i64 hH))/\
 ∃uI,(∀w',S1 w'->w'.cell? ((⟨r3,0,none⟩:Addr).add 1)=some (.int .i64 uI))/\
 ∃cw:SV,(∀w',S1 w'->w'.cell? ((⟨r3,0,none⟩:Addr).add 2)=some (cw.v))/\
 ∃dk,(∀w',S1 w'->w'.cell? ((⟨r3,0,none⟩:Addr).add 0)=some (.int .i64 dk))/\
 ∃dL,(∀w',S1 w'->w'.cell? ((⟨r3,0,none⟩:Addr).add 1)=some (.int .i64 dL))/\
 ∃bO:SV,(∀w',S1 w'->w'.cell? ((⟨r3,0,none⟩:Addr).add 2)=some (bO.v))/\
 Calls prog 90 #[.agg #[.int .i64 dk,.int .i64 dL,bO.v]] w2 λe w3=>
 ∃n8:Int,e=.returned (.int .i64 n8)/\
 S1 w3/\
 Calls prog 76 #[.agg #[.int .i64 hH,.int .i64 uI,cw.v],l0.v,.int .i64 n8] w3 λe w4=>
 ∃l9:SV,e=.returned (l9.v)/\
 zQc prog ds w4 λw5=>
 R (.returned (l9.v)) w5
theorem F49_p:Pl prog f49 [lS 0,aS 1 [.int .i64,.int .i64,.slice]] F49_1:=λR=>
 lf
theorem yV3 (l0:SV) (bh bA:Int) (bJ:SV) (w:World) (R:Rt) (h:F49_1 R l0 bh bA bJ [] w):Calls prog 49 #[l0.v,.agg #[.int .i64 bh,.int .i64 bA,bJ.v]] w R:=
 plC F49_p func49 h
end Go.Proofs.YtaeecpjhfmcliaaGreatDoor
/- Shallow texts of functions, printed by program, each checked by the kernel against the loaded code. No condition. -/
namespace Go.Proofs.YtaeecpjhfmcliaaGreatDoor
open Go.Sh Tryz
def xXL(R:Rt)(aF:Int)(aq ak l1:SV)(ds:Ds)(w:World):Prop:=
 alE (.cells #[.int .i64 aF,aq.v,ak.v] 35) w λr2 w1=>
 alE (.cells #[.bool false,.slice none 0 0] 67) w1 λr4 w2=>
 ∃bN:SV,w2.cell? ((⟨r2,0,none⟩:Addr).add 1)=some (bN.v)/\
 Calls prog 164 #[bN.v] w2 λe w3=>
 ∃lM:Bool,∃eX:SV,∃dX:Int,e=.returned (.tuple #[.agg #[.bool lM,eX.v],.int .i64 dX])/\
 alE (.cells #[.bool false,.slice none 0 0] 67) w3 λr6 w4=>
 stA prog 67 (⟨r6,0,none⟩:Addr) #[.bool lM,eX.v] w4 λw5=>
 ∃iQ,w5.cell? (⟨r2,0,none⟩:Addr)=some (.int .i64 iQ)/\
 ∃cI:SV,w5.cell? ((⟨r2,0,none⟩:Addr).add 1)=some (cI.v)/\
 ∃qq,w5.cell? ((⟨r6,0,none⟩:Addr).add 0)=some (.bool qq)/\
 ∃je:SV,w5.cell? ((⟨r6,0,none⟩:Addr).add 1)=some (je.v)/\
 alE (.cells #[.bool qq,je.v] 67) w5 λwP w6=>
 Calls prog 165 #[.agg #[.int .i64 iQ,cI.v,.slice (some ⟨wP,0,none⟩) 1 1]] w6 λe w7=>
 ∃jf:SV,∃fD:Int,e=.returned (.tuple #[jf.v,.int .i64 fD])/\
 ∃mB:SV,∃w8,(Builtin.append_ #[22,22] 22 #[jf.v,l1.v]).run prog w7=.ok (mB.v) w8/\
 alE (.cells #[.int .u8 26] 5) w8 λr33 w9=>
 ∃j0:SV,∃aU,(Builtin.append_ #[22,22] 22 #[mB.v,.slice (some ⟨r33,0,none⟩) 1 1]).run prog w9=.ok (j0.v) aU/\
 Calls prog 87 #[j0.v] aU λe aT=>
 ∃lN:Int,∃eY:SV,∃eZ:SV,∃qt:Int,e=.returned (.tuple #[.agg #[.int .i64 lN,eY.v,eZ.v],.int .i64 qt])/\
 alE (.cells #[.int .i64 0,.slice none 0 0,.slice none 0 0] 35) aT λcC aX=>
 stA prog 35 (⟨cC,0,none⟩:Addr) #[.int .i64 lN,eY.v,eZ.v] aX λaK=>
 Br (qt != 0) (
 stA prog 67 (⟨r4,0,none⟩:Addr) #[.bool false,.slice none 0 0] aK λbH=>
 zQc prog ds bH λbC=>
 ∃c8,bC.cell? ((⟨r4,0,none⟩:Addr).add 0)=some (.bool c8)/\
 ∃ab:SV,bC.cell? ((⟨r4,0,none⟩:Addr).add 1)=some (ab.v)/\
 R (.returned (.tuple #[.agg #[.bool c8,ab.v],.bool false])) bC) (
 ∃uJ:SV,aK.cell? ((⟨cC,0,none⟩:Addr).add 2)=some (uJ.v)/\
 ∃jX,uJ.a=some jX/\0<=(0:Int)/\(0:Int)<(uJ.len:Int)/\
 ∃kq,aK.cell? ((jX.add ((0:Int).toNat * 2)).add 0)=some (.bool kq)/\
 ∃dq:SV,aK.cell? ((jX.add ((0:Int).toNat * 2)).add 1)=some (dq.v)/\
 stA prog 67 (⟨r4,0,none⟩:Addr) #[.bool kq,dq.v] aK λbD=>
 zQc prog ds bD λcH=>
 ∃c8,cH.cell? ((⟨r4,0,none⟩:Addr).add 0)=some (.bool c8)/\
 ∃ab:SV,cH.cell? ((⟨r4,0,none⟩:Addr).add 1)=some (ab.v)/\
 R (.returned (.tuple #[.agg #[.bool c8,ab.v],.bool true])) cH)
theorem F129_p:Pl prog f129 [aS 0 [.int .i64,.slice,.slice],lS 1] xXL:=λR=>
 lf
theorem yKn (aF:Int) (aq ak l1:SV) (w:World) (R:Rt) (h:xXL R aF aq ak l1 [] w):Calls prog 129 #[.agg #[.int .i64 aF,aq.v,ak.v],l1.v] w R:=
 plC F129_p func129 h
def xK2(R:Rt)(l5:SV)(ds:Ds)(w:World):Prop:=
 zQc prog ds w λw1=>
 R (.returned (l5.v)) w1
def xZt (R:Rt) (J1:(SV × Int)->World->Prop) (p2:Option Addr) (l5 bN:SV) (iz n16:Int) (ds:Ds) (w:World):Prop:=
 Br (decide (n16<iz)) (
 ∃a2,bN.a=some a2/\0<=n16/\n16<(bN.len:Int)/\
 ∃jL,w.cell? (a2.add (n16.toNat * 1))=some (.int .i64 jL)/\
 zQg p2 λa3=>
 ∃cI:SV,w.cell? (a3.add 2)=some (cI.v)/\
 Br (decide (jL > (cI.len:Int))) (
 J1 (l5,(IntKind.i64.wrap (n16+1))) w) (
 zQg p2 λa4=>
 ∃ez,w.cell? (a4.add 0)=some (.int .i64 ez)/\
 ∃cg:SV,w.cell? (a4.add 1)=some (cg.v)/\
 ∃ci:SV,w.cell? (a4.add 2)=some (ci.v)/\
 Calls prog 144 #[.agg #[.int .i64 ez,cg.v,ci.v],.int .i64 jL] w λe w5=>
 ∃dA:SV,∃uK:Int,e=.returned (.tuple #[dA.v,.int .i64 uK])/\
 Calls prog 143 #[.int .i64 jL,.int .i64 2] w5 λe w6=>
 ∃gQ:SV,e=.returned (gQ.v)/\
 ∃j0:SV,∃w7,(Builtin.append_ #[22,22] 22 #[l5.v,gQ.v]).run prog w6=.ok (j0.v) w7/\
 ∃jP:SV,∃w8,(Builtin.append_ #[22,22] 22 #[j0.v,dA.v]).run prog w7=.ok (jP.v) w8/\
 J1 (jP,(IntKind.i64.wrap (n16+1))) w8)) (
 xK2 R l5 ds w)
def xJo(R:Rt)(p2:Option Addr)(l5 bN:SV)(iz n16:Int)(ds:Ds)(w:World):Prop:=
 zQD (λ(J1:(SV × Int)->World->Prop) (s:SV × Int) (w:World)=>xZt R J1 p2 s.1 bN iz s.2 ds w) (l5,n16) w
def xZ8(R:Rt)(aF:Int)(aq ak l1:SV)(ds:Ds)(w:World):Prop:=
 alE (.cells #[.int .i64 aF,aq.v,ak.v] 35) w λr2 w9=>
 ∃bY:SV,w9.cell? ((⟨r2,0,none⟩:Addr).add 2)=some (bY.v)/\
 Calls prog 143 #[.int .i64 (bY.len:Int),.int .i64 2] w9 λe aU=>
 ∃dN:SV,e=.returned (dN.v)/\
 xJo R (some (⟨r2,0,none⟩:Addr)) dN l1 (l1.len:Int) 0 ds aU
theorem F112_p:Pl prog f112 [aS 0 [.int .i64,.slice,.slice],lS 1] xZ8:=λR=>
 pc 3 (rest [pS 2,lS 5,lS 14,iS 15,iS 16] (xJo R) (bk 0 (rest [lS 5] (xK2 R) lf) (lp [lS 5,iS 16] [pS 2,lS 5,lS 14,iS 15,iS 16] (xZt R) zXY λJ1=>lf)))
theorem yJY (aF:Int) (aq ak l1:SV) (w:World) (R:Rt) (h:xZ8 R aF aq ak l1 [] w):Calls prog 112 #[.agg #[.int .i64 aF,aq.v,ak.v],l1.v] w R:=
 plC F112_p func112 h
end Go.Proofs.YtaeecpjhfmcliaaGreatDoor
/- Shallow texts of functions, printed by program, each checked by the kernel against the loaded code. No condition. -/
namespace Go.Proofs.YtaeecpjhfmcliaaGreatDoor
open Go.Sh Tryz
def F89_1(R:Rt)(p2 p4:Option Addr)(n8:Int)(ds:Ds)(w:World):Prop:=
 dwE w λw1=>
 ∃S1:World->Prop,S1 w1/\
 zQg p2 λa2=>
 ∃qu,(∀w',S1 w'->w'.cell? (a2.add 0)=some (.int .i64 qu))/\
 ∃jg:SV,(∀w',S1 w'->w'.cell? (a2.add 1)=some (jg.v))/\
 ∃jh:SV,(∀w',S1 w'->w'.cell? (a2.add 2)=some (jh.v))/\
 zQg p2 λa3=>
 ∃v7:SV,(∀w',S1 w'->w'.cell? (a3.add 2)=some (v7.v))/\
 zQg p4 λa4=>
 stA prog 35 a4 #[.int .i64 qu,jg.v,jh.v] w1 λw5=>
 S1 w5/\
 zQc prog ds w5 λw6=>
 zQg p4 λa7=>
 ∃ag,w6.cell? (a7.add 0)=some (.int .i64 ag)/\
 ∃ab:SV,w6.cell? (a7.add 1)=some (ab.v)/\
 ∃ae:SV,w6.cell? (a7.add 2)=some (ae.v)/\
 R (.returned (.tuple #[.agg #[.int .i64 ag,ab.v,ae.v],.bool ((v7.len:Int) == n8)])) w6
def zYc (R:Rt) (J1:(SV)->World->Prop) (p2 p4:Option Addr) (n6 n8:Int) (l9:SV) (ds:Ds) (w:World):Prop:=
 l9.len<=l9.cap/\0<=(IntKind.i64.wrap (n6+2))/\(IntKind.i64.wrap (n6+2)).toNat<=l9.len/\
 J1 ⟨(if l9.cap=(IntKind.i64.wrap (n6+2)).toNat then l9.a else l9.a.map (λx=>x.add ((IntKind.i64.wrap (n6+2)).toNat * 1))),(l9.len - (IntKind.i64.wrap (n6+2)).toNat),(l9.cap - (IntKind.i64.wrap (n6+2)).toNat)⟩ w
def F89_3 (R:Rt) (J1:(SV)->World->Prop) (p2 p4:Option Addr) (n6 n8:Int) (l9:SV) (ds:Ds) (w:World):Prop:=
 0<=(2:Int)/\(2:Int).toNat<=l9.cap/\0<=(2:Int).toNat/\
 Calls prog 126 #[.slice (if l9.cap=0 then l9.a else l9.a.map (λx=>x.add (0 * 1))) ((2:Int).toNat - 0) (l9.cap - 0)] w λe w8=>
 ∃ct:Int,e=.returned (.int .i64 ct)/\
 dwE w8 λw9=>
 ∃S2:World->Prop,S2 w9/\
 zQg p2 λeJ=>
 ∃iV,(∀w',S2 w'->w'.cell? (eJ.add 0)=some (.int .i64 iV))/\
 ∃fR:SV,(∀w',S2 w'->w'.cell? (eJ.add 1)=some (fR.v))/\
 ∃fS:SV,(∀w',S2 w'->w'.cell? (eJ.add 2)=some (fS.v))/\
 0<=(IntKind.i64.wrap (n6+2))/\(IntKind.i64.wrap (n6+2)).toNat<=l9.cap/\0<=(2:Int)/\(2:Int).toNat<=(IntKind.i64.wrap (n6+2)).toNat/\
 (
 Calls prog 129 #[.agg #[.int .i64 iV,fR.v,fS.v],.slice (if l9.cap=(2:Int).toNat then l9.a else l9.a.map (λx=>x.add ((2:Int).toNat * 1))) ((IntKind.i64.wrap (n6+2)).toNat - (2:Int).toNat) (l9.cap - (2:Int).toNat)] w9 λe aT=>
 ∃fT:Bool,∃bR:SV,∃im:Bool,e=.returned (.tuple #[.agg #[.bool fT,bR.v],.bool im])/\
 alE (.cells #[.bool false,.slice none 0 0] 67) aT λbU aX=>
 stA prog 67 (⟨bU,0,none⟩:Addr) #[.bool fT,bR.v] aX λaK=>
 Br (!im) (
 zQg p2 λft=>
 ∃aW,aK.cell? (ft.add 0)=some (.int .i64 aW)/\
 ∃au:SV,aK.cell? (ft.add 1)=some (au.v)/\
 ∃aw:SV,aK.cell? (ft.add 2)=some (aw.v)/\
 zQg p4 λkO=>
 stA prog 35 kO #[.int .i64 aW,au.v,aw.v] aK λbT=>
 zQc prog ds bT λbD=>
 zQg p4 λgn=>
 ∃ag,bD.cell? (gn.add 0)=some (.int .i64 ag)/\
 ∃ab:SV,bD.cell? (gn.add 1)=some (ab.v)/\
 ∃ae:SV,bD.cell? (gn.add 2)=some (ae.v)/\
 R (.returned (.tuple #[.agg #[.int .i64 ag,ab.v,ae.v],.bool false])) bD) (
 Br (decide (ct<1)) (
 zQg p2 λkP=>
 ∃aW,aK.cell? (kP.add 0)=some (.int .i64 aW)/\
 ∃au:SV,aK.cell? (kP.add 1)=some (au.v)/\
 ∃aw:SV,aK.cell? (kP.add 2)=some (aw.v)/\
 zQg p4 λa20=>
 stA prog 35 a20 #[.int .i64 aW,au.v,aw.v] aK λbX=>
 zQc prog ds bX λdQ=>
 zQg p4 λrJ=>
 ∃ag,dQ.cell? (rJ.add 0)=some (.int .i64 ag)/\
 ∃ab:SV,dQ.cell? (rJ.add 1)=some (ab.v)/\
 ∃ae:SV,dQ.cell? (rJ.add 2)=some (ae.v)/\
 R (.returned (.tuple #[.agg #[.int .i64 ag,ab.v,ae.v],.bool false])) dQ) (
 zQg p2 λrz=>
 ∃lO:SV,aK.cell? (rz.add 2)=some (lO.v)/\
 Br (decide (ct > (IntKind.i64.wrap ((lO.len:Int)+1)))) (
 zQg p2 λj3=>
 ∃aW,aK.cell? (j3.add 0)=some (.int .i64 aW)/\
 ∃au:SV,aK.cell? (j3.add 1)=some (au.v)/\
 ∃aw:SV,aK.cell? (j3.add 2)=some (aw.v)/\
 zQg p4 λuL=>
 stA prog 35 uL #[.int .i64 aW,au.v,aw.v] aK λgR=>
 zQc prog ds gR λdf=>
 zQg p4 λmZ=>
 ∃ag,df.cell? (mZ.add 0)=some (.int .i64 ag)/\
 ∃ab:SV,df.cell? (mZ.add 1)=some (ab.v)/\
 ∃ae:SV,df.cell? (mZ.add 2)=some (ae.v)/\
 R (.returned (.tuple #[.agg #[.int .i64 ag,ab.v,ae.v],.bool false])) df) (
 Br (decide (ct > 300)) (
 zQg p2 λkY=>
 ∃aW,aK.cell? (kY.add 0)=some (.int .i64 aW)/\
 ∃au:SV,aK.cell? (kY.add 1)=some (au.v)/\
 ∃aw:SV,aK.cell? (kY.add 2)=some (aw.v)/\
 zQg p4 λrm=>
 stA prog 35 rm #[.int .i64 aW,au.v,aw.v] aK λfY=>
 zQc prog ds fY λga=>
 zQg p4 λob=>
 ∃ag,ga.cell? (ob.add 0)=some (.int .i64 ag)/\
 ∃ab:SV,ga.cell? (ob.add 1)=some (ab.v)/\
 ∃ae:SV,ga.cell? (ob.add 2)=some (ae.v)/\
 R (.returned (.tuple #[.agg #[.int .i64 ag,ab.v,ae.v],.bool false])) ga) (
 zQg p2 λnO=>
 ∃f7:SV,aK.cell? (nO.add 2)=some (f7.v)/\
 Br (decide (ct > (f7.len:Int))) (
 zQg p2 λmz=>
 ∃ay:SV,aK.cell? (mz.add 2)=some (ay.v)/\
 ∃gG,aK.cell? ((⟨bU,0,none⟩:Addr).add 0)=some (.bool gG)/\
 ∃co:SV,aK.cell? ((⟨bU,0,none⟩:Addr).add 1)=some (co.v)/\
 alE (.cells #[.bool gG,co.v] 67) aK λbK nE=>
 ∃az:SV,∃kZ,(Builtin.append_ #[33,33] 33 #[ay.v,.slice (some ⟨bK,0,none⟩) 1 1]).run prog nE=.ok (az.v) kZ/\
 zQg p2 λyN=>
 st1 (yN.add 2) (az.v) kZ λnU=>
 zYc R J1 p2 p4 n6 n8 l9 ds nU) (
 zQg p2 λti=>
 ∃kA:SV,aK.cell? (ti.add 2)=some (kA.v)/\
 ∃gH,aK.cell? ((⟨bU,0,none⟩:Addr).add 0)=some (.bool gH)/\
 ∃cp:SV,aK.cell? ((⟨bU,0,none⟩:Addr).add 1)=some (cp.v)/\
 ∃nQ,kA.a=some nQ/\0<=(IntKind.i64.wrap (ct - 1))/\(IntKind.i64.wrap (ct - 1))<(kA.len:Int)/\
 stA prog 67 (nQ.add ((IntKind.i64.wrap (ct - 1)).toNat * 2)) #[.bool gH,cp.v] aK λmK=>
 zYc R J1 p2 p4 n6 n8 l9 ds mK))))))/\(
 alE (.cells #[.bool false,.slice none 0 0] 67) w9 λbU jJ=>
 S2 jJ/\
 Calls prog 129 #[.agg #[.int .i64 iV,fR.v,fS.v],.slice (if l9.cap=(2:Int).toNat then l9.a else l9.a.map (λx=>x.add ((2:Int).toNat * 1))) ((IntKind.i64.wrap (n6+2)).toNat - (2:Int).toNat) (l9.cap - (2:Int).toNat)] jJ λe rA=>
 ∃fT:Bool,∃bR:SV,∃im:Bool,e=.returned (.tuple #[.agg #[.bool fT,bR.v],.bool im])/\
 stA prog 67 (⟨bU,0,none⟩:Addr) #[.bool fT,bR.v] rA λeM=>
 Br (!im) (
 zQg p2 λtj=>
 ∃aW,eM.cell? (tj.add 0)=some (.int .i64 aW)/\
 ∃au:SV,eM.cell? (tj.add 1)=some (au.v)/\
 ∃aw:SV,eM.cell? (tj.add 2)=some (aw.v)/\
 zQg p4 λa48=>
 stA prog 35 a48 #[.int .i64 aW,au.v,aw.v] eM λss=>
 zQc prog ds ss λsF=>
 zQg p4 λa51=>
 ∃ag,sF.cell? (a51.add 0)=some (.int .i64 ag)/\
 ∃ab:SV,sF.cell? (a51.add 1)=some (ab.v)/\
 ∃ae:SV,sF.cell? (a51.add 2)=some (ae.v)/\
 R (.returned (.tuple #[.agg #[.int .i64 ag,ab.v,ae.v],.bool false])) sF) (
 Br (decide (ct<1)) (
 zQg p2 λrq=>
 ∃aW,eM.cell? (rq.add 0)=some (.int .i64 aW)/\
 ∃au:SV,eM.cell? (rq.add 1)=some (au.v)/\
 ∃aw:SV,eM.cell? (rq.add 2)=some (aw.v)/\
 zQg p4 λa53=>
 stA prog 35 a53 #[.int .i64 aW,au.v,aw.v] eM λsu=>
 zQc prog ds su λoc=>
 zQg p4 λtQ=>
 ∃ag,oc.cell? (tQ.add 0)=some (.int .i64 ag)/\
 ∃ab:SV,oc.cell? (tQ.add 1)=some (ab.v)/\
 ∃ae:SV,oc.cell? (tQ.add 2)=some (ae.v)/\
 R (.returned (.tuple #[.agg #[.int .i64 ag,ab.v,ae.v],.bool false])) oc) (
 zQg p2 λwV=>
 ∃lO:SV,eM.cell? (wV.add 2)=some (lO.v)/\
 Br (decide (ct > (IntKind.i64.wrap ((lO.len:Int)+1)))) (
 zQg p2 λyO=>
 ∃aW,eM.cell? (yO.add 0)=some (.int .i64 aW)/\
 ∃au:SV,eM.cell? (yO.add 1)=some (au.v)/\
 ∃aw:SV,eM.cell? (yO.add 2)=some (aw.v)/\
 zQg p4 λa59=>
 stA prog 35 a59 #[.int .i64 aW,au.v,aw.v] eM λlC=>
 zQc prog ds lC λmj=>
 zQg p4 λyP=>
 ∃ag,mj.cell? (yP.add 0)=some (.int .i64 ag)/\
 ∃ab:SV,mj.cell? (yP.add 1)=some (ab.v)/\
 ∃ae:SV,mj.cell? (yP.add 2)=some (ae.v)/\
 R (.returned (.tuple #[.agg #[.int .i64 ag,ab.v,ae.v],.bool false])) mj) (
 Br (decide (ct > 300)) (
 zQg p2 λyQ=>
 ∃aW,eM.cell? (yQ.add 0)=some (.int .i64 aW)/\
 ∃au:SV,eM.cell? (yQ.add 1)=some (au.v)/\
 ∃aw:SV,eM.cell? (yQ.add 2)=some (aw.v)/\
 zQg p4 λwW=>
 stA prog 35 wW #[.int .i64 aW,au.v,aw.v] eM λk8=>
 zQc prog ds k8 λlD=>
 zQg p4 λqa=>
 ∃ag,lD.cell? (qa.add 0)=some (.int .i64 ag)/\
 ∃ab:SV,lD.cell? (qa.add 1)=some (ab.v)/\
 ∃ae:SV,lD.cell? (qa.add 2)=some (ae.v)/\
 R (.returned (.tuple #[.agg #[.int .i64 ag,ab.v,ae.v],.bool false])) lD) (
 zQg p2 λa68=>
 ∃f7:SV,eM.cell? (a68.add 2)=some (f7.v)/\
 Br (decide (ct > (f7.len:Int))) (
 zQg p2 λwX=>
 ∃ay:SV,eM.cell? (wX.add 2)=some (ay.v)/\
 ∃gG,eM.cell? ((⟨bU,0,none⟩:Addr).add 0)=some (.bool gG)/\
 ∃co:SV,eM.cell? ((⟨bU,0,none⟩:Addr).add 1)=some (co.v)/\
 alE (.cells #[.bool gG,co.v] 67) eM λbK tm=>
 ∃az:SV,∃mA,(Builtin.append_ #[33,33] 33 #[ay.v,.slice (some ⟨bK,0,none⟩) 1 1]).run prog tm=.ok (az.v) mA/\
 zQg p2 λa72=>
 st1 (a72.add 2) (az.v) mA λoX=>
 zYc R J1 p2 p4 n6 n8 l9 ds oX) (
 zQg p2 λvZ=>
 ∃kA:SV,eM.cell? (vZ.add 2)=some (kA.v)/\
 ∃gH,eM.cell? ((⟨bU,0,none⟩:Addr).add 0)=some (.bool gH)/\
 ∃cp:SV,eM.cell? ((⟨bU,0,none⟩:Addr).add 1)=some (cp.v)/\
 ∃a75,kA.a=some a75/\0<=(IntKind.i64.wrap (ct - 1))/\(IntKind.i64.wrap (ct - 1))<(kA.len:Int)/\
 stA prog 67 (a75.add ((IntKind.i64.wrap (ct - 1)).toNat * 2)) #[.bool gH,cp.v] eM λkW=>
 zYc R J1 p2 p4 n6 n8 l9 ds kW))))))
def F89_4 (R:Rt) (J1:(SV)->World->Prop) (p2 p4:Option Addr) (n6 n8:Int) (l9:SV) (ds:Ds) (w:World):Prop:=
 Br (decide ((l9.len:Int) > 0)) (
 F89_3 R J1 p2 p4 n6 n8 l9 ds w) (
 F89_1 R p2 p4 n8 ds w)
def F89_5(R:Rt)(p2 p4:Option Addr)(n6 n8:Int)(l9:SV)(ds:Ds)(w:World):Prop:=
 zQD (λ(J1:(SV)->World->Prop) (s:SV) (w:World)=>F89_4 R J1 p2 p4 n6 n8 s ds w) l9 w
def F89_7(R:Rt)(aF:Int)(aq ak l1:SV)(ds:Ds)(w:World):Prop:=
 alE (.cells #[.int .i64 aF,aq.v,ak.v] 35) w λr2 sE=>
 alE (.cells #[.int .i64 0,.slice none 0 0,.slice none 0 0] 35) sE λr4 v6=>
 ∃de:SV,v6.cell? ((⟨r2,0,none⟩:Addr).add 1)=some (de.v)/\
 Calls prog 128 #[de.v] v6 λe mD=>
 ∃io:Int,∃uM:Int,e=.returned (.tuple #[.int .i64 io,.int .i64 uM])/\
 Br (decide ((l1.len:Int)<2)) (
 ∃cD,mD.cell? ((⟨r2,0,none⟩:Addr).add 0)=some (.int .i64 cD)/\
 ∃bw:SV,mD.cell? ((⟨r2,0,none⟩:Addr).add 1)=some (bw.v)/\
 ∃bx:SV,mD.cell? ((⟨r2,0,none⟩:Addr).add 2)=some (bx.v)/\
 stA prog 35 (⟨r4,0,none⟩:Addr) #[.int .i64 cD,bw.v,bx.v] mD λsI=>
 zQc prog ds sI λsG=>
 ∃ag,sG.cell? ((⟨r4,0,none⟩:Addr).add 0)=some (.int .i64 ag)/\
 ∃ab:SV,sG.cell? ((⟨r4,0,none⟩:Addr).add 1)=some (ab.v)/\
 ∃ae:SV,sG.cell? ((⟨r4,0,none⟩:Addr).add 2)=some (ae.v)/\
 R (.returned (.tuple #[.agg #[.int .i64 ag,ab.v,ae.v],.bool false])) sG) (
 IntKind.i64=IntKind.i64/\((IntKind.i64.wrap (io+2)):Int) ≠ 0/\
 Br (((IntKind.i64.wrap ((l1.len:Int) - 2)).tmod (IntKind.i64.wrap (io+2))) != 0) (
 ∃cD,mD.cell? ((⟨r2,0,none⟩:Addr).add 0)=some (.int .i64 cD)/\
 ∃bw:SV,mD.cell? ((⟨r2,0,none⟩:Addr).add 1)=some (bw.v)/\
 ∃bx:SV,mD.cell? ((⟨r2,0,none⟩:Addr).add 2)=some (bx.v)/\
 stA prog 35 (⟨r4,0,none⟩:Addr) #[.int .i64 cD,bw.v,bx.v] mD λw82=>
 zQc prog ds w82 λsH=>
 ∃ag,sH.cell? ((⟨r4,0,none⟩:Addr).add 0)=some (.int .i64 ag)/\
 ∃ab:SV,sH.cell? ((⟨r4,0,none⟩:Addr).add 1)=some (ab.v)/\
 ∃ae:SV,sH.cell? ((⟨r4,0,none⟩:Addr).add 2)=some (ae.v)/\
 R (.returned (.tuple #[.agg #[.int .i64 ag,ab.v,ae.v],.bool false])) sH) (
 0<=(2:Int)/\(2:Int).toNat<=l1.cap/\0<=(2:Int).toNat/\
 Calls prog 126 #[.slice (if l1.cap=0 then l1.a else l1.a.map (λx=>x.add (0 * 1))) ((2:Int).toNat - 0) (l1.cap - 0)] mD λe w84=>
 ∃qb:Int,e=.returned (.int .i64 qb)/\
 ∃qw,w84.cell? ((⟨r2,0,none⟩:Addr).add 0)=some (.int .i64 qw)/\
 ∃dm:SV,w84.cell? ((⟨r2,0,none⟩:Addr).add 1)=some (dm.v)/\
 ∃ji:SV,w84.cell? ((⟨r2,0,none⟩:Addr).add 2)=some (ji.v)/\
 Calls prog 56 #[.agg #[.int .i64 qw,dm.v,ji.v]] w84 λe w85=>
 ∃eG:Int,∃cm:SV,∃bv:SV,e=.returned (.agg #[.int .i64 eG,cm.v,bv.v])/\
 stA prog 35 (⟨r2,0,none⟩:Addr) #[.int .i64 eG,cm.v,bv.v] w85 λwY=>
 l1.len<=l1.cap/\0<=(2:Int)/\(2:Int).toNat<=l1.len/\
 F89_5 R (some (⟨r2,0,none⟩:Addr)) (some (⟨r4,0,none⟩:Addr)) io qb ⟨(if l1.cap=(2:Int).toNat then l1.a else l1.a.map (λx=>x.add ((2:Int).toNat * 1))),(l1.len - (2:Int).toNat),(l1.cap - (2:Int).toNat)⟩ ds wY))
theorem F89_p:Pl prog f89 [aS 0 [.int .i64,.slice,.slice],lS 1] F89_7:=λR=>
 pc 7 (rest [pS 2,pS 4,iS 6,iS 8,lS 9] (F89_5 R) (bk 0 (rest [pS 2,pS 4,iS 8] (F89_1 R) lf) (lp [lS 9] [pS 2,pS 4,iS 6,iS 8,lS 9] (F89_4 R) zXY λJ1=>pc 2 (rest [pS 2,pS 4,iS 6,iS 8,lS 9] (F89_3 R J1) (pc 1 (rest [pS 2,pS 4,iS 6,iS 8,lS 9] (zYc R J1) lf))))))
theorem yWG (aF:Int) (aq ak l1:SV) (w:World) (R:Rt) (h:F89_7 R aF aq ak l1 [] w):Calls prog 89 #[.agg #[.int .i64 aF,aq.v,ak.v],l1.v] w R:=
 plC F89_p func89 h
end Go.Proofs.YtaeecpjhfmcliaaGreatDoor
/- Shallow texts of functions, printed by program, each checked by the kernel against the loaded code. No condition. -/
namespace Go.Proofs.YtaeecpjhfmcliaaGreatDoor
open Go.Sh Tryz
def F95_1(R:Rt)(p0:Option Addr)(ds:Ds)(w:World):Prop:=
 zQg p0 λa1=>
 Calls prog 137 #[.pointer (some a1)] w λe w2=>
 e=.returned (.tuple #[])/\
 zQc prog ds w2 λw3=>
 R (.returned (.tuple #[])) w3
theorem F95_p:Pl prog f95 [pS 0] F95_1:=λR=>
 lf
theorem yYd (p0:Option Addr) (w:World) (R:Rt) (h:F95_1 R p0 [] w):Calls prog 95 #[.pointer p0] w R:=
 plC F95_p func95 h
def F96_1(R:Rt)(p0:Option Addr)(ds:Ds)(w:World):Prop:=
 zQg p0 λa1=>
 Calls prog 138 #[.pointer (some a1)] w λe w2=>
 e=.returned (.tuple #[])/\
 zQc prog ds w2 λw3=>
 R (.returned (.tuple #[])) w3
theorem F96_p:Pl prog f96 [pS 0] F96_1:=λR=>
 lf
theorem yKg (p0:Option Addr) (w:World) (R:Rt) (u:FrameMode) (h:F96_1 R p0 [] w):CallsD prog 96 #[.pointer p0] u w λe u' w'=>u'=u/\R e w':=
 plD F96_p func96 u h
def xZX(R:Rt)(p0:Option Addr)(ds:Ds)(w:World):Prop:=
 ∃w1,(callFunc 169 #[]).run prog w=.ok (.value (.tuple #[])) w1/\
 zQg p0 λa2=>
 ∃b6:Bool,∃w3,(callFunc 170 #[.pointer (some a2),.int .i32 0,.int .i32 1]).run prog w1=.ok (.value (.bool b6)) w3/\
 Br b6 (
 ∃w4,(callFunc 171 #[]).run prog w3=.ok (.value (.tuple #[])) w4/\
 ∃v9:Value,∃w5,(convert 197 201 (.pointer p0)).run prog w4=.ok (v9) w5/\
 ∃w6,(callFunc 172 #[v9]).run prog w5=.ok (.value (.tuple #[])) w6/\
 zQc prog ds w6 λw7=>
 R (.returned (.tuple #[])) w7) (
 Calls prog 173 #[.pointer p0] w3 λe w8=>
 e=.returned (.tuple #[])/\
 zQc prog ds w8 λw9=>
 R (.returned (.tuple #[])) w9)
theorem F137_p:Pl prog f137 [pS 0] xZX:=λR=>
 lf
theorem yKT (p0:Option Addr) (w:World) (R:Rt) (h:xZX R p0 [] w):Calls prog 137 #[.pointer p0] w R:=
 plC F137_p func137 h
def xJc(R:Rt)(p0:Option Addr)(ds:Ds)(w:World):Prop:=
 zQg p0 λa1=>
 ∃n6,w.cell? a1=some (.int .i32 n6)/\
 ∃v8:Value,∃w2,(convert 197 201 (.pointer p0)).run prog w=.ok (v8) w2/\
 ∃w3,(callFunc 174 #[v8]).run prog w2=.ok (.value (.tuple #[])) w3/\
 ∃w4,(callFunc 169 #[]).run prog w3=.ok (.value (.tuple #[])) w4/\
 zQg p0 λa5=>
 ∃nD:Int,∃w6,(callFunc 175 #[.pointer (some a5),.int .i32 (-1)]).run prog w4=.ok (.value (.int .i32 nD)) w6/\
 Br (nD != 0) (
 Calls prog 176 #[.pointer p0,.int .i32 nD] w6 λe w7=>
 e=.returned (.tuple #[])/\
 ∃w8,(callFunc 171 #[]).run prog w7=.ok (.value (.tuple #[])) w8/\
 zQc prog ds w8 λw9=>
 R (.returned (.tuple #[])) w9) (
 ∃aU,(callFunc 171 #[]).run prog w6=.ok (.value (.tuple #[])) aU/\
 zQc prog ds aU λaT=>
 R (.returned (.tuple #[])) aT)
theorem F138_p:Pl prog f138 [pS 0] xJc:=λR=>
 lf
theorem yJK (p0:Option Addr) (w:World) (R:Rt) (h:xJc R p0 [] w):Calls prog 138 #[.pointer p0] w R:=
 plC F138_p func138 h
def F55_1(R:Rt)(p0:Option Addr)(ds:Ds)(w:World):Prop:=
 ∃b5:Bool,∃w1,(eqS .eql 24 (.tmp 4) (.const (.pointer none)) (.pointer p0) (.pointer none)).run prog w=.ok (.bool b5) w1/\
 Br b5 (
 zQc prog ds w1 λw2=>
 R (.returned (.tuple #[.func (.func 94) #[] #[],.int .i64 9])) w2) (
 zQg p0 λa3=>
 Calls prog 95 #[.pointer (some a3)] w1 λe w4=>
 e=.returned (.tuple #[])/\
 zQg p0 λa5=>
 zQc prog ds w4 λw6=>
 R (.returned (.tuple #[.func (.func 96) #[.pointer (some a5)] #[],.int .i64 0])) w6)
theorem F55_p:Pl prog f55 [pS 0] F55_1:=λR=>
 lf
theorem yYn (p0:Option Addr) (w:World) (R:Rt) (h:F55_1 R p0 [] w):Calls prog 55 #[.pointer p0] w R:=
 plC F55_p func55 h
end Go.Proofs.YtaeecpjhfmcliaaGreatDoor
/- Shallow texts of functions, printed by program, each checked by the kernel against the loaded code. No condition. -/
namespace Go.Proofs.YtaeecpjhfmcliaaGreatDoor
open Go.Sh Tryz
def F11_1(R:Rt)(l6:SV)(p7:Option Addr)(ds:Ds)(w:World):Prop:=
 zQg p7 λa1=>
 ∃gu,w.cell? (a1.add 0)=some (.int .i64 gu)/\
 ∃dB:SV,w.cell? (a1.add 1)=some (dB.v)/\
 ∃dC:SV,w.cell? (a1.add 2)=some (dC.v)/\
 Calls prog 50 #[.agg #[.int .i64 gu,dB.v,dC.v],l6.v] w λe w2=>
 ∃p39:Option Addr,e=.returned (.pointer p39)/\
 zQc prog ds w2 λw3=>
 R (.returned (.tuple #[.pointer p39,.int .i64 0])) w3
def F11_2 (R:Rt) (J1:(SV × Int)->World->Prop) (l6:SV) (p7:Option Addr) (bG:SV) (my kX:Int) (ds:Ds) (w:World):Prop:=
 Br (decide (kX<my)) (
 ∃a4,bG.a=some a4/\0<=kX/\kX<(bG.len:Int)/\
 ∃gB,w.cell? ((a4.add (kX.toNat * 3)).add 0)=some (.int .i64 gB)/\
 ∃kb,w.cell? ((a4.add (kX.toNat * 3)).add 1)=some (.int .i64 kb)/\
 ∃dD:SV,w.cell? ((a4.add (kX.toNat * 3)).add 2)=some (dD.v)/\
 alE (.cells #[.int .i64 0,.int .i64 0,.slice none 0 0] 90) w λjW w5=>
 stA prog 90 (⟨jW,0,none⟩:Addr) #[.int .i64 gB,.int .i64 kb,dD.v] w5 λw6=>
 ∃qx,w6.cell? ((⟨jW,0,none⟩:Addr).add 0)=some (.int .i64 qx)/\
 ∃kv,w6.cell? ((⟨jW,0,none⟩:Addr).add 1)=some (.int .i64 kv)/\
 ∃jj:SV,w6.cell? ((⟨jW,0,none⟩:Addr).add 2)=some (jj.v)/\
 Calls prog 49 #[l6.v,.agg #[.int .i64 qx,.int .i64 kv,jj.v]] w6 λe w7=>
 ∃iC:SV,e=.returned (iC.v)/\
 J1 (iC,(IntKind.i64.wrap (kX+1))) w7) (
 F11_1 R l6 p7 ds w)
def F11_3(R:Rt)(l6:SV)(p7:Option Addr)(bG:SV)(my kX:Int)(ds:Ds)(w:World):Prop:=
 zQD (λ(J1:(SV × Int)->World->Prop) (s:SV × Int) (w:World)=>F11_2 R J1 s.1 p7 bG my s.2 ds w) (l6,kX) w
def F11_5(R:Rt)(l0 l1:SV)(ds:Ds)(w:World):Prop:=
 alE (.cells #[l0.v,l1.v] 22) w λyR w8=>
 Calls prog 46 #[.slice (some ⟨yR,0,none⟩) 2 2] w8 λe w9=>
 ∃lq:SV,e=.returned (lq.v)/\
 Calls prog 47 #[lq.v] w9 λe aU=>
 ∃fQ:Int,∃bP:SV,∃bQ:SV,∃aY:Int,∃uN:Bool,∃dW:Bool,e=.returned (.tuple #[.agg #[.int .i64 fQ,bP.v,bQ.v],.int .i64 aY,.bool uN,.bool dW])/\
 alE (.cells #[.int .i64 0,.slice none 0 0,.slice none 0 0] 35) aU λr7 aT=>
 stA prog 35 (⟨r7,0,none⟩:Addr) #[.int .i64 fQ,bP.v,bQ.v] aT λaX=>
 Br (!dW) (
 zQc prog ds aX λaK=>
 R (.returned (.tuple #[.pointer none,.int .i64 11])) aK) (
 Calls prog 48 #[lq.v] aX λe bH=>
 ∃bG:SV,e=.returned (bG.v)/\
 F11_3 R lq (some (⟨r7,0,none⟩:Addr)) bG (bG.len:Int) 0 ds bH)
theorem F11_p:Pl prog f11 [lS 0,lS 1] F11_5:=λR=>
 pc 6 (rest [lS 6,pS 7,lS 27,iS 28,iS 29] (F11_3 R) (bk 0 (rest [lS 6,pS 7] (F11_1 R) lf) (lp [lS 6,iS 29] [lS 6,pS 7,lS 27,iS 28,iS 29] (F11_2 R) zXY λJ1=>lf)))
theorem yY8 (l0 l1:SV) (w:World) (R:Rt) (h:F11_5 R l0 l1 [] w):Calls prog 11 #[l0.v,l1.v] w R:=
 plC F11_p func11 h
def F12_1(R:Rt)(bY:SV)(ds:Ds)(w:World):Prop:=
 zQc prog ds w λw1=>
 R (.returned (.tuple #[bY.v,.int .i64 0])) w1
def F12_2 (R:Rt) (J1:(SV × SV × Int)->World->Prop) (l6 bY fL:SV) (lc iw:Int) (ds:Ds) (w:World):Prop:=
 Br (decide (iw<lc)) (
 ∃a2,fL.a=some a2/\0<=iw/\iw<(fL.len:Int)/\
 ∃eG,w.cell? ((a2.add (iw.toNat * 3)).add 0)=some (.int .i64 eG)/\
 ∃j7,w.cell? ((a2.add (iw.toNat * 3)).add 1)=some (.int .i64 j7)/\
 ∃bv:SV,w.cell? ((a2.add (iw.toNat * 3)).add 2)=some (bv.v)/\
 alE (.cells #[.int .i64 0,.int .i64 0,.slice none 0 0] 90) w λoZ w3=>
 stA prog 90 (⟨oZ,0,none⟩:Addr) #[.int .i64 eG,.int .i64 j7,bv.v] w3 λw4=>
 ∃qy,w4.cell? ((⟨oZ,0,none⟩:Addr).add 0)=some (.int .i64 qy)/\
 ∃qz,w4.cell? ((⟨oZ,0,none⟩:Addr).add 1)=some (.int .i64 qz)/\
 ∃jk:SV,w4.cell? ((⟨oZ,0,none⟩:Addr).add 2)=some (jk.v)/\
 Calls prog 49 #[l6.v,.agg #[.int .i64 qy,.int .i64 qz,jk.v]] w4 λe w5=>
 ∃ky:SV,e=.returned (ky.v)/\
 Calls prog 51 #[ky.v] w5 λe w6=>
 ∃jl:SV,∃jm:SV,e=.returned (.agg #[jl.v,jm.v])/\
 alE (.cells #[jl.v,jm.v] 63) w6 λr43 w7=>
 ∃wi:SV,∃w8,(Builtin.append_ #[28,28] 28 #[bY.v,.slice (some ⟨r43,0,none⟩) 1 1]).run prog w7=.ok (wi.v) w8/\
 J1 (ky,wi,(IntKind.i64.wrap (iw+1))) w8) (
 F12_1 R bY ds w)
def F12_3(R:Rt)(l6 bY fL:SV)(lc iw:Int)(ds:Ds)(w:World):Prop:=
 zQD (λ(J1:(SV × SV × Int)->World->Prop) (s:SV × SV × Int) (w:World)=>F12_2 R J1 s.1 s.2.1 fL lc s.2.2 ds w) (l6,bY,iw) w
def F12_5(R:Rt)(l0 l1:SV)(ds:Ds)(w:World):Prop:=
 alE (.cells #[l0.v,l1.v] 22) w λyS w9=>
 Calls prog 46 #[.slice (some ⟨yS,0,none⟩) 2 2] w9 λe aU=>
 ∃dd:SV,e=.returned (dd.v)/\
 Calls prog 47 #[dd.v] aU λe aT=>
 ∃lP:Int,∃e7:SV,∃fe:SV,∃cL:Int,∃uO:Bool,∃ko:Bool,e=.returned (.tuple #[.agg #[.int .i64 lP,e7.v,fe.v],.int .i64 cL,.bool uO,.bool ko])/\
 alE (.cells #[.int .i64 0,.slice none 0 0,.slice none 0 0] 35) aT λr7 aX=>
 stA prog 35 (⟨r7,0,none⟩:Addr) #[.int .i64 lP,e7.v,fe.v] aX λaK=>
 Br (!ko) (
 zQc prog ds aK λbH=>
 R (.returned (.tuple #[.slice none 0 0,.int .i64 11])) bH) (
 Calls prog 51 #[dd.v] aK λe bC=>
 ∃dA:SV,∃bp:SV,e=.returned (.agg #[dA.v,bp.v])/\
 alE (.cells #[dA.v,bp.v] 63) bC λr29 bT=>
 Calls prog 48 #[dd.v] bT λe bD=>
 ∃fL:SV,e=.returned (fL.v)/\
 F12_3 R dd ⟨(some ⟨r29,0,none⟩),1,1⟩ fL (fL.len:Int) 0 ds bD)
theorem F12_p:Pl prog f12 [lS 0,lS 1] F12_5:=λR=>
 pc 7 (rest [lS 6,lS 11,lS 31,iS 32,iS 33] (F12_3 R) (bk 0 (rest [lS 11] (F12_1 R) lf) (lp [lS 6,lS 11,iS 33] [lS 6,lS 11,lS 31,iS 32,iS 33] (F12_2 R) zXY λJ1=>lf)))
theorem yVq (l0 l1:SV) (w:World) (R:Rt) (h:F12_5 R l0 l1 [] w):Calls prog 12 #[l0.v,l1.v] w R:=
 plC F12_p func12 h
def F50_1(R:Rt)(aF:Int)(aq ak l1:SV)(ds:Ds)(w:World):Prop:=
 alE (.cells #[.int .i64 aF,aq.v,ak.v] 35) w λr2 w1=>
 dwE w1 λw2=>
 ∃S1:World->Prop,S1 w2/\
 ∃hH,(∀w',S1 w'->w'.cell? ((⟨r2,0,none⟩:Addr).add 0)=some (.int .i64 hH))/\
 ∃dp:SV,(∀w',S1 w'->w'.cell? ((⟨r2,0,none⟩:Addr).add 1)=some (dp.v))/\
 ∃cw:SV,(∀w',S1 w'->w'.cell? ((⟨r2,0,none⟩:Addr).add 2)=some (cw.v))/\
 ∃dk,(∀w',S1 w'->w'.cell? ((⟨r2,0,none⟩:Addr).add 0)=some (.int .i64 dk))/\
 ∃cx:SV,(∀w',S1 w'->w'.cell? ((⟨r2,0,none⟩:Addr).add 1)=some (cx.v))/\
 ∃bO:SV,(∀w',S1 w'->w'.cell? ((⟨r2,0,none⟩:Addr).add 2)=some (bO.v))/\
 Calls prog 56 #[.agg #[.int .i64 hH,dp.v,cw.v]] w2 λe w3=>
 ∃mT:Int,∃gd:SV,∃gf:SV,e=.returned (.agg #[.int .i64 mT,gd.v,gf.v])/\
 S1 w3/\
 Calls prog 56 #[.agg #[.int .i64 dk,cx.v,bO.v]] w3 λe w4=>
 ∃mU:Int,∃mn:SV,∃mo:SV,e=.returned (.agg #[.int .i64 mU,mn.v,mo.v])/\
 alE (.cells #[.int .i64 mU,mn.v,mo.v] 35) w4 λr9 w5=>
 alE (.cells #[.int .i32 0,.int .u32 0,.int .i64 mT,gd.v,gf.v,.slice none 0 0,.slice (some ⟨r9,0,none⟩) 1 1,l1.v,l1.v,.slice none 0 0,.slice none 0 0] 108) w5 λoZ w6=>
 zQc prog ds w6 λw7=>
 R (.returned (.pointer (some (⟨oZ,0,none⟩:Addr)))) w7
theorem F50_p:Pl prog f50 [aS 0 [.int .i64,.slice,.slice],lS 1] F50_1:=λR=>
 lf
theorem yYu (aF:Int) (aq ak l1:SV) (w:World) (R:Rt) (h:F50_1 R aF aq ak l1 [] w):Calls prog 50 #[.agg #[.int .i64 aF,aq.v,ak.v],l1.v] w R:=
 plC F50_p func50 h
end Go.Proofs.YtaeecpjhfmcliaaGreatDoor
/- Shallow texts of functions, printed by program, each checked by the kernel against the loaded code. No condition. -/
namespace Go.Proofs.YtaeecpjhfmcliaaGreatDoor
open Go.Sh Tryz
def F43_1(R:Rt)(aF:Int)(aq ak:SV)(ds:Ds)(w:World):Prop:=
 alE (.cells #[.int .i64 aF,aq.v,ak.v] 35) w λr1 w1=>
 ∃dk,w1.cell? ((⟨r1,0,none⟩:Addr).add 0)=some (.int .i64 dk)/\
 ∃cx:SV,w1.cell? ((⟨r1,0,none⟩:Addr).add 1)=some (cx.v)/\
 ∃bO:SV,w1.cell? ((⟨r1,0,none⟩:Addr).add 2)=some (bO.v)/\
 Calls prog 86 #[.agg #[.int .i64 dk,cx.v,bO.v]] w1 λe w2=>
 ∃mp:SV,∃iL:Int,e=.returned (.tuple #[mp.v,.int .i64 iL])/\
 Br (iL != 0) (
 zQc prog ds w2 λw3=>
 R (.returned (.tuple #[.pointer none,.int .i64 iL])) w3) (
 ∃kr,w2.cell? ((⟨r1,0,none⟩:Addr).add 0)=some (.int .i64 kr)/\
 ∃cc:SV,w2.cell? ((⟨r1,0,none⟩:Addr).add 1)=some (cc.v)/\
 ∃dr:SV,w2.cell? ((⟨r1,0,none⟩:Addr).add 2)=some (dr.v)/\
 alE (.cells #[mp.v,.slice none 0 0] 22) w2 λyS w4=>
 Calls prog 50 #[.agg #[.int .i64 kr,cc.v,dr.v],.slice (some ⟨yS,0,none⟩) 2 2] w4 λe w5=>
 ∃p17:Option Addr,e=.returned (.pointer p17)/\
 zQc prog ds w5 λw6=>
 R (.returned (.tuple #[.pointer p17,.int .i64 0])) w6)
theorem F43_p:Pl prog f43 [aS 0 [.int .i64,.slice,.slice]] F43_1:=λR=>
 lf
theorem yY0 (aF:Int) (aq ak:SV) (w:World) (R:Rt) (h:F43_1 R aF aq ak [] w):Calls prog 43 #[.agg #[.int .i64 aF,aq.v,ak.v]] w R:=
 plC F43_p func43 h
end Go.Proofs.YtaeecpjhfmcliaaGreatDoor
/- Shallow texts of functions, printed by program, each checked by the kernel against the loaded code. No condition. -/
namespace Go.Proofs.YtaeecpjhfmcliaaGreatDoor
open Go.Sh Tryz
def F14_1(R:Rt)(p0:Option Addr)(ds:Ds)(w:World):Prop:=
 alE (.cells #[.int .i64 0,.slice none 0 0,.slice none 0 0] 35) w λr2 w1=>
 Calls prog 55 #[.pointer p0] w1 λe w2=>
 ∃kB:Value,∃dL:Int,e=.returned (.tuple #[kB,.int .i64 dL])/\
 fnE kB λfx firstx capx=>
 Br (dL != 0) (
 stA prog 35 (⟨r2,0,none⟩:Addr) #[.int .i64 0,.slice none 0 0,.slice none 0 0] w2 λw3=>
 zQc prog ({ target:=.fn (.func fx) capx,args:=(firstx.toList ++ ([]:List Value)).toArray } :: ds) w3 λw4=>
 ∃ag,w4.cell? ((⟨r2,0,none⟩:Addr).add 0)=some (.int .i64 ag)/\
 ∃ab:SV,w4.cell? ((⟨r2,0,none⟩:Addr).add 1)=some (ab.v)/\
 ∃ae:SV,w4.cell? ((⟨r2,0,none⟩:Addr).add 2)=some (ae.v)/\
 R (.returned (.agg #[.int .i64 ag,ab.v,ae.v])) w4) (
 zQg p0 λa5=>
 ∃qA,w2.cell? ((a5.add 2).add 0)=some (.int .i64 qA)/\
 ∃jn:SV,w2.cell? ((a5.add 2).add 1)=some (jn.v)/\
 ∃jo:SV,w2.cell? ((a5.add 2).add 2)=some (jo.v)/\
 Calls prog 56 #[.agg #[.int .i64 qA,jn.v,jo.v]] w2 λe w6=>
 ∃kC:Int,∃ce:SV,∃dE:SV,e=.returned (.agg #[.int .i64 kC,ce.v,dE.v])/\
 stA prog 35 (⟨r2,0,none⟩:Addr) #[.int .i64 kC,ce.v,dE.v] w6 λw7=>
 zQc prog ({ target:=.fn (.func fx) capx,args:=(firstx.toList ++ ([]:List Value)).toArray } :: ds) w7 λw8=>
 ∃ag,w8.cell? ((⟨r2,0,none⟩:Addr).add 0)=some (.int .i64 ag)/\
 ∃ab:SV,w8.cell? ((⟨r2,0,none⟩:Addr).add 1)=some (ab.v)/\
 ∃ae:SV,w8.cell? ((⟨r2,0,none⟩:Addr).add 2)=some (ae.v)/\
 R (.returned (.agg #[.int .i64 ag,ab.v,ae.v])) w8)
theorem F14_p:Pl prog f14 [pS 0] F14_1:=λR=>
 lf
theorem yVz (p0:Option Addr) (w:World) (R:Rt) (h:F14_1 R p0 [] w):Calls prog 14 #[.pointer p0] w R:=
 plC F14_p func14 h
def F27_1(R:Rt)(p0:Option Addr)(n1:Int)(ds:Ds)(w:World):Prop:=
 alE (.cells #[.int .i64 0,.slice none 0 0,.slice none 0 0] 35) w λr4 w1=>
 Calls prog 55 #[.pointer p0] w1 λe w2=>
 ∃qB:Value,∃gm:Int,e=.returned (.tuple #[qB,.int .i64 gm])/\
 fnE qB λfx firstx capx=>
 Br (gm != 0) (
 stA prog 35 (⟨r4,0,none⟩:Addr) #[.int .i64 0,.slice none 0 0,.slice none 0 0] w2 λw3=>
 zQc prog ({ target:=.fn (.func fx) capx,args:=(firstx.toList ++ ([]:List Value)).toArray } :: ds) w3 λw4=>
 ∃ag,w4.cell? ((⟨r4,0,none⟩:Addr).add 0)=some (.int .i64 ag)/\
 ∃ab:SV,w4.cell? ((⟨r4,0,none⟩:Addr).add 1)=some (ab.v)/\
 ∃ae:SV,w4.cell? ((⟨r4,0,none⟩:Addr).add 2)=some (ae.v)/\
 R (.returned (.tuple #[.agg #[.int .i64 ag,ab.v,ae.v],.int .i64 gm])) w4) (
 Br (decide (n1<0)) (
 stA prog 35 (⟨r4,0,none⟩:Addr) #[.int .i64 0,.slice none 0 0,.slice none 0 0] w2 λw5=>
 zQc prog ({ target:=.fn (.func fx) capx,args:=(firstx.toList ++ ([]:List Value)).toArray } :: ds) w5 λw6=>
 ∃ag,w6.cell? ((⟨r4,0,none⟩:Addr).add 0)=some (.int .i64 ag)/\
 ∃ab:SV,w6.cell? ((⟨r4,0,none⟩:Addr).add 1)=some (ab.v)/\
 ∃ae:SV,w6.cell? ((⟨r4,0,none⟩:Addr).add 2)=some (ae.v)/\
 R (.returned (.tuple #[.agg #[.int .i64 ag,ab.v,ae.v],.int .i64 1])) w6) (
 zQg p0 λa7=>
 ∃cZ:SV,w2.cell? (a7.add 6)=some (cZ.v)/\
 Br (decide (n1 >= (cZ.len:Int))) (
 stA prog 35 (⟨r4,0,none⟩:Addr) #[.int .i64 0,.slice none 0 0,.slice none 0 0] w2 λw8=>
 zQc prog ({ target:=.fn (.func fx) capx,args:=(firstx.toList ++ ([]:List Value)).toArray } :: ds) w8 λw9=>
 ∃ag,w9.cell? ((⟨r4,0,none⟩:Addr).add 0)=some (.int .i64 ag)/\
 ∃ab:SV,w9.cell? ((⟨r4,0,none⟩:Addr).add 1)=some (ab.v)/\
 ∃ae:SV,w9.cell? ((⟨r4,0,none⟩:Addr).add 2)=some (ae.v)/\
 R (.returned (.tuple #[.agg #[.int .i64 ag,ab.v,ae.v],.int .i64 1])) w9) (
 zQg p0 λeJ=>
 ∃gQ:SV,w2.cell? (eJ.add 6)=some (gQ.v)/\
 ∃eL,gQ.a=some eL/\0<=n1/\n1<(gQ.len:Int)/\
 ∃eG,w2.cell? ((eL.add (n1.toNat * 3)).add 0)=some (.int .i64 eG)/\
 ∃cm:SV,w2.cell? ((eL.add (n1.toNat * 3)).add 1)=some (cm.v)/\
 ∃bv:SV,w2.cell? ((eL.add (n1.toNat * 3)).add 2)=some (bv.v)/\
 Calls prog 56 #[.agg #[.int .i64 eG,cm.v,bv.v]] w2 λe aX=>
 ∃gu:Int,∃dB:SV,∃dC:SV,e=.returned (.agg #[.int .i64 gu,dB.v,dC.v])/\
 stA prog 35 (⟨r4,0,none⟩:Addr) #[.int .i64 gu,dB.v,dC.v] aX λaK=>
 zQc prog ({ target:=.fn (.func fx) capx,args:=(firstx.toList ++ ([]:List Value)).toArray } :: ds) aK λbH=>
 ∃ag,bH.cell? ((⟨r4,0,none⟩:Addr).add 0)=some (.int .i64 ag)/\
 ∃ab:SV,bH.cell? ((⟨r4,0,none⟩:Addr).add 1)=some (ab.v)/\
 ∃ae:SV,bH.cell? ((⟨r4,0,none⟩:Addr).add 2)=some (ae.v)/\
 R (.returned (.tuple #[.agg #[.int .i64 ag,ab.v,ae.v],.int .i64 0])) bH)))
theorem F27_p:Pl prog f27 [pS 0,iS 1] F27_1:=λR=>
 lf
theorem yVN (p0:Option Addr) (n1:Int) (w:World) (R:Rt) (h:F27_1 R p0 n1 [] w):Calls prog 27 #[.pointer p0,.int .i64 n1] w R:=
 plC F27_p func27 h
def F22_1(R:Rt)(p0:Option Addr)(ds:Ds)(w:World):Prop:=
 Calls prog 55 #[.pointer p0] w λe w1=>
 ∃kB:Value,∃dL:Int,e=.returned (.tuple #[kB,.int .i64 dL])/\
 fnE kB λfx firstx capx=>
 Br (dL != 0) (
 zQc prog ({ target:=.fn (.func fx) capx,args:=(firstx.toList ++ ([]:List Value)).toArray } :: ds) w1 λw2=>
 R (.returned (.int .i64 0)) w2) (
 zQg p0 λa3=>
 ∃lq:SV,w1.cell? (a3.add 6)=some (lq.v)/\
 zQc prog ({ target:=.fn (.func fx) capx,args:=(firstx.toList ++ ([]:List Value)).toArray } :: ds) w1 λw4=>
 R (.returned (.int .i64 (IntKind.i64.wrap ((lq.len:Int) - 1)))) w4)
theorem F22_p:Pl prog f22 [pS 0] F22_1:=λR=>
 lf
theorem yVf (p0:Option Addr) (w:World) (R:Rt) (h:F22_1 R p0 [] w):Calls prog 22 #[.pointer p0] w R:=
 plC F22_p func22 h
end Go.Proofs.YtaeecpjhfmcliaaGreatDoor
/- Shallow texts of functions, printed by program, each checked by the kernel against the loaded code. No condition. -/
namespace Go.Proofs.YtaeecpjhfmcliaaGreatDoor
open Go.Sh Tryz
def F35_1(R:Rt)(p0:Option Addr)(ds:Ds)(w:World):Prop:=
 Calls prog 55 #[.pointer p0] w λe w1=>
 ∃kB:Value,∃dL:Int,e=.returned (.tuple #[kB,.int .i64 dL])/\
 fnE kB λfx firstx capx=>
 Br (dL != 0) (
 zQc prog ({ target:=.fn (.func fx) capx,args:=(firstx.toList ++ ([]:List Value)).toArray } :: ds) w1 λw2=>
 R (.returned (.int .i64 dL)) w2) (
 zQg p0 λa3=>
 ∃fH:SV,w1.cell? (a3.add 5)=some (fH.v)/\
 Br (decide ((fH.len:Int) >= 8)) (
 zQc prog ({ target:=.fn (.func fx) capx,args:=(firstx.toList ++ ([]:List Value)).toArray } :: ds) w1 λw4=>
 R (.returned (.int .i64 3)) w4) (
 dwE w1 λw5=>
 ∃S1:World->Prop,S1 w5/\
 zQg p0 λa6=>
 ∃dI:SV,(∀w',S1 w'->w'.cell? (a6.add 5)=some (dI.v))/\
 zQg p0 λa7=>
 ∃da,(∀w',S1 w'->w'.cell? ((a7.add 2).add 0)=some (.int .i64 da))/\
 ∃ba:SV,(∀w',S1 w'->w'.cell? ((a7.add 2).add 1)=some (ba.v))/\
 ∃be:SV,(∀w',S1 w'->w'.cell? ((a7.add 2).add 2)=some (be.v))/\
 Calls prog 56 #[.agg #[.int .i64 da,ba.v,be.v]] w5 λe w8=>
 ∃cD:Int,∃bw:SV,∃bx:SV,e=.returned (.agg #[.int .i64 cD,bw.v,bx.v])/\
 S1 w8/\
 alE (.cells #[.int .i64 cD,bw.v,bx.v] 35) w8 λr32 w9=>
 S1 w9/\
 ∃gQ:SV,∃aU,(Builtin.append_ #[106,106] 106 #[dI.v,.slice (some ⟨r32,0,none⟩) 1 1]).run prog w9=.ok (gQ.v) aU/\
 zQg p0 λeL=>
 st1 (eL.add 5) (gQ.v) aU λaX=>
 zQc prog ({ target:=.fn (.func fx) capx,args:=(firstx.toList ++ ([]:List Value)).toArray } :: ds) aX λaK=>
 R (.returned (.int .i64 0)) aK))
theorem F35_p:Pl prog f35 [pS 0] F35_1:=λR=>
 lf
theorem yVm (p0:Option Addr) (w:World) (R:Rt) (h:F35_1 R p0 [] w):Calls prog 35 #[.pointer p0] w R:=
 plC F35_p func35 h
def F80_1(R:Rt)(p0:Option Addr)(ds:Ds)(w:World):Prop:=
 alE (.cells #[.int .i64 0,.slice none 0 0,.slice none 0 0] 35) w λr2 w1=>
 zQg p0 λa2=>
 ∃l9:SV,w1.cell? (a2.add 5)=some (l9.v)/\
 Br ((l9.len:Int) == 0) (
 stA prog 35 (⟨r2,0,none⟩:Addr) #[.int .i64 0,.slice none 0 0,.slice none 0 0] w1 λw3=>
 zQc prog ds w3 λw4=>
 ∃ag,w4.cell? ((⟨r2,0,none⟩:Addr).add 0)=some (.int .i64 ag)/\
 ∃ab:SV,w4.cell? ((⟨r2,0,none⟩:Addr).add 1)=some (ab.v)/\
 ∃ae:SV,w4.cell? ((⟨r2,0,none⟩:Addr).add 2)=some (ae.v)/\
 R (.returned (.tuple #[.agg #[.int .i64 ag,ab.v,ae.v],.int .i64 9])) w4) (
 zQg p0 λa5=>
 ∃dd:SV,w1.cell? (a5.add 5)=some (dd.v)/\
 ∃a6,dd.a=some a6/\0<=(IntKind.i64.wrap ((l9.len:Int) - 1))/\(IntKind.i64.wrap ((l9.len:Int) - 1))<(dd.len:Int)/\
 ∃qC,w1.cell? ((a6.add ((IntKind.i64.wrap ((l9.len:Int) - 1)).toNat * 3)).add 0)=some (.int .i64 qC)/\
 ∃jp:SV,w1.cell? ((a6.add ((IntKind.i64.wrap ((l9.len:Int) - 1)).toNat * 3)).add 1)=some (jp.v)/\
 ∃jq:SV,w1.cell? ((a6.add ((IntKind.i64.wrap ((l9.len:Int) - 1)).toNat * 3)).add 2)=some (jq.v)/\
 alE (.cells #[.int .i64 0,.slice none 0 0,.slice none 0 0] 35) w1 λr5 w7=>
 stA prog 35 (⟨r5,0,none⟩:Addr) #[.int .i64 qC,jp.v,jq.v] w7 λw8=>
 zQg p0 λa9=>
 ∃dI:SV,w8.cell? (a9.add 5)=some (dI.v)/\
 0<=(IntKind.i64.wrap ((l9.len:Int) - 1))/\(IntKind.i64.wrap ((l9.len:Int) - 1)).toNat<=dI.cap/\0<=(IntKind.i64.wrap ((l9.len:Int) - 1)).toNat/\
 zQg p0 λeJ=>
 st1 (eJ.add 5) (.slice (if dI.cap=0 then dI.a else dI.a.map (λx=>x.add (0 * 3))) ((IntKind.i64.wrap ((l9.len:Int) - 1)).toNat - 0) (dI.cap - 0)) w8 λaT=>
 ∃gB,aT.cell? ((⟨r5,0,none⟩:Addr).add 0)=some (.int .i64 gB)/\
 ∃jr:SV,aT.cell? ((⟨r5,0,none⟩:Addr).add 1)=some (jr.v)/\
 ∃dD:SV,aT.cell? ((⟨r5,0,none⟩:Addr).add 2)=some (dD.v)/\
 stA prog 35 (⟨r2,0,none⟩:Addr) #[.int .i64 gB,jr.v,dD.v] aT λaX=>
 zQc prog ds aX λaK=>
 ∃ag,aK.cell? ((⟨r2,0,none⟩:Addr).add 0)=some (.int .i64 ag)/\
 ∃ab:SV,aK.cell? ((⟨r2,0,none⟩:Addr).add 1)=some (ab.v)/\
 ∃ae:SV,aK.cell? ((⟨r2,0,none⟩:Addr).add 2)=some (ae.v)/\
 R (.returned (.tuple #[.agg #[.int .i64 ag,ab.v,ae.v],.int .i64 0])) aK)
theorem F80_p:Pl prog f80 [pS 0] F80_1:=λR=>
 lf
theorem yVY (p0:Option Addr) (w:World) (R:Rt) (h:F80_1 R p0 [] w):Calls prog 80 #[.pointer p0] w R:=
 plC F80_p func80 h
def F36_1(R:Rt)(p0:Option Addr)(ds:Ds)(w:World):Prop:=
 Calls prog 55 #[.pointer p0] w λe w1=>
 ∃uP:Value,∃eu:Int,e=.returned (.tuple #[uP,.int .i64 eu])/\
 fnE uP λfx firstx capx=>
 Br (eu != 0) (
 zQc prog ({ target:=.fn (.func fx) capx,args:=(firstx.toList ++ ([]:List Value)).toArray } :: ds) w1 λw2=>
 R (.returned (.int .i64 eu)) w2) (
 Calls prog 80 #[.pointer p0] w1 λe w3=>
 ∃lQ:Int,∃fg:SV,∃fh:SV,∃iU:Int,e=.returned (.tuple #[.agg #[.int .i64 lQ,fg.v,fh.v],.int .i64 iU])/\
 alE (.cells #[.int .i64 0,.slice none 0 0,.slice none 0 0] 35) w3 λr5 w4=>
 stA prog 35 (⟨r5,0,none⟩:Addr) #[.int .i64 lQ,fg.v,fh.v] w4 λw5=>
 Br (iU != 0) (
 zQc prog ({ target:=.fn (.func fx) capx,args:=(firstx.toList ++ ([]:List Value)).toArray } :: ds) w5 λw6=>
 R (.returned (.int .i64 iU)) w6) (
 Calls prog 79 #[.pointer p0] w5 λe w7=>
 e=.returned (.tuple #[])/\
 zQc prog ({ target:=.fn (.func fx) capx,args:=(firstx.toList ++ ([]:List Value)).toArray } :: ds) w7 λw8=>
 R (.returned (.int .i64 0)) w8))
theorem F36_p:Pl prog f36 [pS 0] F36_1:=λR=>
 lf
theorem yYF (p0:Option Addr) (w:World) (R:Rt) (h:F36_1 R p0 [] w):Calls prog 36 #[.pointer p0] w R:=
 plC F36_p func36 h
def F37_1(R:Rt)(p0:Option Addr)(ds:Ds)(w:World):Prop:=
 Calls prog 55 #[.pointer p0] w λe w1=>
 ∃uQ:Value,∃iL:Int,e=.returned (.tuple #[uQ,.int .i64 iL])/\
 fnE uQ λfx firstx capx=>
 Br (iL != 0) (
 zQc prog ({ target:=.fn (.func fx) capx,args:=(firstx.toList ++ ([]:List Value)).toArray } :: ds) w1 λw2=>
 R (.returned (.int .i64 iL)) w2) (
 Calls prog 80 #[.pointer p0] w1 λe w3=>
 ∃lR:Int,∃fj:SV,∃fm:SV,∃na:Int,e=.returned (.tuple #[.agg #[.int .i64 lR,fj.v,fm.v],.int .i64 na])/\
 alE (.cells #[.int .i64 0,.slice none 0 0,.slice none 0 0] 35) w3 λr5 w4=>
 stA prog 35 (⟨r5,0,none⟩:Addr) #[.int .i64 lR,fj.v,fm.v] w4 λw5=>
 Br (na != 0) (
 zQc prog ({ target:=.fn (.func fx) capx,args:=(firstx.toList ++ ([]:List Value)).toArray } :: ds) w5 λw6=>
 R (.returned (.int .i64 na)) w6) (
 ∃kj,w5.cell? ((⟨r5,0,none⟩:Addr).add 0)=some (.int .i64 kj)/\
 ∃js:SV,w5.cell? ((⟨r5,0,none⟩:Addr).add 1)=some (js.v)/\
 ∃jt:SV,w5.cell? ((⟨r5,0,none⟩:Addr).add 2)=some (jt.v)/\
 zQg p0 λa7=>
 stA prog 35 (a7.add 2) #[.int .i64 kj,js.v,jt.v] w5 λw8=>
 zQc prog ({ target:=.fn (.func fx) capx,args:=(firstx.toList ++ ([]:List Value)).toArray } :: ds) w8 λw9=>
 R (.returned (.int .i64 0)) w9))
theorem F37_p:Pl prog f37 [pS 0] F37_1:=λR=>
 lf
theorem yYM (p0:Option Addr) (w:World) (R:Rt) (h:F37_1 R p0 [] w):Calls prog 37 #[.pointer p0] w R:=
 plC F37_p func37 h
def F84_1(R:Rt)(p0:Option Addr)(bh bA:Int)(bJ:SV)(ds:Ds)(w:World):Prop:=
 alE (.cells #[.int .i64 bh,.int .i64 bA,bJ.v] 90) w λr3 w1=>
 dwE w1 λw2=>
 ∃S1:World->Prop,S1 w2/\
 zQg p0 λa3=>
 ∃l8:SV,(∀w',S1 w'->w'.cell? (a3.add 9)=some (l8.v))/\
 ∃gc,(∀w',S1 w'->w'.cell? ((⟨r3,0,none⟩:Addr).add 0)=some (.int .i64 gc))/\
 ∃eu,(∀w',S1 w'->w'.cell? ((⟨r3,0,none⟩:Addr).add 1)=some (.int .i64 eu))/\
 ∃mq:SV,(∀w',S1 w'->w'.cell? ((⟨r3,0,none⟩:Addr).add 2)=some (mq.v))/\
 alE (.cells #[.int .i64 gc,.int .i64 eu,mq.v] 90) w2 λcC w4=>
 S1 w4/\
 ∃bY:SV,∃w5,(Builtin.append_ #[87,87] 87 #[l8.v,.slice (some ⟨cC,0,none⟩) 1 1]).run prog w4=.ok (bY.v) w5/\
 zQg p0 λa6=>
 st1 (a6.add 9) (bY.v) w5 λw7=>
 dwE w7 λw8=>
 zQg p0 λa9=>
 ∃cJ:SV,w8.cell? (a9.add 8)=some (cJ.v)/\
 ∃cY,w8.cell? ((⟨r3,0,none⟩:Addr).add 0)=some (.int .i64 cY)/\
 ∃aY,w8.cell? ((⟨r3,0,none⟩:Addr).add 1)=some (.int .i64 aY)/\
 ∃cf:SV,w8.cell? ((⟨r3,0,none⟩:Addr).add 2)=some (cf.v)/\
 Calls prog 49 #[cJ.v,.agg #[.int .i64 cY,.int .i64 aY,cf.v]] w8 λe aU=>
 ∃dZ:SV,e=.returned (dZ.v)/\
 zQg p0 λeL=>
 st1 (eL.add 8) (dZ.v) aU λaX=>
 zQc prog ds aX λaK=>
 R (.returned (.tuple #[])) aK
theorem F84_p:Pl prog f84 [pS 0,aS 1 [.int .i64,.int .i64,.slice]] F84_1:=λR=>
 lf
theorem yYc (p0:Option Addr) (bh bA:Int) (bJ:SV) (w:World) (R:Rt) (h:F84_1 R p0 bh bA bJ [] w):Calls prog 84 #[.pointer p0,.agg #[.int .i64 bh,.int .i64 bA,bJ.v]] w R:=
 plC F84_p func84 h
def F79_1(R:Rt)(p0:Option Addr)(ds:Ds)(w:World):Prop:=
 dwE w λw1=>
 ∃S1:World->Prop,S1 w1/\
 zQg p0 λa2=>
 ∃l8:SV,(∀w',S1 w'->w'.cell? (a2.add 6)=some (l8.v))/\
 zQg p0 λa3=>
 ∃iB:SV,(∀w',S1 w'->w'.cell? (a3.add 6)=some (iB.v))/\
 ∃a4,l8.a=some a4/\0<=(IntKind.i64.wrap ((iB.len:Int) - 1))/\(IntKind.i64.wrap ((iB.len:Int) - 1))<(l8.len:Int)/\
 ∃io,(∀w',S1 w'->w'.cell? ((a4.add ((IntKind.i64.wrap ((iB.len:Int) - 1)).toNat * 3)).add 0)=some (.int .i64 io))/\
 ∃ju:SV,(∀w',S1 w'->w'.cell? ((a4.add ((IntKind.i64.wrap ((iB.len:Int) - 1)).toNat * 3)).add 1)=some (ju.v))/\
 ∃jv:SV,(∀w',S1 w'->w'.cell? ((a4.add ((IntKind.i64.wrap ((iB.len:Int) - 1)).toNat * 3)).add 2)=some (jv.v))/\
 alE (.cells #[.int .i64 0,.slice none 0 0,.slice none 0 0] 35) w1 λr2 w5=>
 S1 w5/\
 stA prog 35 (⟨r2,0,none⟩:Addr) #[.int .i64 io,ju.v,jv.v] w5 λw6=>
 dwE w6 λw7=>
 ∃kC,w7.cell? ((⟨r2,0,none⟩:Addr).add 0)=some (.int .i64 kC)/\
 ∃ce:SV,w7.cell? ((⟨r2,0,none⟩:Addr).add 1)=some (ce.v)/\
 ∃dE:SV,w7.cell? ((⟨r2,0,none⟩:Addr).add 2)=some (dE.v)/\
 zQg p0 λa8=>
 ∃gF,w7.cell? ((a8.add 2).add 0)=some (.int .i64 gF)/\
 ∃cj:SV,w7.cell? ((a8.add 2).add 1)=some (cj.v)/\
 ∃ck:SV,w7.cell? ((a8.add 2).add 2)=some (ck.v)/\
 Calls prog 72 #[.agg #[.int .i64 kC,ce.v,dE.v],.agg #[.int .i64 gF,cj.v,ck.v]] w7 λe w9=>
 ∃ip:SV,∃cM:Int,e=.returned (.tuple #[ip.v,.int .i64 cM])/\
 zQg p0 λeJ=>
 ∃fZ:SV,w9.cell? (eJ.add 5)=some (fZ.v)/\
 Br (decide ((fZ.len:Int) > 0)) (
 zQc prog ds w9 λaT=>
 R (.returned (.tuple #[])) aT) (
 Br ((ip.len:Int) == 0) (
 zQc prog ds w9 λaX=>
 R (.returned (.tuple #[])) aX) (
 dwE w9 λaK=>
 ∃S3:World->Prop,S3 aK/\
 zQg p0 λft=>
 ∃mW:SV,(∀w',S3 w'->w'.cell? (ft.add 8)=some (mW.v))/\
 ∃kO,mW.a=some kO/\0<=(1:Int)/\(1:Int)<(mW.len:Int)/\
 ∃jZ:SV,(∀w',S3 w'->w'.cell? (kO.add ((1:Int).toNat * 1))=some (jZ.v))/\
 zQg p0 λjX=>
 ∃qD,(∀w',S3 w'->w'.cell? ((jX.add 2).add 0)=some (.int .i64 qD))/\
 ∃jw:SV,(∀w',S3 w'->w'.cell? ((jX.add 2).add 1)=some (jw.v))/\
 ∃jx:SV,(∀w',S3 w'->w'.cell? ((jX.add 2).add 2)=some (jx.v))/\
 Calls prog 112 #[.agg #[.int .i64 qD,jw.v,jx.v],ip.v] aK λe bD=>
 ∃sJ:SV,e=.returned (sJ.v)/\
 S3 bD/\
 Calls prog 111 #[.int .u8 99,sJ.v] bD λe cH=>
 ∃mR:SV,e=.returned (mR.v)/\
 S3 cH/\
 Calls prog 84 #[.pointer p0,.agg #[.int .i64 1,.int .i64 (jZ.len:Int),mR.v]] cH λe cR=>
 e=.returned (.tuple #[])/\
 dwE cR λcP=>
 ∃S4:World->Prop,S4 cP/\
 zQg p0 λa21=>
 ∃lj:SV,(∀w',S4 w'->w'.cell? (a21.add 6)=some (lj.v))/\
 zQg p0 λnN=>
 ∃cE,(∀w',S4 w'->w'.cell? ((nN.add 2).add 0)=some (.int .i64 cE))/\
 ∃dy:SV,(∀w',S4 w'->w'.cell? ((nN.add 2).add 1)=some (dy.v))/\
 ∃dz:SV,(∀w',S4 w'->w'.cell? ((nN.add 2).add 2)=some (dz.v))/\
 Calls prog 56 #[.agg #[.int .i64 cE,dy.v,dz.v]] cP λe dM=>
 ∃qE:Int,∃jy:SV,∃jz:SV,e=.returned (.agg #[.int .i64 qE,jy.v,jz.v])/\
 S4 dM/\
 alE (.cells #[.int .i64 qE,jy.v,jz.v] 35) dM λr64 dP=>
 S4 dP/\
 ∃gE:SV,∃gK,(Builtin.append_ #[106,106] 106 #[lj.v,.slice (some ⟨r64,0,none⟩) 1 1]).run prog dP=.ok (gE.v) gK/\
 zQg p0 λuL=>
 st1 (uL.add 6) (gE.v) gK λgR=>
 dwE gR λdf=>
 ∃S5:World->Prop,S5 df/\
 zQg p0 λmZ=>
 ∃jO:SV,(∀w',S5 w'->w'.cell? (mZ.add 10)=some (jO.v))/\
 zQg p0 λkY=>
 ∃kV:SV,(∀w',S5 w'->w'.cell? (kY.add 9)=some (kV.v))/\
 alE (.cells #[.int .i64 (kV.len:Int)] 3) df λyT fX=>
 S5 fX/\
 ∃f7:SV,∃fY,(Builtin.append_ #[52,52] 52 #[jO.v,.slice (some ⟨yT,0,none⟩) 1 1]).run prog fX=.ok (f7.v) fY/\
 zQg p0 λa33=>
 st1 (a33.add 10) (f7.v) fY λfA=>
 zQc prog ds fA λkU=>
 R (.returned (.tuple #[])) kU))
theorem F79_p:Pl prog f79 [pS 0] F79_1:=λR=>
 lf
theorem yVl (p0:Option Addr) (w:World) (R:Rt) (h:F79_1 R p0 [] w):Calls prog 79 #[.pointer p0] w R:=
 plC F79_p func79 h
def F81_1(R:Rt)(p0:Option Addr)(n1:Int)(ds:Ds)(w:World):Prop:=
 Br (decide (n1 >= 1)) (
 zQg p0 λa1=>
 ∃dN:SV,w.cell? ((a1.add 2).add 2)=some (dN.v)/\
 zQc prog ds w λw2=>
 R (.returned (.bool (decide (n1<=(dN.len:Int))))) w2) (
 zQc prog ds w λw3=>
 R (.returned (.bool false)) w3)
theorem F81_p:Pl prog f81 [pS 0,iS 1] F81_1:=λR=>
 lf
theorem yWY (p0:Option Addr) (n1:Int) (w:World) (R:Rt) (h:F81_1 R p0 n1 [] w):Calls prog 81 #[.pointer p0,.int .i64 n1] w R:=
 plC F81_p func81 h
end Go.Proofs.YtaeecpjhfmcliaaGreatDoor
/- Shallow texts of functions, printed by program, each checked by the kernel against the loaded code. No condition. -/
namespace Go.Proofs.YtaeecpjhfmcliaaGreatDoor
open Go.Sh Tryz
def F40_1(R:Rt)(p0:Option Addr)(n1:Int)(s2:ByteArray)(oh lg:Int)(ol:ByteArray)(ds:Ds)(w:World):Prop:=
 alE (.cells #[.int .i64 oh,.int .i64 lg,.string ol] 73) w λr7 w1=>
 Calls prog 55 #[.pointer p0] w1 λe w2=>
 ∃qF:Value,∃dX:Int,e=.returned (.tuple #[qF,.int .i64 dX])/\
 fnE qF λfx firstx capx=>
 Br (dX != 0) (
 zQc prog ({ target:=.fn (.func fx) capx,args:=(firstx.toList ++ ([]:List Value)).toArray } :: ds) w2 λw3=>
 R (.returned (.int .i64 dX)) w3) (
 zQg p0 λa4=>
 ∃bG:SV,w2.cell? ((a4.add 2).add 1)=some (bG.v)/\
 Calls prog 82 #[bG.v,.string s2] w2 λe w5=>
 ∃cB:Int,∃qG:Bool,e=.returned (.tuple #[.int .i64 cB,.bool qG])/\
 Br (!qG) (
 zQc prog ({ target:=.fn (.func fx) capx,args:=(firstx.toList ++ ([]:List Value)).toArray } :: ds) w5 λw6=>
 R (.returned (.int .i64 4)) w6) (
 Calls prog 81 #[.pointer p0,.int .i64 n1] w5 λe w7=>
 ∃tK:Bool,e=.returned (.bool tK)/\
 Br (!tK) (
 zQc prog ({ target:=.fn (.func fx) capx,args:=(firstx.toList ++ ([]:List Value)).toArray } :: ds) w7 λw8=>
 R (.returned (.int .i64 4)) w8) (
 dwE w7 λw9=>
 zQg p0 λeJ=>
 ∃nG:SV,w9.cell? ((eJ.add 2).add 1)=some (nG.v)/\
 ∃eL,nG.a=some eL/\0<=cB/\cB<(nG.len:Int)/\
 ∃qH,w9.cell? ((eL.add (cB.toNat * 4)).add 0)=some (.string qH)/\
 ∃qI,w9.cell? ((eL.add (cB.toNat * 4)).add 1)=some (.int .i64 qI)/\
 ∃qJ,w9.cell? ((eL.add (cB.toNat * 4)).add 2)=some (.int .i64 qJ)/\
 ∃qK,w9.cell? ((eL.add (cB.toNat * 4)).add 3)=some (.bool qK)/\
 zQg p0 λiR=>
 ∃iT,w9.cell? (iR.add 2)=some (.int .i64 iT)/\
 ∃qL,w9.cell? ((⟨r7,0,none⟩:Addr).add 0)=some (.int .i64 qL)/\
 ∃qM,w9.cell? ((⟨r7,0,none⟩:Addr).add 1)=some (.int .i64 qM)/\
 ∃qN,w9.cell? ((⟨r7,0,none⟩:Addr).add 2)=some (.string qN)/\
 Calls prog 83 #[.agg #[.string qH,.int .i64 qI,.int .i64 qJ,.bool qK],.int .i64 iT,.agg #[.int .i64 qL,.int .i64 qM,.string qN]] w9 λe aK=>
 ∃lT:Int,∃lU:Int,∃lV:ByteArray,∃nc:Int,e=.returned (.tuple #[.agg #[.int .i64 lT,.int .i64 lU,.string lV],.int .i64 nc])/\
 stA prog 73 (⟨r7,0,none⟩:Addr) #[.int .i64 lT,.int .i64 lU,.string lV] aK λbH=>
 Br (nc != 0) (
 zQc prog ({ target:=.fn (.func fx) capx,args:=(firstx.toList ++ ([]:List Value)).toArray } :: ds) bH λbC=>
 R (.returned (.int .i64 nc)) bC) (
 dwE bH λbT=>
 zQg p0 λnY=>
 ∃gE:SV,bT.cell? ((nY.add 2).add 2)=some (gE.v)/\
 ∃gn,gE.a=some gn/\0<=(IntKind.i64.wrap (n1 - 1))/\(IntKind.i64.wrap (n1 - 1))<(gE.len:Int)/\
 ∃jM:SV,bT.cell? ((gn.add ((IntKind.i64.wrap (n1 - 1)).toNat * 2)).add 1)=some (jM.v)/\
 ∃qO,bT.cell? ((⟨r7,0,none⟩:Addr).add 0)=some (.int .i64 qO)/\
 ∃qP,bT.cell? ((⟨r7,0,none⟩:Addr).add 1)=some (.int .i64 qP)/\
 ∃qQ,bT.cell? ((⟨r7,0,none⟩:Addr).add 2)=some (.string qQ)/\
 ∃kP,jM.a=some kP/\0<=cB/\cB<(jM.len:Int)/\
 stA prog 73 (kP.add (cB.toNat * 3)) #[.int .i64 qO,.int .i64 qP,.string qQ] bT λcP=>
 Calls prog 79 #[.pointer p0] cP λe bX=>
 e=.returned (.tuple #[])/\
 zQc prog ({ target:=.fn (.func fx) capx,args:=(firstx.toList ++ ([]:List Value)).toArray } :: ds) bX λdQ=>
 R (.returned (.int .i64 0)) dQ))))
theorem F40_p:Pl prog f40 [pS 0,iS 1,sS 2,aS 3 [.int .i64,.int .i64,.str]] F40_1:=λR=>
 lf
theorem yYK (p0:Option Addr) (n1:Int) (s2:ByteArray) (oh lg:Int) (ol:ByteArray) (w:World) (R:Rt) (h:F40_1 R p0 n1 s2 oh lg ol [] w):Calls prog 40 #[.pointer p0,.int .i64 n1,.string s2,.agg #[.int .i64 oh,.int .i64 lg,.string ol]] w R:=
 plC F40_p func40 h
end Go.Proofs.YtaeecpjhfmcliaaGreatDoor
/- Shallow texts of functions, printed by program, each checked by the kernel against the loaded code. No condition. -/
namespace Go.Proofs.YtaeecpjhfmcliaaGreatDoor
open Go.Sh Tryz
end Go.Proofs.YtaeecpjhfmcliaaGreatDoor
/- Shallow texts of functions, printed by program, each checked by the kernel against the loaded code. No condition. -/
namespace Go.Proofs.YtaeecpjhfmcliaaGreatDoor
open Go.Sh Tryz
def F44_1(R:Rt)(p2 p3:Option Addr)(ds:Ds)(w:World):Prop:=
 zQg p3 λa1=>
 ∃ez,w.cell? (a1.add 0)=some (.int .i64 ez)/\
 ∃cg:SV,w.cell? (a1.add 1)=some (cg.v)/\
 ∃ci:SV,w.cell? (a1.add 2)=some (ci.v)/\
 zQg p2 λa2=>
 stA prog 35 a2 #[.int .i64 ez,cg.v,ci.v] w λw3=>
 zQc prog ds w3 λw4=>
 zQg p2 λa5=>
 ∃ag,w4.cell? (a5.add 0)=some (.int .i64 ag)/\
 ∃ab:SV,w4.cell? (a5.add 1)=some (ab.v)/\
 ∃ae:SV,w4.cell? (a5.add 2)=some (ae.v)/\
 R (.returned (.agg #[.int .i64 ag,ab.v,ae.v])) w4
def F44_2 (R:Rt) (J1:(Int)->World->Prop) (l0:SV) (p2 p3:Option Addr) (n4:Int) (ds:Ds) (w:World):Prop:=
 Br (decide (n4<(l0.len:Int))) (
 dwE w λw6=>
 ∃S1:World->Prop,S1 w6/\
 zQg p3 λa7=>
 ∃de:SV,(∀w',S1 w'->w'.cell? (a7.add 2)=some (de.v))/\
 ∃a8,l0.a=some a8/\0<=n4/\n4<(l0.len:Int)/\
 ∃jL,(∀w',S1 w'->w'.cell? (a8.add (n4.toNat * 1))=some (.int .i64 jL))/\
 Calls prog 45 #[.int .i64 jL] w6 λe w9=>
 ∃dU:Int,∃cL:Int,∃dV:ByteArray,e=.returned (.agg #[.int .i64 dU,.int .i64 cL,.string dV])/\
 S1 w9/\
 alE (.cells #[.int .i64 dU,.int .i64 cL,.string dV] 73) w9 λwj aU=>
 S1 aU/\
 alE (.cells #[.bool false,.slice (some ⟨wj,0,none⟩) 1 1] 67) aU λwS aT=>
 S1 aT/\
 ∃bW:SV,∃aX,(Builtin.append_ #[33,33] 33 #[de.v,.slice (some ⟨wS,0,none⟩) 1 1]).run prog aT=.ok (bW.v) aX/\
 zQg p3 λmx=>
 st1 (mx.add 2) (bW.v) aX λbH=>
 J1 (IntKind.i64.wrap (n4+1)) bH) (
 F44_1 R p2 p3 ds w)
def F44_3(R:Rt)(l0:SV)(p2 p3:Option Addr)(n4:Int)(ds:Ds)(w:World):Prop:=
 zQD (λ(J1:(Int)->World->Prop) (s:Int) (w:World)=>F44_2 R J1 l0 p2 p3 s ds w) n4 w
def F44_5(R:Rt)(l0:SV)(ds:Ds)(w:World):Prop:=
 alE (.cells #[.int .i64 0,.slice none 0 0,.slice none 0 0] 35) w λr2 bC=>
 alE (.cells #[.string (⟨#[78]⟩:ByteArray),.int .i64 2,.int .i64 3,.bool false] 129) bC λr6 bT=>
 alE (.cells #[.int .i64 0,.slice none 0 0,.slice none 0 0] 35) bT λr3 bD=>
 stA prog 35 (⟨r3,0,none⟩:Addr) #[.int .i64 0,.slice (some ⟨r6,0,none⟩) 1 1,.slice none 0 0] bD λcH=>
 F44_3 R l0 (some (⟨r2,0,none⟩:Addr)) (some (⟨r3,0,none⟩:Addr)) 0 ds cH
theorem F44_p:Pl prog f44 [lS 0] F44_5:=λR=>
 pc 3 (rest [lS 0,pS 2,pS 3,iS 4] (F44_3 R) (bk 0 (rest [pS 2,pS 3] (F44_1 R) lf) (lp [iS 4] [lS 0,pS 2,pS 3,iS 4] (F44_2 R) zXY λJ1=>lf)))
theorem yYS (l0:SV) (w:World) (R:Rt) (h:F44_5 R l0 [] w):Calls prog 44 #[l0.v] w R:=
 plC F44_p func44 h
def yQZ(R:Rt)(p1:Option Addr)(vX:Bool)(ds:Ds)(w:World):Prop:=
 Br vX (
 zQc prog ds w λw1=>
 R (.returned (.bool false)) w1) (
 Calls prog 27 #[.pointer p1,.int .i64 1] w λe w2=>
 ∃lW:Int,∃fo:SV,∃fp:SV,∃qR:Int,e=.returned (.tuple #[.agg #[.int .i64 lW,fo.v,fp.v],.int .i64 qR])/\
 alE (.cells #[.int .i64 0,.slice none 0 0,.slice none 0 0] 35) w2 λr3 w3=>
 stA prog 35 (⟨r3,0,none⟩:Addr) #[.int .i64 lW,fo.v,fp.v] w3 λw4=>
 dwE w4 λw5=>
 ∃S1:World->Prop,S1 w5/\
 Br (qR == 0) (
 Calls prog 22 #[.pointer p1] w5 λe w6=>
 ∃n54:Int,e=.returned (.int .i64 n54)/\
 S1 w6/\
 Br (n54 == 1) (
 ∃kD,(∀w',S1 w'->w'.cell? ((⟨r3,0,none⟩:Addr).add 0)=some (.int .i64 kD))/\
 ∃dF:SV,(∀w',S1 w'->w'.cell? ((⟨r3,0,none⟩:Addr).add 1)=some (dF.v))/\
 ∃dG:SV,(∀w',S1 w'->w'.cell? ((⟨r3,0,none⟩:Addr).add 2)=some (dG.v))/\
 alE (.cells #[.int .i64 5,.int .i64 2] 3) w6 λr59 w7=>
 S1 w7/\
 Calls prog 44 #[.slice (some ⟨r59,0,none⟩) 2 2] w7 λe w8=>
 ∃qS:Int,∃jA:SV,∃jB:SV,e=.returned (.agg #[.int .i64 qS,jA.v,jB.v])/\
 S1 w8/\
 Calls prog 18 #[.agg #[.int .i64 kD,dF.v,dG.v],.agg #[.int .i64 qS,jA.v,jB.v]] w8 λe w9=>
 ∃tG:Bool,e=.returned (.bool tG)/\
 S1 w9/\
 Br tG (
 ∃qT,(∀w',S1 w'->w'.cell? ((⟨r3,0,none⟩:Addr).add 0)=some (.int .i64 qT))/\
 ∃jC:SV,(∀w',S1 w'->w'.cell? ((⟨r3,0,none⟩:Addr).add 1)=some (jC.v))/\
 ∃jD:SV,(∀w',S1 w'->w'.cell? ((⟨r3,0,none⟩:Addr).add 2)=some (jD.v))/\
 Calls prog 14 #[.pointer p1] w9 λe aU=>
 ∃qU:Int,∃jE:SV,∃jF:SV,e=.returned (.agg #[.int .i64 qU,jE.v,jF.v])/\
 S1 aU/\
 Calls prog 18 #[.agg #[.int .i64 qU,jE.v,jF.v],.agg #[.int .i64 qT,jC.v,jD.v]] aU λe aT=>
 ∃oY:Bool,e=.returned (.bool oY)/\
 zQc prog ds aT λaX=>
 R (.returned (.bool oY)) aX) (
 zQc prog ds w9 λaK=>
 R (.returned (.bool false)) aK)) (
 zQc prog ds w6 λbH=>
 R (.returned (.bool false)) bH)) (
 zQc prog ds w5 λbC=>
 R (.returned (.bool false)) bC))
def F10_2(R:Rt)(p1:Option Addr)(n2:Int)(ds:Ds)(w:World):Prop:=
 Br (n2 != 0) (
 yQZ R p1 true ds w) (
 Calls prog 35 #[.pointer p1] w λe bT=>
 ∃iz:Int,e=.returned (.int .i64 iz)/\
 Br (iz != 0) (
 yQZ R p1 true ds bT) (
 Calls prog 45 #[.int .i64 5] bT λe bD=>
 ∃dU:Int,∃cL:Int,∃dV:ByteArray,e=.returned (.agg #[.int .i64 dU,.int .i64 cL,.string dV])/\
 Calls prog 40 #[.pointer p1,.int .i64 1,.string (⟨#[78]⟩:ByteArray),.agg #[.int .i64 dU,.int .i64 cL,.string dV]] bD λe cH=>
 ∃jI:Int,e=.returned (.int .i64 jI)/\
 Br (jI != 0) (
 yQZ R p1 true ds cH) (
 Calls prog 35 #[.pointer p1] cH λe cR=>
 ∃bE:Int,e=.returned (.int .i64 bE)/\
 Br (bE != 0) (
 yQZ R p1 true ds cR) (
 Calls prog 45 #[.int .i64 6] cR λe cP=>
 ∃cD:Int,∃d7:Int,∃kg:ByteArray,e=.returned (.agg #[.int .i64 cD,.int .i64 d7,.string kg])/\
 Calls prog 40 #[.pointer p1,.int .i64 2,.string (⟨#[78]⟩:ByteArray),.agg #[.int .i64 cD,.int .i64 d7,.string kg]] cP λe bX=>
 ∃lc:Int,e=.returned (.int .i64 lc)/\
 Br (lc != 0) (
 yQZ R p1 true ds bX) (
 Calls prog 37 #[.pointer p1] bX λe dQ=>
 ∃lz:Int,e=.returned (.int .i64 lz)/\
 Br (lz != 0) (
 yQZ R p1 true ds dQ) (
 Calls prog 36 #[.pointer p1] dQ λe dM=>
 ∃mi:Int,e=.returned (.int .i64 mi)/\
 yQZ R p1 (mi != 0) ds dM))))))
def F10_3(R:Rt)(ds:Ds)(w:World):Prop:=
 alE (.cells #[.int .i64 1,.int .i64 2] 3) w λr6 dP=>
 Calls prog 44 #[.slice (some ⟨r6,0,none⟩) 2 2] dP λe gK=>
 ∃dk:Int,∃cx:SV,∃bO:SV,e=.returned (.agg #[.int .i64 dk,cx.v,bO.v])/\
 Calls prog 43 #[.agg #[.int .i64 dk,cx.v,bO.v]] gK λe fy=>
 ∃uR:Option Addr,∃iL:Int,e=.returned (.tuple #[.pointer uR,.int .i64 iL])/\
 F10_2 R uR iL ds fy
theorem F10_p:Pl prog f10 [] F10_3:=λR=>
 pc 2 (rest [pS 1,iS 2] (F10_2 R) (pc 1 (rest [pS 1,bS 44] (yQZ R) lf)))
theorem yVc  (w:World) (R:Rt) (h:F10_3 R [] w):Calls prog 10 #[] w R:=
 plC F10_p func10 h
end Go.Proofs.YtaeecpjhfmcliaaGreatDoor
/- Shallow texts of functions, printed by program, each checked by the kernel against the loaded code. No condition. -/
namespace Go.Proofs.YtaeecpjhfmcliaaGreatDoor
open Go.Sh Tryz
def F3_1(R:Rt)(p5:Option Addr)(n6:Int)(ds:Ds)(w:World):Prop:=
 Br (n6 != 0) (
 Calls prog 10 #[] w λe w1=>
 ∃uS:Bool,e=.returned (.bool uS)/\
 zQc prog ds w1 λw2=>
 R (.returned (.bool uS)) w2) (
 Calls prog 14 #[.pointer p5] w λe w3=>
 ∃kD:Int,∃dF:SV,∃dG:SV,e=.returned (.agg #[.int .i64 kD,dF.v,dG.v])/\
 Calls prog 13 #[.agg #[.int .i64 kD,dF.v,dG.v]] w3 λe w4=>
 ∃n59:Int,e=.returned (.int .i64 n59)/\
 Br (n59 == 0) (
 Calls prog 10 #[] w4 λe w5=>
 ∃uS:Bool,e=.returned (.bool uS)/\
 zQc prog ds w5 λw6=>
 R (.returned (.bool uS)) w6) (
 zQc prog ds w4 λw7=>
 R (.returned (.bool false)) w7))
def F3_2(R:Rt)(l0 l1:SV)(ds:Ds)(w:World):Prop:=
 Br (decide ((IntKind.i64.wrap ((l0.len:Int)+(l1.len:Int))) > 524288)) (
 Calls prog 10 #[] w λe w8=>
 ∃gJ:Bool,e=.returned (.bool gJ)/\
 zQc prog ds w8 λw9=>
 R (.returned (.bool gJ)) w9) (
 Calls prog 11 #[l0.v,l1.v] w λe aU=>
 ∃kE:Option Addr,∃aY:Int,e=.returned (.tuple #[.pointer kE,.int .i64 aY])/\
 Calls prog 12 #[l0.v,l1.v] aU λe aT=>
 ∃kF:SV,∃gZ:Int,e=.returned (.tuple #[kF.v,.int .i64 gZ])/\
 Br (aY != gZ) (
 zQc prog ds aT λaX=>
 R (.returned (.bool false)) aX) (
 Br (aY != 0) (
 Br (aY != 11) (
 zQc prog ds aT λaK=>
 R (.returned (.bool false)) aK) (
 ∃uT:Bool,∃bH,(eqS .eql 24 (.tmp 40) (.const (.pointer none)) (.pointer kE) (.pointer none)).run prog aT=.ok (.bool uT) bH/\
 Br (!(uT == (aY != 0))) (
 zQc prog ds bH λbC=>
 R (.returned (.bool false)) bC) (
 Br (!(((kF.len:Int) == 0) == (aY != 0))) (
 zQc prog ds bH λbT=>
 R (.returned (.bool false)) bT) (
 F3_1 R kE aY ds bH)))) (
 ∃uT:Bool,∃bD,(eqS .eql 24 (.tmp 40) (.const (.pointer none)) (.pointer kE) (.pointer none)).run prog aT=.ok (.bool uT) bD/\
 Br (!(uT == (aY != 0))) (
 zQc prog ds bD λcH=>
 R (.returned (.bool false)) cH) (
 Br (!(((kF.len:Int) == 0) == (aY != 0))) (
 zQc prog ds bD λcR=>
 R (.returned (.bool false)) cR) (
 F3_1 R kE aY ds bD)))))
theorem F3_p:Pl prog f3 [lS 0,lS 1] F3_2:=λR=>
 pc 7 (rest [pS 5,iS 6] (F3_1 R) lf)
theorem xQE (l0 l1:SV) (w:World) (R:Rt) (h:F3_2 R l0 l1 [] w):Calls prog 3 #[l0.v,l1.v] w R:=
 plC F3_p func3 h
end Go.Proofs.YtaeecpjhfmcliaaGreatDoor
