import Derived.Test.YtaeecpjhfmcliaaGreatDoorProg
import Derived.Test.YtaeecpjhfmcliaaGreatDoorShTwentyEight
/- Shallow texts of functions, printed by program, each checked by the kernel against the loaded code. No condition. -/
set_option maxRecDepth 100000
set_option linter.unusedVariables false
namespace Go.Proofs.YtaeecpjhfmcliaaGreatDoor
open Go.Sh Tryz
def F87_1(R:Rt)(l0:SV)(ds:Ds)(w:World):Prop:=
 alE (.cells #[.int .i64 0,.slice none 0 0,.slice none 0 0] 35) w λr2 w1=>
 Calls prog 124 #[l0.v] w1 λe w2=>
 ∃qN:Int,∃iX:SV,∃iY:SV,∃qM:Bool,e=.returned (.tuple #[.agg #[.int .i64 qN,iX.v,iY.v],.bool qM])/\
 alE (.cells #[.int .i64 0,.slice none 0 0,.slice none 0 0] 35) w2 λr4 w3=>
 stA prog 35 (⟨r4,0,none⟩:Addr) #[.int .i64 qN,iX.v,iY.v] w3 λw4=>
 Br (!qM) (
 stA prog 35 (⟨r2,0,none⟩:Addr) #[.int .i64 0,.slice none 0 0,.slice none 0 0] w4 λw5=>
 zQb prog ds w5 λw6=>
 ∃ag,w6.cell? ((⟨r2,0,none⟩:Addr).add 0)=some (.int .i64 ag)/\
 ∃ab:SV,w6.cell? ((⟨r2,0,none⟩:Addr).add 1)=some (ab.v)/\
 ∃ae:SV,w6.cell? ((⟨r2,0,none⟩:Addr).add 2)=some (ae.v)/\
 R (.returned (.tuple #[.agg #[.int .i64 ag,ab.v,ae.v],.int .i64 11])) w6) (
 ∃jE,w4.cell? ((⟨r4,0,none⟩:Addr).add 0)=some (.int .i64 jE)/\
 ∃cb:SV,w4.cell? ((⟨r4,0,none⟩:Addr).add 1)=some (cb.v)/\
 ∃cQ:SV,w4.cell? ((⟨r4,0,none⟩:Addr).add 2)=some (cQ.v)/\
 Calls prog 106 #[.agg #[.int .i64 jE,cb.v,cQ.v]] w4 λe w7=>
 ∃kB:Int,e=.returned (.int .i64 kB)/\
 Br (kB != 0) (
 stA prog 35 (⟨r2,0,none⟩:Addr) #[.int .i64 0,.slice none 0 0,.slice none 0 0] w7 λw8=>
 zQb prog ds w8 λw9=>
 ∃ag,w9.cell? ((⟨r2,0,none⟩:Addr).add 0)=some (.int .i64 ag)/\
 ∃ab:SV,w9.cell? ((⟨r2,0,none⟩:Addr).add 1)=some (ab.v)/\
 ∃ae:SV,w9.cell? ((⟨r2,0,none⟩:Addr).add 2)=some (ae.v)/\
 R (.returned (.tuple #[.agg #[.int .i64 ag,ab.v,ae.v],.int .i64 11])) w9) (
 ∃dK,w7.cell? ((⟨r4,0,none⟩:Addr).add 0)=some (.int .i64 dK)/\
 ∃fA:SV,w7.cell? ((⟨r4,0,none⟩:Addr).add 1)=some (fA.v)/\
 ∃cR:SV,w7.cell? ((⟨r4,0,none⟩:Addr).add 2)=some (cR.v)/\
 Calls prog 123 #[.agg #[.int .i64 dK,fA.v,cR.v]] w7 λe aP=>
 ∃dX:SV,e=.returned (dX.v)/\
 Calls prog 125 #[dX.v,l0.v] aP λe aU=>
 ∃pE:Bool,e=.returned (.bool pE)/\
 Br (!pE) (
 stA prog 35 (⟨r2,0,none⟩:Addr) #[.int .i64 0,.slice none 0 0,.slice none 0 0] aU λaQ=>
 zQb prog ds aQ λaJ=>
 ∃ag,aJ.cell? ((⟨r2,0,none⟩:Addr).add 0)=some (.int .i64 ag)/\
 ∃ab:SV,aJ.cell? ((⟨r2,0,none⟩:Addr).add 1)=some (ab.v)/\
 ∃ae:SV,aJ.cell? ((⟨r2,0,none⟩:Addr).add 2)=some (ae.v)/\
 R (.returned (.tuple #[.agg #[.int .i64 ag,ab.v,ae.v],.int .i64 11])) aJ) (
 ∃eQ,aU.cell? ((⟨r4,0,none⟩:Addr).add 0)=some (.int .i64 eQ)/\
 ∃bt:SV,aU.cell? ((⟨r4,0,none⟩:Addr).add 1)=some (bt.v)/\
 ∃cS:SV,aU.cell? ((⟨r4,0,none⟩:Addr).add 2)=some (cS.v)/\
 stA prog 35 (⟨r2,0,none⟩:Addr) #[.int .i64 eQ,bt.v,cS.v] aU λbB=>
 zQb prog ds bB λbm=>
 ∃ag,bm.cell? ((⟨r2,0,none⟩:Addr).add 0)=some (.int .i64 ag)/\
 ∃ab:SV,bm.cell? ((⟨r2,0,none⟩:Addr).add 1)=some (ab.v)/\
 ∃ae:SV,bm.cell? ((⟨r2,0,none⟩:Addr).add 2)=some (ae.v)/\
 R (.returned (.tuple #[.agg #[.int .i64 ag,ab.v,ae.v],.int .i64 0])) bm)))
theorem F87_p:Pl prog f87 [lS 0] F87_1:=λR=>
 lf
theorem yYi (l0:SV) (w:World) (R:Rt) (h:F87_1 R l0 [] w):Calls prog 87 #[l0.v] w R:=
 plC F87_p func87 h
def xWl(R:Rt)(p2 p4:Option Addr)(ds:Ds)(w:World):Prop:=
 zQf p4 λa1=>
 ∃gI,w.cell? (a1.add 0)=some (.int .i64 gI)/\
 ∃cc:SV,w.cell? (a1.add 1)=some (cc.v)/\
 ∃ce:SV,w.cell? (a1.add 2)=some (ce.v)/\
 zQf p2 λa2=>
 stA prog 35 a2 #[.int .i64 gI,cc.v,ce.v] w λw3=>
 zQb prog ds w3 λw4=>
 zQf p2 λa5=>
 ∃ag,w4.cell? (a5.add 0)=some (.int .i64 ag)/\
 ∃ab:SV,w4.cell? (a5.add 1)=some (ab.v)/\
 ∃ae:SV,w4.cell? (a5.add 2)=some (ae.v)/\
 R (.returned (.tuple #[.agg #[.int .i64 ag,ab.v,ae.v],.bool true])) w4
def xKO (R:Rt) (J1:(Int)->World->Prop) (l0:SV) (p2 p4:Option Addr) (n6 n8 xo kU:Int) (ds:Ds) (w:World):Prop:=
 Br (decide (kU<xo)) (
 dwE w λw6=>
 ∃S1:World->Prop,S1 w6/\
 zQf p4 λa7=>
 ∃si:SV,(∀w',S1 w'->w'.cell? (a7.add 1)=some (si.v))/\
 0<=(IntKind.i64.wrap (n6+(IntKind.i64.wrap (n8 * (IntKind.i64.wrap (kU+1))))))/\(IntKind.i64.wrap (n6+(IntKind.i64.wrap (n8 * (IntKind.i64.wrap (kU+1)))))).toNat<=l0.cap/\0<=(IntKind.i64.wrap (n6+(IntKind.i64.wrap (n8 * kU))))/\(IntKind.i64.wrap (n6+(IntKind.i64.wrap (n8 * kU)))).toNat<=(IntKind.i64.wrap (n6+(IntKind.i64.wrap (n8 * (IntKind.i64.wrap (kU+1)))))).toNat/\
 (
 Calls prog 163 #[si.v,.slice (if l0.cap=(IntKind.i64.wrap (n6+(IntKind.i64.wrap (n8 * kU)))).toNat then l0.a else l0.a.map (λx=>x.add ((IntKind.i64.wrap (n6+(IntKind.i64.wrap (n8 * kU)))).toNat * 1))) ((IntKind.i64.wrap (n6+(IntKind.i64.wrap (n8 * (IntKind.i64.wrap (kU+1)))))).toNat - (IntKind.i64.wrap (n6+(IntKind.i64.wrap (n8 * kU)))).toNat) (l0.cap - (IntKind.i64.wrap (n6+(IntKind.i64.wrap (n8 * kU)))).toNat)] w6 λe w8=>
 ∃gJ:Bool,∃cf:SV,∃kg:Bool,e=.returned (.tuple #[.agg #[.bool gJ,cf.v],.bool kg])/\
 alE (.cells #[.bool false,.slice none 0 0] 67) w8 λcq w9=>
 stA prog 67 (⟨cq,0,none⟩:Addr) #[.bool gJ,cf.v] w9 λaP=>
 Br (!kg) (
 zQf p4 λdI=>
 ∃kh,aP.cell? (dI.add 0)=some (.int .i64 kh)/\
 ∃dE:SV,aP.cell? (dI.add 1)=some (dE.v)/\
 ∃dF:SV,aP.cell? (dI.add 2)=some (dF.v)/\
 zQf p2 λjj=>
 stA prog 35 jj #[.int .i64 kh,dE.v,dF.v] aP λaJ=>
 zQb prog ds aJ λbB=>
 zQf p2 λkx=>
 ∃ag,bB.cell? (kx.add 0)=some (.int .i64 ag)/\
 ∃ab:SV,bB.cell? (kx.add 1)=some (ab.v)/\
 ∃ae:SV,bB.cell? (kx.add 2)=some (ae.v)/\
 R (.returned (.tuple #[.agg #[.int .i64 ag,ab.v,ae.v],.bool false])) bB) (
 zQf p4 λip=>
 ∃fC:SV,aP.cell? (ip.add 2)=some (fC.v)/\
 ∃gK,aP.cell? ((⟨cq,0,none⟩:Addr).add 0)=some (.bool gK)/\
 ∃bn:SV,aP.cell? ((⟨cq,0,none⟩:Addr).add 1)=some (bn.v)/\
 alE (.cells #[.bool gK,bn.v] 67) aP λqO bH=>
 ∃fD:SV,∃bU,(Builtin.append_ #[33,33] 33 #[fC.v,.slice (some ⟨qO,0,none⟩) 1 1]).run prog bH=.ok (fD.v) bU/\
 zQf p4 λky=>
 st1 (ky.add 2) (fD.v) bU λbT=>
 J1 (IntKind.i64.wrap (kU+1)) bT))/\(
 alE (.cells #[.bool false,.slice none 0 0] 67) w6 λcq bX=>
 S1 bX/\
 Calls prog 163 #[si.v,.slice (if l0.cap=(IntKind.i64.wrap (n6+(IntKind.i64.wrap (n8 * kU)))).toNat then l0.a else l0.a.map (λx=>x.add ((IntKind.i64.wrap (n6+(IntKind.i64.wrap (n8 * kU)))).toNat * 1))) ((IntKind.i64.wrap (n6+(IntKind.i64.wrap (n8 * (IntKind.i64.wrap (kU+1)))))).toNat - (IntKind.i64.wrap (n6+(IntKind.i64.wrap (n8 * kU)))).toNat) (l0.cap - (IntKind.i64.wrap (n6+(IntKind.i64.wrap (n8 * kU)))).toNat)] bX λe df=>
 ∃gJ:Bool,∃cf:SV,∃kg:Bool,e=.returned (.tuple #[.agg #[.bool gJ,cf.v],.bool kg])/\
 stA prog 67 (⟨cq,0,none⟩:Addr) #[.bool gJ,cf.v] df λdU=>
 Br (!kg) (
 zQf p4 λws=>
 ∃kh,dU.cell? (ws.add 0)=some (.int .i64 kh)/\
 ∃dE:SV,dU.cell? (ws.add 1)=some (dE.v)/\
 ∃dF:SV,dU.cell? (ws.add 2)=some (dF.v)/\
 zQf p2 λm8=>
 stA prog 35 m8 #[.int .i64 kh,dE.v,dF.v] dU λfj=>
 zQb prog ds fj λiq=>
 zQf p2 λqP=>
 ∃ag,iq.cell? (qP.add 0)=some (.int .i64 ag)/\
 ∃ab:SV,iq.cell? (qP.add 1)=some (ab.v)/\
 ∃ae:SV,iq.cell? (qP.add 2)=some (ae.v)/\
 R (.returned (.tuple #[.agg #[.int .i64 ag,ab.v,ae.v],.bool false])) iq) (
 zQf p4 λqQ=>
 ∃fC:SV,dU.cell? (qQ.add 2)=some (fC.v)/\
 ∃gK,dU.cell? ((⟨cq,0,none⟩:Addr).add 0)=some (.bool gK)/\
 ∃bn:SV,dU.cell? ((⟨cq,0,none⟩:Addr).add 1)=some (bn.v)/\
 alE (.cells #[.bool gK,bn.v] 67) dU λqO ir=>
 ∃fD:SV,∃gu,(Builtin.append_ #[33,33] 33 #[fC.v,.slice (some ⟨qO,0,none⟩) 1 1]).run prog ir=.ok (fD.v) gu/\
 zQf p4 λvZ=>
 st1 (vZ.add 2) (fD.v) gu λfU=>
 J1 (IntKind.i64.wrap (kU+1)) fU))) (
 xWl R p2 p4 ds w)
def xWb(R:Rt)(l0:SV)(p2 p4:Option Addr)(n6 n8 xo kU:Int)(ds:Ds)(w:World):Prop:=
 zQA (λ(J1:(Int)->World->Prop) (s:Int) (w:World)=>xKO R J1 l0 p2 p4 n6 n8 xo s ds w) kU w
def xWj(R:Rt)(l0:SV)(p2 p4:Option Addr)(n6:Int)(ds:Ds)(w:World):Prop:=
 zQf p4 λsj=>
 ∃jF:SV,w.cell? (sj.add 1)=some (jF.v)/\
 Calls prog 141 #[jF.v] w λe iT=>
 ∃xV:Int,e=.returned (.int .i64 xV)/\
 Br (xV != 0) (
 zQf p4 λpW=>
 ∃um,iT.cell? (pW.add 0)=some (.int .i64 um)/\
 ∃kV:SV,iT.cell? (pW.add 1)=some (kV.v)/\
 ∃kW:SV,iT.cell? (pW.add 2)=some (kW.v)/\
 zQf p2 λa37=>
 stA prog 35 a37 #[.int .i64 um,kV.v,kW.v] iT λna=>
 zQb prog ds na λjU=>
 zQf p2 λrZ=>
 ∃ag,jU.cell? (rZ.add 0)=some (.int .i64 ag)/\
 ∃ab:SV,jU.cell? (rZ.add 1)=some (ab.v)/\
 ∃ae:SV,jU.cell? (rZ.add 2)=some (ae.v)/\
 R (.returned (.tuple #[.agg #[.int .i64 ag,ab.v,ae.v],.bool false])) jU) (
 dwE iT λqd=>
 zQf p4 λsa=>
 ∃mI:SV,qd.cell? (sa.add 1)=some (mI.v)/\
 0<=(6:Int)/\(6:Int).toNat<=l0.cap/\0<=(2:Int)/\(2:Int).toNat<=(6:Int).toNat/\
 Calls prog 161 #[mI.v] qd λe oV=>
 ∃sk:Int,e=.returned (.int .i64 sk)/\
 Calls prog 162 #[.slice (if l0.cap=(2:Int).toNat then l0.a else l0.a.map (λx=>x.add ((2:Int).toNat * 1))) ((6:Int).toNat - (2:Int).toNat) (l0.cap - (2:Int).toNat)] oV λe kz=>
 ∃n74:Int,e=.returned (.int .i64 n74)/\
 Br (decide (n74 > 300)) (
 zQf p4 λsb=>
 ∃nA,kz.cell? (sb.add 0)=some (.int .i64 nA)/\
 ∃fE:SV,kz.cell? (sb.add 1)=some (fE.v)/\
 ∃fF:SV,kz.cell? (sb.add 2)=some (fF.v)/\
 zQf p2 λa46=>
 stA prog 35 a46 #[.int .i64 nA,fE.v,fF.v] kz λo9=>
 zQb prog ds o9 λkA=>
 zQf p2 λyr=>
 ∃ag,kA.cell? (yr.add 0)=some (.int .i64 ag)/\
 ∃ab:SV,kA.cell? (yr.add 1)=some (ab.v)/\
 ∃ae:SV,kA.cell? (yr.add 2)=some (ae.v)/\
 R (.returned (.tuple #[.agg #[.int .i64 ag,ab.v,ae.v],.bool false])) kA) (
 Br ((l0.len:Int) != (IntKind.i64.wrap ((IntKind.i64.wrap (n6+(IntKind.i64.wrap (sk * n74))))+1))) (
 zQf p4 λv6=>
 ∃nA,kz.cell? (v6.add 0)=some (.int .i64 nA)/\
 ∃fE:SV,kz.cell? (v6.add 1)=some (fE.v)/\
 ∃fF:SV,kz.cell? (v6.add 2)=some (fF.v)/\
 zQf p2 λa51=>
 stA prog 35 a51 #[.int .i64 nA,fE.v,fF.v] kz λw52=>
 zQb prog ds w52 λrO=>
 zQf p2 λyt=>
 ∃ag,rO.cell? (yt.add 0)=some (.int .i64 ag)/\
 ∃ab:SV,rO.cell? (yt.add 1)=some (ab.v)/\
 ∃ae:SV,rO.cell? (yt.add 2)=some (ae.v)/\
 R (.returned (.tuple #[.agg #[.int .i64 ag,ab.v,ae.v],.bool false])) rO) (
 xWb R l0 p2 p4 n6 sk n74 0 ds kz)))
def xKW (R:Rt) (J1:(Int)->World->Prop) (l0:SV) (p2 p4:Option Addr) (n6 od eF:Int) (ds:Ds) (w:World):Prop:=
 Br (decide (eF<od)) (
 dwE w λqR=>
 ∃S3:World->Prop,S3 qR/\
 zQf p4 λyu=>
 ∃xp:SV,(∀w',S3 w'->w'.cell? (yu.add 1)=some (xp.v))/\
 ∃oF:SV,∃wj,(Instr.sliceAt 22 (l0.v) (some (.int .i64 (IntKind.i64.wrap ((12:Int)+(IntKind.i64.wrap ((16:Int) * eF)))))) (some (.int .i64 (IntKind.i64.wrap ((28:Int)+(IntKind.i64.wrap ((16:Int) * eF)))))) (some (.int .i64 (IntKind.i64.wrap ((28:Int)+(IntKind.i64.wrap ((16:Int) * eF))))))).run prog qR=.ok (oF.v) wj/\
 S3 wj/\
 Calls prog 160 #[oF.v] wj λe rP=>
 ∃un:ByteArray,∃iu:Int,∃iv:Int,∃uo:Bool,e=.returned (.agg #[.string un,.int .i64 iu,.int .i64 iv,.bool uo])/\
 S3 rP/\
 alE (.cells #[.string un,.int .i64 iu,.int .i64 iv,.bool uo] 129) rP λr60 oy=>
 S3 oy/\
 ∃qh:SV,∃oW,(Builtin.append_ #[32,32] 32 #[xp.v,.slice (some ⟨r60,0,none⟩) 1 1]).run prog oy=.ok (qh.v) oW/\
 zQf p4 λa61=>
 st1 (a61.add 1) (qh.v) oW λqA=>
 J1 (IntKind.i64.wrap (eF+1)) qA) (
 xWj R l0 p2 p4 n6 ds w)
def xVK(R:Rt)(l0:SV)(p2 p4:Option Addr)(n6 od eF:Int)(ds:Ds)(w:World):Prop:=
 zQA (λ(J1:(Int)->World->Prop) (s:Int) (w:World)=>xKW R J1 l0 p2 p4 n6 od s ds w) eF w
def xWY(R:Rt)(l0:SV)(ds:Ds)(w:World):Prop:=
 alE (.cells #[.int .i64 0,.slice none 0 0,.slice none 0 0] 35) w λr2 oe=>
 alE (.cells #[.int .i64 0,.slice none 0 0,.slice none 0 0] 35) oe λr4 og=>
 Br (decide ((l0.len:Int)<14)) (
 ∃jG,og.cell? ((⟨r4,0,none⟩:Addr).add 0)=some (.int .i64 jG)/\
 ∃cg:SV,og.cell? ((⟨r4,0,none⟩:Addr).add 1)=some (cg.v)/\
 ∃cT:SV,og.cell? ((⟨r4,0,none⟩:Addr).add 2)=some (cT.v)/\
 stA prog 35 (⟨r2,0,none⟩:Addr) #[.int .i64 jG,cg.v,cT.v] og λoz=>
 zQb prog ds oz λoX=>
 ∃ag,oX.cell? ((⟨r2,0,none⟩:Addr).add 0)=some (.int .i64 ag)/\
 ∃ab:SV,oX.cell? ((⟨r2,0,none⟩:Addr).add 1)=some (ab.v)/\
 ∃ae:SV,oX.cell? ((⟨r2,0,none⟩:Addr).add 2)=some (ae.v)/\
 R (.returned (.tuple #[.agg #[.int .i64 ag,ab.v,ae.v],.bool false])) oX) (
 ∃uq,l0.a=some uq/\0<=(0:Int)/\(0:Int)<(l0.len:Int)/\
 ∃iR,og.cell? (uq.add ((0:Int).toNat * 1))=some (.int .u8 iR)/\
 Br (iR != 67) (
 ∃jG,og.cell? ((⟨r4,0,none⟩:Addr).add 0)=some (.int .i64 jG)/\
 ∃cg:SV,og.cell? ((⟨r4,0,none⟩:Addr).add 1)=some (cg.v)/\
 ∃cT:SV,og.cell? ((⟨r4,0,none⟩:Addr).add 2)=some (cT.v)/\
 stA prog 35 (⟨r2,0,none⟩:Addr) #[.int .i64 jG,cg.v,cT.v] og λx7=>
 zQb prog ds x7 λsd=>
 ∃ag,sd.cell? ((⟨r2,0,none⟩:Addr).add 0)=some (.int .i64 ag)/\
 ∃ab:SV,sd.cell? ((⟨r2,0,none⟩:Addr).add 1)=some (ab.v)/\
 ∃ae:SV,sd.cell? ((⟨r2,0,none⟩:Addr).add 2)=some (ae.v)/\
 R (.returned (.tuple #[.agg #[.int .i64 ag,ab.v,ae.v],.bool false])) sd) (
 ∃a70,l0.a=some a70/\0<=(1:Int)/\(1:Int)<(l0.len:Int)/\
 ∃cw,og.cell? (a70.add ((1:Int).toNat * 1))=some (.int .u8 cw)/\
 st1 (⟨r4,0,none⟩:Addr) (.int .i64 (IntKind.i64.wrap cw)) og λpX=>
 dwE pX λx9=>
 ∃S4:World->Prop,S4 x9/\
 ∃a73,l0.a=some a73/\0<=(10:Int)/\(10:Int)<(l0.len:Int)/\
 ∃qF,(∀w',S4 w'->w'.cell? (a73.add ((10:Int).toNat * 1))=some (.int .u8 qF))/\
 ∃a74,l0.a=some a74/\0<=(10:Int)/\(10:Int)<(l0.len:Int)/\
 ∃qS,(∀w',S4 w'->w'.cell? (a74.add ((10:Int).toNat * 1))=some (.int .u8 qS))/\
 Calls prog 159 #[.int .i64 (IntKind.i64.wrap qS)] x9 λe oA=>
 ∃jP:Int,e=.returned (.int .i64 jP)/\
 S4 oA/\
 Br (decide (jP > (l0.len:Int))) (
 ∃nB,oA.cell? ((⟨r4,0,none⟩:Addr).add 0)=some (.int .i64 nB)/\
 ∃fG:SV,oA.cell? ((⟨r4,0,none⟩:Addr).add 1)=some (fG.v)/\
 ∃fH:SV,oA.cell? ((⟨r4,0,none⟩:Addr).add 2)=some (fH.v)/\
 stA prog 35 (⟨r2,0,none⟩:Addr) #[.int .i64 nB,fG.v,fH.v] oA λoq=>
 zQb prog ds oq λxq=>
 ∃ag,xq.cell? ((⟨r2,0,none⟩:Addr).add 0)=some (.int .i64 ag)/\
 ∃ab:SV,xq.cell? ((⟨r2,0,none⟩:Addr).add 1)=some (ab.v)/\
 ∃ae:SV,xq.cell? ((⟨r2,0,none⟩:Addr).add 2)=some (ae.v)/\
 R (.returned (.tuple #[.agg #[.int .i64 ag,ab.v,ae.v],.bool false])) xq) (
 xVK R l0 (some (⟨r2,0,none⟩:Addr)) (some (⟨r4,0,none⟩:Addr)) jP (IntKind.i64.wrap qF) 0 ds oA)))
theorem F124_p:Pl prog f124 [lS 0] xWY:=λR=>
 pc 9 (rest [lS 0,pS 2,pS 4,iS 6,iS 42,iS 43] (xVK R) (bk 0 (rest [lS 0,pS 2,pS 4,iS 6] (xWj R) (pc 6 (rest [lS 0,pS 2,pS 4,iS 6,iS 8,iS 89,iS 90] (xWb R) (bk 2 (rest [pS 2,pS 4] (xWl R) lf) (lp [iS 90] [lS 0,pS 2,pS 4,iS 6,iS 8,iS 89,iS 90] (xKO R) zXI λJ1=>lf))))) (lp [iS 43] [lS 0,pS 2,pS 4,iS 6,iS 42,iS 43] (xKW R) zXI λJ1=>lf)))
theorem yKU (l0:SV) (w:World) (R:Rt) (h:xWY R l0 [] w):Calls prog 124 #[l0.v] w R:=
 plC F124_p func124 h
def xVm(R:Rt)(p2 p3:Option Addr)(ds:Ds)(w:World):Prop:=
 zQf p3 λa1=>
 ∃ur,w.cell? (a1.add 0)=some (.string ur)/\
 ∃ut,w.cell? (a1.add 1)=some (.int .i64 ut)/\
 ∃uu,w.cell? (a1.add 2)=some (.int .i64 uu)/\
 ∃uv,w.cell? (a1.add 3)=some (.bool uv)/\
 zQf p2 λa2=>
 stA prog 129 a2 #[.string ur,.int .i64 ut,.int .i64 uu,.bool uv] w λw3=>
 zQb prog ds w3 λw4=>
 zQf p2 λa5=>
 ∃uw,w4.cell? (a5.add 0)=some (.string uw)/\
 ∃aj,w4.cell? (a5.add 1)=some (.int .i64 aj)/\
 ∃ux,w4.cell? (a5.add 2)=some (.int .i64 ux)/\
 ∃uy,w4.cell? (a5.add 3)=some (.bool uy)/\
 R (.returned (.agg #[.string uw,.int .i64 aj,.int .i64 ux,.bool uy])) w4
def xWk (R:Rt) (J1:(Unit)->World->Prop) (l0:SV) (p2 p3 nC:Option Addr) (ds:Ds) (w:World):Prop:=
 (∃w6,(Instr.next (.pointer nC) false 0).run prog w=.ok (.tuple #[.bool false]) w6/\
 xVm R p2 p3 ds w6)∨(∃k21 v21:Value,∃w7,(Instr.next (.pointer nC) false 0).run prog w=.ok (.tuple #[.bool true,k21,v21]) w7/\
 ∃k23 v23:Value,∃w8,(Instr.entry (.pointer nC)).run prog w7=.ok (.tuple #[k23,v23]) w8/\
 yVL .i64 k23 λom=>
 yVI v23 λq25=>
 dHd q25 λyv yw=>
 yVL .u8 yv λj2=>
 dHd yw λyx yy=>
 yVL .i64 yx λo2=>
 dHd yy λyz yA=>
 yVL .i64 yz λyB=>
 dHd yA λyC yD=>
 dHd yD λyE yF=>
 yVT yF (
 alE (.cells #[.int .u8 0,.int .i64 0,.int .i64 0,.nilFunc,.nilFunc] 174) w8 λr5 w9=>
 stA prog 174 (⟨r5,0,none⟩:Addr) #[.int .u8 j2,.int .i64 o2,.int .i64 yB,yC,yE] w9 λaP=>
 dwE aP λaU=>
 ∃gi,aU.cell? (⟨r5,0,none⟩:Addr)=some (.int .u8 gi)/\
 ∃jj,l0.a=some jj/\0<=(10:Int)/\(10:Int)<(l0.len:Int)/\
 ∃qF,aU.cell? (jj.add ((10:Int).toNat * 1))=some (.int .u8 qF)/\
 Br (gi == qF) (
 zQf p3 λkN=>
 st1 (kN.add 1) (.int .i64 om) aU λbB=>
 J1 () bB) (
 J1 () aU)))
def yZs(R:Rt)(l0:SV)(p2 p3 nC:Option Addr)(ds:Ds)(w:World):Prop:=
 zQA (λ(J1:(Unit)->World->Prop) (_:Unit) (w:World)=>xWk R J1 l0 p2 p3 nC ds w) () w
def xW4(R:Rt)(l0:SV)(ds:Ds)(w:World):Prop:=
 alE (.cells #[.string (⟨#[]⟩:ByteArray),.int .i64 0,.int .i64 0,.bool false] 129) w λr2 bm=>
 dwE bm λbF=>
 ∃S2:World->Prop,S2 bF/\
 0<=(10:Int)/\(10:Int).toNat<=l0.cap/\0<=(10:Int).toNat/\
 ∃pK,l0.a=some pK/\0<=(11:Int)/\(11:Int)<(l0.len:Int)/\
 ∃dz,(∀w',S2 w'->w'.cell? (pK.add ((11:Int).toNat * 1))=some (.int .u8 dz))/\
 ∃jk,l0.a=some jk/\0<=(12:Int)/\(12:Int)<(l0.len:Int)/\
 ∃n16,(∀w',S2 w'->w'.cell? (jk.add ((12:Int).toNat * 1))=some (.int .u8 n16))/\
 (
 ∃s8:ByteArray,∃cM,(convert 22 9 (.slice (if l0.cap=0 then l0.a else l0.a.map (λx=>x.add (0 * 1))) ((10:Int).toNat - 0) (l0.cap - 0))).run prog bF=.ok (.string s8) cM/\
 S2 cM/\
 (
 Calls prog 119 #[.string s8,.string (⟨#[0]⟩:ByteArray)] cM λe bT=>
 ∃s9:ByteArray,e=.returned (.string s9)/\
 S2 bT/\
 alE (.cells #[.string (⟨#[]⟩:ByteArray),.int .i64 0,.int .i64 0,.bool false] 129) bT λr3 bX=>
 S2 bX/\
 stA prog 129 (⟨r3,0,none⟩:Addr) #[.string s9,.int .i64 0,.int .i64 (IntKind.i64.wrap dz),.bool (n16 == 1)] bX λdf=>
 Calls prog 145 #[] df λe dU=>
 ∃qT:Option Nat,e=.returned (.map qT)/\
 ∃nC:Option Addr,∃dw,(Instr.range 176 (.map qT)).run prog dU=.ok (.pointer nC) dw/\
 yZs R l0 (some (⟨r2,0,none⟩:Addr)) (some (⟨r3,0,none⟩:Addr)) nC ds dw)/\(
 alE (.cells #[.string (⟨#[]⟩:ByteArray),.int .i64 0,.int .i64 0,.bool false] 129) cM λr3 dH=>
 S2 dH/\
 Calls prog 119 #[.string s8,.string (⟨#[0]⟩:ByteArray)] dH λe fj=>
 ∃s9:ByteArray,e=.returned (.string s9)/\
 S2 fj/\
 stA prog 129 (⟨r3,0,none⟩:Addr) #[.string s9,.int .i64 0,.int .i64 (IntKind.i64.wrap dz),.bool (n16 == 1)] fj λiq=>
 Calls prog 145 #[] iq λe eg=>
 ∃qT:Option Nat,e=.returned (.map qT)/\
 ∃nC:Option Addr,∃fm,(Instr.range 176 (.map qT)).run prog eg=.ok (.pointer nC) fm/\
 yZs R l0 (some (⟨r2,0,none⟩:Addr)) (some (⟨r3,0,none⟩:Addr)) nC ds fm))/\(
 alE (.cells #[.string (⟨#[]⟩:ByteArray),.int .i64 0,.int .i64 0,.bool false] 129) bF λr3 ir=>
 S2 ir/\
 ∃s8:ByteArray,∃gu,(convert 22 9 (.slice (if l0.cap=0 then l0.a else l0.a.map (λx=>x.add (0 * 1))) ((10:Int).toNat - 0) (l0.cap - 0))).run prog ir=.ok (.string s8) gu/\
 S2 gu/\
 Calls prog 119 #[.string s8,.string (⟨#[0]⟩:ByteArray)] gu λe gd=>
 ∃s9:ByteArray,e=.returned (.string s9)/\
 S2 gd/\
 stA prog 129 (⟨r3,0,none⟩:Addr) #[.string s9,.int .i64 0,.int .i64 (IntKind.i64.wrap dz),.bool (n16 == 1)] gd λfU=>
 Calls prog 145 #[] fU λe fV=>
 ∃qT:Option Nat,e=.returned (.map qT)/\
 ∃nC:Option Addr,∃iT,(Instr.range 176 (.map qT)).run prog fV=.ok (.pointer nC) iT/\
 yZs R l0 (some (⟨r2,0,none⟩:Addr)) (some (⟨r3,0,none⟩:Addr)) nC ds iT)
theorem F160_p:Pl prog f160 [lS 0] xW4:=λR=>
 pc 3 (rest [lS 0,pS 2,pS 3,pS 20] (yZs R) (bk 0 (rest [pS 2,pS 3] (xVm R) lf) (lp [] [lS 0,pS 2,pS 3,pS 20] (xWk R) zXI λJ1=>lf)))
theorem yK7 (l0:SV) (w:World) (R:Rt) (h:xW4 R l0 [] w):Calls prog 160 #[l0.v] w R:=
 plC F160_p func160 h
def xVv(R:Rt)(n3:Int)(ds:Ds)(w:World):Prop:=
 zQb prog ds w λw1=>
 R (.returned (.int .i64 n3)) w1
def xKo (R:Rt) (J1:(Int × Int)->World->Prop) (l0:SV) (n3 n4:Int) (ds:Ds) (w:World):Prop:=
 Br (decide (n4 >= 0)) (
 0<=(8:Int)/\
 ∃a2,l0.a=some a2/\0<=n4/\n4<(l0.len:Int)/\
 ∃mW,w.cell? (a2.add (n4.toNat * 1))=some (.int .u8 mW)/\
 J1 ((IntKind.i64.wrap ((BitVec.ofInt 64 (IntKind.i64.wrap (n3 * 2 ^ 8)) ||| BitVec.ofInt 64 (IntKind.i64.wrap mW)).toNat:Nat)),(IntKind.i64.wrap (n4 - 1))) w) (
 xVv R n3 ds w)
def xVn(R:Rt)(l0:SV)(n3 n4:Int)(ds:Ds)(w:World):Prop:=
 zQA (λ(J1:(Int × Int)->World->Prop) (s:Int × Int) (w:World)=>xKo R J1 l0 s.1 s.2 ds w) (n3,n4) w
def yYM(R:Rt)(l0:SV)(ds:Ds)(w:World):Prop:=
 xVn R l0 0 (IntKind.i64.wrap ((l0.len:Int) - 1)) ds w
theorem F162_p:Pl prog f162 [lS 0] yYM:=λR=>
 pc 3 (rest [lS 0,iS 3,iS 4] (xVn R) (bk 0 (rest [iS 3] (xVv R) lf) (lp [iS 3,iS 4] [lS 0,iS 3,iS 4] (xKo R) zXI λJ1=>lf)))
theorem yWq (l0:SV) (w:World) (R:Rt) (h:yYM R l0 [] w):Calls prog 162 #[l0.v] w R:=
 plC F162_p func162 h
def xWg(R:Rt)(p4 p6:Option Addr)(b9:Bool)(ds:Ds)(w:World):Prop:=
 zQf p6 λa1=>
 ∃uz,w.cell? (a1.add 0)=some (.bool uz)/\
 ∃kX:SV,w.cell? (a1.add 1)=some (kX.v)/\
 zQf p4 λa2=>
 stA prog 67 a2 #[.bool uz,kX.v] w λw3=>
 zQb prog ds w3 λw4=>
 zQf p4 λa5=>
 ∃bJ,w4.cell? (a5.add 0)=some (.bool bJ)/\
 ∃ab:SV,w4.cell? (a5.add 1)=some (ab.v)/\
 R (.returned (.tuple #[.agg #[.bool bJ,ab.v],.bool b9])) w4
def zQY (R:Rt) (J1:(Int × Int × Bool × Int)->World->Prop) (l1:SV) (p4 p6:Option Addr) (n7 n8:Int) (b9:Bool) (bZ:SV) (cw cv:Int) (ds:Ds) (w:World):Prop:=
 J1 (n7,n8,b9,(IntKind.i64.wrap (cv+1))) w
def xVM (R:Rt) (J1:(Int × Int × Bool × Int)->World->Prop) (l1:SV) (p4 p6:Option Addr) (n7 n8:Int) (b9:Bool) (bZ:SV) (cw cv:Int) (ds:Ds) (w:World):Prop:=
 ∃a6,bZ.a=some a6/\0<=cv/\cv<(bZ.len:Int)/\
 ∃uA,w.cell? ((a6.add (cv.toNat * 4)).add 0)=some (.string uA)/\
 ∃nt,w.cell? ((a6.add (cv.toNat * 4)).add 1)=some (.int .i64 nt)/\
 ∃uB,w.cell? ((a6.add (cv.toNat * 4)).add 2)=some (.int .i64 uB)/\
 ∃nD,w.cell? ((a6.add (cv.toNat * 4)).add 3)=some (.bool nD)/\
 alE (.cells #[.string (⟨#[]⟩:ByteArray),.int .i64 0,.int .i64 0,.bool false] 129) w λcq w7=>
 stA prog 129 (⟨cq,0,none⟩:Addr) #[.string uA,.int .i64 nt,.int .i64 uB,.bool nD] w7 λw8=>
 ∃qS,w8.cell? ((⟨cq,0,none⟩:Addr).add 2)=some (.int .i64 qS)/\
 ∃rQ,w8.cell? ((⟨cq,0,none⟩:Addr).add 2)=some (.int .i64 rQ)/\
 ∃bG:SV,∃w9,(Instr.sliceAt 22 (l1.v) (some (.int .i64 n7)) (some (.int .i64 (IntKind.i64.wrap (n7+qS)))) (some (.int .i64 (IntKind.i64.wrap (n7+rQ))))).run prog w8=.ok (bG.v) w9/\
 ∃eF,w9.cell? ((⟨cq,0,none⟩:Addr).add 2)=some (.int .i64 eF)/\
 ∃b46,w9.cell? ((⟨cq,0,none⟩:Addr).add 3)=some (.bool b46)/\
 Br b46 (
 IntKind.i64=IntKind.i64/\(8:Int) ≠ 0/\
 ∃dy,l1.a=some dy/\0<=(IntKind.i64.wrap ((1:Int)+(IntKind.i64.wrap (n8.tdiv 8))))/\(IntKind.i64.wrap ((1:Int)+(IntKind.i64.wrap (n8.tdiv 8))))<(l1.len:Int)/\
 ∃sV,w9.cell? (dy.add ((IntKind.i64.wrap ((1:Int)+(IntKind.i64.wrap (n8.tdiv 8)))).toNat * 1))=some (.int .u8 sV)/\
 IntKind.i64=IntKind.i64/\(8:Int) ≠ 0/\
 0<=(n8.tmod 8)/\
 Br ((IntKind.u8.wrap ((BitVec.ofInt 8 (sV.fdiv (2 ^ (min (n8.tmod 8).toNat 8))) &&& BitVec.ofInt 8 1).toNat:Nat)) == 1) (
 zQf p6 λdI=>
 ∃kC:SV,w9.cell? (dI.add 1)=some (kC.v)/\
 alE (.cells #[.int .i64 0,.int .i64 0,.string (⟨#[]⟩:ByteArray)] 73) w9 λr64 aQ=>
 ∃jF:SV,∃aJ,(Builtin.append_ #[38,38] 38 #[kC.v,.slice (some ⟨r64,0,none⟩) 1 1]).run prog aQ=.ok (jF.v) aJ/\
 zQf p6 λfY=>
 st1 (fY.add 1) (jF.v) aJ λbm=>
 zQY R J1 l1 p4 p6 (IntKind.i64.wrap (n7+eF)) (IntKind.i64.wrap (n8+1)) b9 bZ cw cv ds bm) (
 dwE w9 λbF=>
 ∃S1:World->Prop,S1 bF/\
 ∃kY,(∀w',S1 w'->w'.cell? ((⟨cq,0,none⟩:Addr).add 1)=some (.int .i64 kY))/\
 (
 Calls prog 145 #[] bF λe bH=>
 ∃eV:Option Nat,e=.returned (.map eV)/\
 ∃S2:World->Prop,S2 bH/\(∀u,S2 u->S1 u)/\
 ∃bL:Int,∃bM:Int,∃bN:Int,∃bO:Value,∃aR:Value,(∀w',S2 w'->(Instr.lookup 176 (.map eV) (.int .i64 kY) false).run prog w'=.ok (.agg #[.int .u8 bL,.int .i64 bM,.int .i64 bN,bO,aR]) w')/\
 (
 ∃dN:ByteArray,∃bU,(convert 22 9 (bG.v)).run prog bH=.ok (.string dN) bU/\
 ∃S3:World->Prop,S3 bU/\(∀u,S3 u->S2 u)/\
 (
 fnE aR λf75 first75 be=>
 zQ5 prog f75=true/\Calls prog f75 (first75.toList ++ (([.string dN]:List Value) ++ be.toList)).toArray bU λe cM=>
 ∃am:Int,∃ao:Int,∃ap:ByteArray,∃aG:Bool,e=.returned (.tuple #[.agg #[.int .i64 am,.int .i64 ao,.string ap],.bool aG])/\
 alE (.cells #[.int .i64 0,.int .i64 0,.string (⟨#[]⟩:ByteArray)] 73) cM λaO bT=>
 stA prog 73 (⟨aO,0,none⟩:Addr) #[.int .i64 am,.int .i64 ao,.string ap] bT λbX=>
 Br b9 (
 zQf p6 λpG=>
 ∃aD:SV,bX.cell? (pG.add 1)=some (aD.v)/\
 ∃ax,bX.cell? ((⟨aO,0,none⟩:Addr).add 0)=some (.int .i64 ax)/\
 ∃ay,bX.cell? ((⟨aO,0,none⟩:Addr).add 1)=some (.int .i64 ay)/\
 ∃az,bX.cell? ((⟨aO,0,none⟩:Addr).add 2)=some (.string az)/\
 alE (.cells #[.int .i64 ax,.int .i64 ay,.string az] 73) bX λcB dU=>
 ∃aF:SV,∃dw,(Builtin.append_ #[38,38] 38 #[aD.v,.slice (some ⟨cB,0,none⟩) 1 1]).run prog dU=.ok (aF.v) dw/\
 zQf p6 λm8=>
 st1 (m8.add 1) (aF.v) dw λfj=>
 zQY R J1 l1 p4 p6 (IntKind.i64.wrap (n7+eF)) (IntKind.i64.wrap (n8+1)) aG bZ cw cv ds fj) (
 zQf p6 λxX=>
 ∃aD:SV,bX.cell? (xX.add 1)=some (aD.v)/\
 ∃ax,bX.cell? ((⟨aO,0,none⟩:Addr).add 0)=some (.int .i64 ax)/\
 ∃ay,bX.cell? ((⟨aO,0,none⟩:Addr).add 1)=some (.int .i64 ay)/\
 ∃az,bX.cell? ((⟨aO,0,none⟩:Addr).add 2)=some (.string az)/\
 alE (.cells #[.int .i64 ax,.int .i64 ay,.string az] 73) bX λcB eg=>
 ∃aF:SV,∃fm,(Builtin.append_ #[38,38] 38 #[aD.v,.slice (some ⟨cB,0,none⟩) 1 1]).run prog eg=.ok (aF.v) fm/\
 zQf p6 λow=>
 st1 (ow.add 1) (aF.v) fm λgu=>
 zQY R J1 l1 p4 p6 (IntKind.i64.wrap (n7+eF)) (IntKind.i64.wrap (n8+1)) false bZ cw cv ds gu))/\(
 alE (.cells #[.int .i64 0,.int .i64 0,.string (⟨#[]⟩:ByteArray)] 73) bU λaO gd=>
 ∃S4:World->Prop,S4 gd/\(∀u,S4 u->S3 u)/\
 fnE aR λf75 first75 be=>
 zQ5 prog f75=true/\Calls prog f75 (first75.toList ++ (([.string dN]:List Value) ++ be.toList)).toArray gd λe fU=>
 ∃am:Int,∃ao:Int,∃ap:ByteArray,∃aG:Bool,e=.returned (.tuple #[.agg #[.int .i64 am,.int .i64 ao,.string ap],.bool aG])/\
 stA prog 73 (⟨aO,0,none⟩:Addr) #[.int .i64 am,.int .i64 ao,.string ap] fU λfV=>
 Br b9 (
 zQf p6 λrY=>
 ∃aD:SV,fV.cell? (rY.add 1)=some (aD.v)/\
 ∃ax,fV.cell? ((⟨aO,0,none⟩:Addr).add 0)=some (.int .i64 ax)/\
 ∃ay,fV.cell? ((⟨aO,0,none⟩:Addr).add 1)=some (.int .i64 ay)/\
 ∃az,fV.cell? ((⟨aO,0,none⟩:Addr).add 2)=some (.string az)/\
 alE (.cells #[.int .i64 ax,.int .i64 ay,.string az] 73) fV λcB pY=>
 ∃aF:SV,∃nn,(Builtin.append_ #[38,38] 38 #[aD.v,.slice (some ⟨cB,0,none⟩) 1 1]).run prog pY=.ok (aF.v) nn/\
 zQf p6 λa38=>
 st1 (a38.add 1) (aF.v) nn λjU=>
 zQY R J1 l1 p4 p6 (IntKind.i64.wrap (n7+eF)) (IntKind.i64.wrap (n8+1)) aG bZ cw cv ds jU) (
 zQf p6 λrZ=>
 ∃aD:SV,fV.cell? (rZ.add 1)=some (aD.v)/\
 ∃ax,fV.cell? ((⟨aO,0,none⟩:Addr).add 0)=some (.int .i64 ax)/\
 ∃ay,fV.cell? ((⟨aO,0,none⟩:Addr).add 1)=some (.int .i64 ay)/\
 ∃az,fV.cell? ((⟨aO,0,none⟩:Addr).add 2)=some (.string az)/\
 alE (.cells #[.int .i64 ax,.int .i64 ay,.string az] 73) fV λcB qd=>
 ∃aF:SV,∃wo,(Builtin.append_ #[38,38] 38 #[aD.v,.slice (some ⟨cB,0,none⟩) 1 1]).run prog qd=.ok (aF.v) wo/\
 zQf p6 λa43=>
 st1 (a43.add 1) (aF.v) wo λkz=>
 zQY R J1 l1 p4 p6 (IntKind.i64.wrap (n7+eF)) (IntKind.i64.wrap (n8+1)) false bZ cw cv ds kz)))/\(
 alE (.cells #[.int .i64 0,.int .i64 0,.string (⟨#[]⟩:ByteArray)] 73) bH λaO wt=>
 ∃S5:World->Prop,S5 wt/\(∀u,S5 u->S2 u)/\
 ∃dN:ByteArray,∃fo,(convert 22 9 (bG.v)).run prog wt=.ok (.string dN) fo/\
 ∃S6:World->Prop,S6 fo/\(∀u,S6 u->S5 u)/\
 fnE aR λf75 first75 be=>
 zQ5 prog f75=true/\Calls prog f75 (first75.toList ++ (([.string dN]:List Value) ++ be.toList)).toArray fo λe o9=>
 ∃am:Int,∃ao:Int,∃ap:ByteArray,∃aG:Bool,e=.returned (.tuple #[.agg #[.int .i64 am,.int .i64 ao,.string ap],.bool aG])/\
 stA prog 73 (⟨aO,0,none⟩:Addr) #[.int .i64 am,.int .i64 ao,.string ap] o9 λkA=>
 Br b9 (
 zQf p6 λyr=>
 ∃aD:SV,kA.cell? (yr.add 1)=some (aD.v)/\
 ∃ax,kA.cell? ((⟨aO,0,none⟩:Addr).add 0)=some (.int .i64 ax)/\
 ∃ay,kA.cell? ((⟨aO,0,none⟩:Addr).add 1)=some (.int .i64 ay)/\
 ∃az,kA.cell? ((⟨aO,0,none⟩:Addr).add 2)=some (.string az)/\
 alE (.cells #[.int .i64 ax,.int .i64 ay,.string az] 73) kA λcB rS=>
 ∃aF:SV,∃w51,(Builtin.append_ #[38,38] 38 #[aD.v,.slice (some ⟨cB,0,none⟩) 1 1]).run prog rS=.ok (aF.v) w51/\
 zQf p6 λv7=>
 st1 (v7.add 1) (aF.v) w51 λrO=>
 zQY R J1 l1 p4 p6 (IntKind.i64.wrap (n7+eF)) (IntKind.i64.wrap (n8+1)) aG bZ cw cv ds rO) (
 zQf p6 λyt=>
 ∃aD:SV,kA.cell? (yt.add 1)=some (aD.v)/\
 ∃ax,kA.cell? ((⟨aO,0,none⟩:Addr).add 0)=some (.int .i64 ax)/\
 ∃ay,kA.cell? ((⟨aO,0,none⟩:Addr).add 1)=some (.int .i64 ay)/\
 ∃az,kA.cell? ((⟨aO,0,none⟩:Addr).add 2)=some (.string az)/\
 alE (.cells #[.int .i64 ax,.int .i64 ay,.string az] 73) kA λcB qR=>
 ∃aF:SV,∃xm,(Builtin.append_ #[38,38] 38 #[aD.v,.slice (some ⟨cB,0,none⟩) 1 1]).run prog qR=.ok (aF.v) xm/\
 zQf p6 λa57=>
 st1 (a57.add 1) (aF.v) xm λrP=>
 zQY R J1 l1 p4 p6 (IntKind.i64.wrap (n7+eF)) (IntKind.i64.wrap (n8+1)) false bZ cw cv ds rP)))/\(
 (
 ∃dN:ByteArray,∃oy,(convert 22 9 (bG.v)).run prog bF=.ok (.string dN) oy/\
 ∃S7:World->Prop,S7 oy/\(∀u,S7 u->S1 u)/\
 (
 Calls prog 145 #[] oy λe oW=>
 ∃eV:Option Nat,e=.returned (.map eV)/\
 ∃S8:World->Prop,S8 oW/\(∀u,S8 u->S7 u)/\
 ∃bL:Int,∃bM:Int,∃bN:Int,∃bO:Value,∃aR:Value,(∀w',S8 w'->(Instr.lookup 176 (.map eV) (.int .i64 kY) false).run prog w'=.ok (.agg #[.int .u8 bL,.int .i64 bM,.int .i64 bN,bO,aR]) w')/\
 (
 fnE aR λf75 first75 be=>
 zQ5 prog f75=true/\Calls prog f75 (first75.toList ++ (([.string dN]:List Value) ++ be.toList)).toArray oW λe pH=>
 ∃am:Int,∃ao:Int,∃ap:ByteArray,∃aG:Bool,e=.returned (.tuple #[.agg #[.int .i64 am,.int .i64 ao,.string ap],.bool aG])/\
 alE (.cells #[.int .i64 0,.int .i64 0,.string (⟨#[]⟩:ByteArray)] 73) pH λaO qA=>
 stA prog 73 (⟨aO,0,none⟩:Addr) #[.int .i64 am,.int .i64 ao,.string ap] qA λoe=>
 Br b9 (
 zQf p6 λa64=>
 ∃aD:SV,oe.cell? (a64.add 1)=some (aD.v)/\
 ∃ax,oe.cell? ((⟨aO,0,none⟩:Addr).add 0)=some (.int .i64 ax)/\
 ∃ay,oe.cell? ((⟨aO,0,none⟩:Addr).add 1)=some (.int .i64 ay)/\
 ∃az,oe.cell? ((⟨aO,0,none⟩:Addr).add 2)=some (.string az)/\
 alE (.cells #[.int .i64 ax,.int .i64 ay,.string az] 73) oe λcB oz=>
 ∃aF:SV,∃oX,(Builtin.append_ #[38,38] 38 #[aD.v,.slice (some ⟨cB,0,none⟩) 1 1]).run prog oz=.ok (aF.v) oX/\
 zQf p6 λuq=>
 st1 (uq.add 1) (aF.v) oX λx7=>
 zQY R J1 l1 p4 p6 (IntKind.i64.wrap (n7+eF)) (IntKind.i64.wrap (n8+1)) aG bZ cw cv ds x7) (
 zQf p6 λa69=>
 ∃aD:SV,oe.cell? (a69.add 1)=some (aD.v)/\
 ∃ax,oe.cell? ((⟨aO,0,none⟩:Addr).add 0)=some (.int .i64 ax)/\
 ∃ay,oe.cell? ((⟨aO,0,none⟩:Addr).add 1)=some (.int .i64 ay)/\
 ∃az,oe.cell? ((⟨aO,0,none⟩:Addr).add 2)=some (.string az)/\
 alE (.cells #[.int .i64 ax,.int .i64 ay,.string az] 73) oe λcB x8=>
 ∃aF:SV,∃pX,(Builtin.append_ #[38,38] 38 #[aD.v,.slice (some ⟨cB,0,none⟩) 1 1]).run prog x8=.ok (aF.v) pX/\
 zQf p6 λa72=>
 st1 (a72.add 1) (aF.v) pX λte=>
 zQY R J1 l1 p4 p6 (IntKind.i64.wrap (n7+eF)) (IntKind.i64.wrap (n8+1)) false bZ cw cv ds te))/\(
 alE (.cells #[.int .i64 0,.int .i64 0,.string (⟨#[]⟩:ByteArray)] 73) oW λaO wk=>
 ∃S9:World->Prop,S9 wk/\(∀u,S9 u->S8 u)/\
 fnE aR λf75 first75 be=>
 zQ5 prog f75=true/\Calls prog f75 (first75.toList ++ (([.string dN]:List Value) ++ be.toList)).toArray wk λe oA=>
 ∃am:Int,∃ao:Int,∃ap:ByteArray,∃aG:Bool,e=.returned (.tuple #[.agg #[.int .i64 am,.int .i64 ao,.string ap],.bool aG])/\
 stA prog 73 (⟨aO,0,none⟩:Addr) #[.int .i64 am,.int .i64 ao,.string ap] oA λoq=>
 Br b9 (
 zQf p6 λa77=>
 ∃aD:SV,oq.cell? (a77.add 1)=some (aD.v)/\
 ∃ax,oq.cell? ((⟨aO,0,none⟩:Addr).add 0)=some (.int .i64 ax)/\
 ∃ay,oq.cell? ((⟨aO,0,none⟩:Addr).add 1)=some (.int .i64 ay)/\
 ∃az,oq.cell? ((⟨aO,0,none⟩:Addr).add 2)=some (.string az)/\
 alE (.cells #[.int .i64 ax,.int .i64 ay,.string az] 73) oq λcB w78=>
 ∃aF:SV,∃qj,(Builtin.append_ #[38,38] 38 #[aD.v,.slice (some ⟨cB,0,none⟩) 1 1]).run prog w78=.ok (aF.v) qj/\
 zQf p6 λa80=>
 st1 (a80.add 1) (aF.v) qj λxr=>
 zQY R J1 l1 p4 p6 (IntKind.i64.wrap (n7+eF)) (IntKind.i64.wrap (n8+1)) aG bZ cw cv ds xr) (
 zQf p6 λa82=>
 ∃aD:SV,oq.cell? (a82.add 1)=some (aD.v)/\
 ∃ax,oq.cell? ((⟨aO,0,none⟩:Addr).add 0)=some (.int .i64 ax)/\
 ∃ay,oq.cell? ((⟨aO,0,none⟩:Addr).add 1)=some (.int .i64 ay)/\
 ∃az,oq.cell? ((⟨aO,0,none⟩:Addr).add 2)=some (.string az)/\
 alE (.cells #[.int .i64 ax,.int .i64 ay,.string az] 73) oq λcB xt=>
 ∃aF:SV,∃w84,(Builtin.append_ #[38,38] 38 #[aD.v,.slice (some ⟨cB,0,none⟩) 1 1]).run prog xt=.ok (aF.v) w84/\
 zQf p6 λa85=>
 st1 (a85.add 1) (aF.v) w84 λw86=>
 zQY R J1 l1 p4 p6 (IntKind.i64.wrap (n7+eF)) (IntKind.i64.wrap (n8+1)) false bZ cw cv ds w86)))/\(
 alE (.cells #[.int .i64 0,.int .i64 0,.string (⟨#[]⟩:ByteArray)] 73) oy λaO yG=>
 ∃S10:World->Prop,S10 yG/\(∀u,S10 u->S7 u)/\
 Calls prog 145 #[] yG λe yH=>
 ∃eV:Option Nat,e=.returned (.map eV)/\
 ∃S11:World->Prop,S11 yH/\(∀u,S11 u->S10 u)/\
 ∃bL:Int,∃bM:Int,∃bN:Int,∃bO:Value,∃aR:Value,(∀w',S11 w'->(Instr.lookup 176 (.map eV) (.int .i64 kY) false).run prog w'=.ok (.agg #[.int .u8 bL,.int .i64 bM,.int .i64 bN,bO,aR]) w')/\
 fnE aR λf75 first75 be=>
 zQ5 prog f75=true/\Calls prog f75 (first75.toList ++ (([.string dN]:List Value) ++ be.toList)).toArray yH λe w89=>
 ∃am:Int,∃ao:Int,∃ap:ByteArray,∃aG:Bool,e=.returned (.tuple #[.agg #[.int .i64 am,.int .i64 ao,.string ap],.bool aG])/\
 stA prog 73 (⟨aO,0,none⟩:Addr) #[.int .i64 am,.int .i64 ao,.string ap] w89 λqk=>
 Br b9 (
 zQf p6 λa91=>
 ∃aD:SV,qk.cell? (a91.add 1)=some (aD.v)/\
 ∃ax,qk.cell? ((⟨aO,0,none⟩:Addr).add 0)=some (.int .i64 ax)/\
 ∃ay,qk.cell? ((⟨aO,0,none⟩:Addr).add 1)=some (.int .i64 ay)/\
 ∃az,qk.cell? ((⟨aO,0,none⟩:Addr).add 2)=some (.string az)/\
 alE (.cells #[.int .i64 ax,.int .i64 ay,.string az] 73) qk λcB w92=>
 ∃aF:SV,∃w93,(Builtin.append_ #[38,38] 38 #[aD.v,.slice (some ⟨cB,0,none⟩) 1 1]).run prog w92=.ok (aF.v) w93/\
 zQf p6 λa94=>
 st1 (a94.add 1) (aF.v) w93 λw95=>
 zQY R J1 l1 p4 p6 (IntKind.i64.wrap (n7+eF)) (IntKind.i64.wrap (n8+1)) aG bZ cw cv ds w95) (
 zQf p6 λa96=>
 ∃aD:SV,qk.cell? (a96.add 1)=some (aD.v)/\
 ∃ax,qk.cell? ((⟨aO,0,none⟩:Addr).add 0)=some (.int .i64 ax)/\
 ∃ay,qk.cell? ((⟨aO,0,none⟩:Addr).add 1)=some (.int .i64 ay)/\
 ∃az,qk.cell? ((⟨aO,0,none⟩:Addr).add 2)=some (.string az)/\
 alE (.cells #[.int .i64 ax,.int .i64 ay,.string az] 73) qk λcB w97=>
 ∃aF:SV,∃w98,(Builtin.append_ #[38,38] 38 #[aD.v,.slice (some ⟨cB,0,none⟩) 1 1]).run prog w97=.ok (aF.v) w98/\
 zQf p6 λa99=>
 st1 (a99.add 1) (aF.v) w98 λw100=>
 zQY R J1 l1 p4 p6 (IntKind.i64.wrap (n7+eF)) (IntKind.i64.wrap (n8+1)) false bZ cw cv ds w100)))/\(
 alE (.cells #[.int .i64 0,.int .i64 0,.string (⟨#[]⟩:ByteArray)] 73) bF λaO oG=>
 ∃S12:World->Prop,S12 oG/\(∀u,S12 u->S1 u)/\
 (
 Calls prog 145 #[] oG λe qU=>
 ∃eV:Option Nat,e=.returned (.map eV)/\
 ∃S13:World->Prop,S13 qU/\(∀u,S13 u->S12 u)/\
 ∃bL:Int,∃bM:Int,∃bN:Int,∃bO:Value,∃aR:Value,(∀w',S13 w'->(Instr.lookup 176 (.map eV) (.int .i64 kY) false).run prog w'=.ok (.agg #[.int .u8 bL,.int .i64 bM,.int .i64 bN,bO,aR]) w')/\
 ∃dN:ByteArray,∃oH,(convert 22 9 (bG.v)).run prog qU=.ok (.string dN) oH/\
 ∃S14:World->Prop,S14 oH/\(∀u,S14 u->S13 u)/\
 fnE aR λf75 first75 be=>
 zQ5 prog f75=true/\Calls prog f75 (first75.toList ++ (([.string dN]:List Value) ++ be.toList)).toArray oH λe wu=>
 ∃am:Int,∃ao:Int,∃ap:ByteArray,∃aG:Bool,e=.returned (.tuple #[.agg #[.int .i64 am,.int .i64 ao,.string ap],.bool aG])/\
 stA prog 73 (⟨aO,0,none⟩:Addr) #[.int .i64 am,.int .i64 ao,.string ap] wu λjQ=>
 Br b9 (
 zQf p6 λa106=>
 ∃aD:SV,jQ.cell? (a106.add 1)=some (aD.v)/\
 ∃ax,jQ.cell? ((⟨aO,0,none⟩:Addr).add 0)=some (.int .i64 ax)/\
 ∃ay,jQ.cell? ((⟨aO,0,none⟩:Addr).add 1)=some (.int .i64 ay)/\
 ∃az,jQ.cell? ((⟨aO,0,none⟩:Addr).add 2)=some (.string az)/\
 alE (.cells #[.int .i64 ax,.int .i64 ay,.string az] 73) jQ λcB w107=>
 ∃aF:SV,∃yI,(Builtin.append_ #[38,38] 38 #[aD.v,.slice (some ⟨cB,0,none⟩) 1 1]).run prog w107=.ok (aF.v) yI/\
 zQf p6 λa109=>
 st1 (a109.add 1) (aF.v) yI λw110=>
 zQY R J1 l1 p4 p6 (IntKind.i64.wrap (n7+eF)) (IntKind.i64.wrap (n8+1)) aG bZ cw cv ds w110) (
 zQf p6 λa111=>
 ∃aD:SV,jQ.cell? (a111.add 1)=some (aD.v)/\
 ∃ax,jQ.cell? ((⟨aO,0,none⟩:Addr).add 0)=some (.int .i64 ax)/\
 ∃ay,jQ.cell? ((⟨aO,0,none⟩:Addr).add 1)=some (.int .i64 ay)/\
 ∃az,jQ.cell? ((⟨aO,0,none⟩:Addr).add 2)=some (.string az)/\
 alE (.cells #[.int .i64 ax,.int .i64 ay,.string az] 73) jQ λcB w112=>
 ∃aF:SV,∃yJ,(Builtin.append_ #[38,38] 38 #[aD.v,.slice (some ⟨cB,0,none⟩) 1 1]).run prog w112=.ok (aF.v) yJ/\
 zQf p6 λa114=>
 st1 (a114.add 1) (aF.v) yJ λw115=>
 zQY R J1 l1 p4 p6 (IntKind.i64.wrap (n7+eF)) (IntKind.i64.wrap (n8+1)) false bZ cw cv ds w115))/\(
 ∃dN:ByteArray,∃oI,(convert 22 9 (bG.v)).run prog oG=.ok (.string dN) oI/\
 ∃S15:World->Prop,S15 oI/\(∀u,S15 u->S12 u)/\
 Calls prog 145 #[] oI λe qV=>
 ∃eV:Option Nat,e=.returned (.map eV)/\
 ∃S16:World->Prop,S16 qV/\(∀u,S16 u->S15 u)/\
 ∃bL:Int,∃bM:Int,∃bN:Int,∃bO:Value,∃aR:Value,(∀w',S16 w'->(Instr.lookup 176 (.map eV) (.int .i64 kY) false).run prog w'=.ok (.agg #[.int .u8 bL,.int .i64 bM,.int .i64 bN,bO,aR]) w')/\
 fnE aR λf75 first75 be=>
 zQ5 prog f75=true/\Calls prog f75 (first75.toList ++ (([.string dN]:List Value) ++ be.toList)).toArray qV λe wA=>
 ∃am:Int,∃ao:Int,∃ap:ByteArray,∃aG:Bool,e=.returned (.tuple #[.agg #[.int .i64 am,.int .i64 ao,.string ap],.bool aG])/\
 stA prog 73 (⟨aO,0,none⟩:Addr) #[.int .i64 am,.int .i64 ao,.string ap] wA λjR=>
 Br b9 (
 zQf p6 λa120=>
 ∃aD:SV,jR.cell? (a120.add 1)=some (aD.v)/\
 ∃ax,jR.cell? ((⟨aO,0,none⟩:Addr).add 0)=some (.int .i64 ax)/\
 ∃ay,jR.cell? ((⟨aO,0,none⟩:Addr).add 1)=some (.int .i64 ay)/\
 ∃az,jR.cell? ((⟨aO,0,none⟩:Addr).add 2)=some (.string az)/\
 alE (.cells #[.int .i64 ax,.int .i64 ay,.string az] 73) jR λcB w121=>
 ∃aF:SV,∃yK,(Builtin.append_ #[38,38] 38 #[aD.v,.slice (some ⟨cB,0,none⟩) 1 1]).run prog w121=.ok (aF.v) yK/\
 zQf p6 λa123=>
 st1 (a123.add 1) (aF.v) yK λw124=>
 zQY R J1 l1 p4 p6 (IntKind.i64.wrap (n7+eF)) (IntKind.i64.wrap (n8+1)) aG bZ cw cv ds w124) (
 zQf p6 λa125=>
 ∃aD:SV,jR.cell? (a125.add 1)=some (aD.v)/\
 ∃ax,jR.cell? ((⟨aO,0,none⟩:Addr).add 0)=some (.int .i64 ax)/\
 ∃ay,jR.cell? ((⟨aO,0,none⟩:Addr).add 1)=some (.int .i64 ay)/\
 ∃az,jR.cell? ((⟨aO,0,none⟩:Addr).add 2)=some (.string az)/\
 alE (.cells #[.int .i64 ax,.int .i64 ay,.string az] 73) jR λcB w126=>
 ∃aF:SV,∃yL,(Builtin.append_ #[38,38] 38 #[aD.v,.slice (some ⟨cB,0,none⟩) 1 1]).run prog w126=.ok (aF.v) yL/\
 zQf p6 λa128=>
 st1 (a128.add 1) (aF.v) yL λw129=>
 zQY R J1 l1 p4 p6 (IntKind.i64.wrap (n7+eF)) (IntKind.i64.wrap (n8+1)) false bZ cw cv ds w129)))))) (
 dwE w9 λsl=>
 ∃S17:World->Prop,S17 sl/\
 ∃kY,(∀w',S17 w'->w'.cell? ((⟨cq,0,none⟩:Addr).add 1)=some (.int .i64 kY))/\
 (
 Calls prog 145 #[] sl λe wB=>
 ∃eV:Option Nat,e=.returned (.map eV)/\
 ∃S18:World->Prop,S18 wB/\(∀u,S18 u->S17 u)/\
 ∃bL:Int,∃bM:Int,∃bN:Int,∃bO:Value,∃aR:Value,(∀w',S18 w'->(Instr.lookup 176 (.map eV) (.int .i64 kY) false).run prog w'=.ok (.agg #[.int .u8 bL,.int .i64 bM,.int .i64 bN,bO,aR]) w')/\
 (
 ∃dN:ByteArray,∃sm,(convert 22 9 (bG.v)).run prog wB=.ok (.string dN) sm/\
 ∃S19:World->Prop,S19 sm/\(∀u,S19 u->S18 u)/\
 (
 fnE aR λf75 first75 be=>
 zQ5 prog f75=true/\Calls prog f75 (first75.toList ++ (([.string dN]:List Value) ++ be.toList)).toArray sm λe w133=>
 ∃am:Int,∃ao:Int,∃ap:ByteArray,∃aG:Bool,e=.returned (.tuple #[.agg #[.int .i64 am,.int .i64 ao,.string ap],.bool aG])/\
 alE (.cells #[.int .i64 0,.int .i64 0,.string (⟨#[]⟩:ByteArray)] 73) w133 λaO w134=>
 stA prog 73 (⟨aO,0,none⟩:Addr) #[.int .i64 am,.int .i64 ao,.string ap] w134 λkD=>
 Br b9 (
 zQf p6 λa136=>
 ∃aD:SV,kD.cell? (a136.add 1)=some (aD.v)/\
 ∃ax,kD.cell? ((⟨aO,0,none⟩:Addr).add 0)=some (.int .i64 ax)/\
 ∃ay,kD.cell? ((⟨aO,0,none⟩:Addr).add 1)=some (.int .i64 ay)/\
 ∃az,kD.cell? ((⟨aO,0,none⟩:Addr).add 2)=some (.string az)/\
 alE (.cells #[.int .i64 ax,.int .i64 ay,.string az] 73) kD λcB w137=>
 ∃aF:SV,∃yM,(Builtin.append_ #[38,38] 38 #[aD.v,.slice (some ⟨cB,0,none⟩) 1 1]).run prog w137=.ok (aF.v) yM/\
 zQf p6 λa139=>
 st1 (a139.add 1) (aF.v) yM λw140=>
 zQY R J1 l1 p4 p6 (IntKind.i64.wrap (n7+eF)) n8 aG bZ cw cv ds w140) (
 zQf p6 λa141=>
 ∃aD:SV,kD.cell? (a141.add 1)=some (aD.v)/\
 ∃ax,kD.cell? ((⟨aO,0,none⟩:Addr).add 0)=some (.int .i64 ax)/\
 ∃ay,kD.cell? ((⟨aO,0,none⟩:Addr).add 1)=some (.int .i64 ay)/\
 ∃az,kD.cell? ((⟨aO,0,none⟩:Addr).add 2)=some (.string az)/\
 alE (.cells #[.int .i64 ax,.int .i64 ay,.string az] 73) kD λcB w142=>
 ∃aF:SV,∃yN,(Builtin.append_ #[38,38] 38 #[aD.v,.slice (some ⟨cB,0,none⟩) 1 1]).run prog w142=.ok (aF.v) yN/\
 zQf p6 λa144=>
 st1 (a144.add 1) (aF.v) yN λw145=>
 zQY R J1 l1 p4 p6 (IntKind.i64.wrap (n7+eF)) n8 false bZ cw cv ds w145))/\(
 alE (.cells #[.int .i64 0,.int .i64 0,.string (⟨#[]⟩:ByteArray)] 73) sm λaO yO=>
 ∃S20:World->Prop,S20 yO/\(∀u,S20 u->S19 u)/\
 fnE aR λf75 first75 be=>
 zQ5 prog f75=true/\Calls prog f75 (first75.toList ++ (([.string dN]:List Value) ++ be.toList)).toArray yO λe w147=>
 ∃am:Int,∃ao:Int,∃ap:ByteArray,∃aG:Bool,e=.returned (.tuple #[.agg #[.int .i64 am,.int .i64 ao,.string ap],.bool aG])/\
 stA prog 73 (⟨aO,0,none⟩:Addr) #[.int .i64 am,.int .i64 ao,.string ap] w147 λkE=>
 Br b9 (
 zQf p6 λa149=>
 ∃aD:SV,kE.cell? (a149.add 1)=some (aD.v)/\
 ∃ax,kE.cell? ((⟨aO,0,none⟩:Addr).add 0)=some (.int .i64 ax)/\
 ∃ay,kE.cell? ((⟨aO,0,none⟩:Addr).add 1)=some (.int .i64 ay)/\
 ∃az,kE.cell? ((⟨aO,0,none⟩:Addr).add 2)=some (.string az)/\
 alE (.cells #[.int .i64 ax,.int .i64 ay,.string az] 73) kE λcB w150=>
 ∃aF:SV,∃yP,(Builtin.append_ #[38,38] 38 #[aD.v,.slice (some ⟨cB,0,none⟩) 1 1]).run prog w150=.ok (aF.v) yP/\
 zQf p6 λa152=>
 st1 (a152.add 1) (aF.v) yP λw153=>
 zQY R J1 l1 p4 p6 (IntKind.i64.wrap (n7+eF)) n8 aG bZ cw cv ds w153) (
 zQf p6 λa154=>
 ∃aD:SV,kE.cell? (a154.add 1)=some (aD.v)/\
 ∃ax,kE.cell? ((⟨aO,0,none⟩:Addr).add 0)=some (.int .i64 ax)/\
 ∃ay,kE.cell? ((⟨aO,0,none⟩:Addr).add 1)=some (.int .i64 ay)/\
 ∃az,kE.cell? ((⟨aO,0,none⟩:Addr).add 2)=some (.string az)/\
 alE (.cells #[.int .i64 ax,.int .i64 ay,.string az] 73) kE λcB w155=>
 ∃aF:SV,∃yQ,(Builtin.append_ #[38,38] 38 #[aD.v,.slice (some ⟨cB,0,none⟩) 1 1]).run prog w155=.ok (aF.v) yQ/\
 zQf p6 λa157=>
 st1 (a157.add 1) (aF.v) yQ λw158=>
 zQY R J1 l1 p4 p6 (IntKind.i64.wrap (n7+eF)) n8 false bZ cw cv ds w158)))/\(
 alE (.cells #[.int .i64 0,.int .i64 0,.string (⟨#[]⟩:ByteArray)] 73) wB λaO yR=>
 ∃S21:World->Prop,S21 yR/\(∀u,S21 u->S18 u)/\
 ∃dN:ByteArray,∃wC,(convert 22 9 (bG.v)).run prog yR=.ok (.string dN) wC/\
 ∃S22:World->Prop,S22 wC/\(∀u,S22 u->S21 u)/\
 fnE aR λf75 first75 be=>
 zQ5 prog f75=true/\Calls prog f75 (first75.toList ++ (([.string dN]:List Value) ++ be.toList)).toArray wC λe w161=>
 ∃am:Int,∃ao:Int,∃ap:ByteArray,∃aG:Bool,e=.returned (.tuple #[.agg #[.int .i64 am,.int .i64 ao,.string ap],.bool aG])/\
 stA prog 73 (⟨aO,0,none⟩:Addr) #[.int .i64 am,.int .i64 ao,.string ap] w161 λkF=>
 Br b9 (
 zQf p6 λa163=>
 ∃aD:SV,kF.cell? (a163.add 1)=some (aD.v)/\
 ∃ax,kF.cell? ((⟨aO,0,none⟩:Addr).add 0)=some (.int .i64 ax)/\
 ∃ay,kF.cell? ((⟨aO,0,none⟩:Addr).add 1)=some (.int .i64 ay)/\
 ∃az,kF.cell? ((⟨aO,0,none⟩:Addr).add 2)=some (.string az)/\
 alE (.cells #[.int .i64 ax,.int .i64 ay,.string az] 73) kF λcB w164=>
 ∃aF:SV,∃yS,(Builtin.append_ #[38,38] 38 #[aD.v,.slice (some ⟨cB,0,none⟩) 1 1]).run prog w164=.ok (aF.v) yS/\
 zQf p6 λa166=>
 st1 (a166.add 1) (aF.v) yS λw167=>
 zQY R J1 l1 p4 p6 (IntKind.i64.wrap (n7+eF)) n8 aG bZ cw cv ds w167) (
 zQf p6 λa168=>
 ∃aD:SV,kF.cell? (a168.add 1)=some (aD.v)/\
 ∃ax,kF.cell? ((⟨aO,0,none⟩:Addr).add 0)=some (.int .i64 ax)/\
 ∃ay,kF.cell? ((⟨aO,0,none⟩:Addr).add 1)=some (.int .i64 ay)/\
 ∃az,kF.cell? ((⟨aO,0,none⟩:Addr).add 2)=some (.string az)/\
 alE (.cells #[.int .i64 ax,.int .i64 ay,.string az] 73) kF λcB w169=>
 ∃aF:SV,∃yT,(Builtin.append_ #[38,38] 38 #[aD.v,.slice (some ⟨cB,0,none⟩) 1 1]).run prog w169=.ok (aF.v) yT/\
 zQf p6 λa171=>
 st1 (a171.add 1) (aF.v) yT λw172=>
 zQY R J1 l1 p4 p6 (IntKind.i64.wrap (n7+eF)) n8 false bZ cw cv ds w172)))/\(
 (
 ∃dN:ByteArray,∃sn,(convert 22 9 (bG.v)).run prog sl=.ok (.string dN) sn/\
 ∃S23:World->Prop,S23 sn/\(∀u,S23 u->S17 u)/\
 (
 Calls prog 145 #[] sn λe wD=>
 ∃eV:Option Nat,e=.returned (.map eV)/\
 ∃S24:World->Prop,S24 wD/\(∀u,S24 u->S23 u)/\
 ∃bL:Int,∃bM:Int,∃bN:Int,∃bO:Value,∃aR:Value,(∀w',S24 w'->(Instr.lookup 176 (.map eV) (.int .i64 kY) false).run prog w'=.ok (.agg #[.int .u8 bL,.int .i64 bM,.int .i64 bN,bO,aR]) w')/\
 (
 fnE aR λf75 first75 be=>
 zQ5 prog f75=true/\Calls prog f75 (first75.toList ++ (([.string dN]:List Value) ++ be.toList)).toArray wD λe w175=>
 ∃am:Int,∃ao:Int,∃ap:ByteArray,∃aG:Bool,e=.returned (.tuple #[.agg #[.int .i64 am,.int .i64 ao,.string ap],.bool aG])/\
 alE (.cells #[.int .i64 0,.int .i64 0,.string (⟨#[]⟩:ByteArray)] 73) w175 λaO w176=>
 stA prog 73 (⟨aO,0,none⟩:Addr) #[.int .i64 am,.int .i64 ao,.string ap] w176 λkG=>
 Br b9 (
 zQf p6 λa178=>
 ∃aD:SV,kG.cell? (a178.add 1)=some (aD.v)/\
 ∃ax,kG.cell? ((⟨aO,0,none⟩:Addr).add 0)=some (.int .i64 ax)/\
 ∃ay,kG.cell? ((⟨aO,0,none⟩:Addr).add 1)=some (.int .i64 ay)/\
 ∃az,kG.cell? ((⟨aO,0,none⟩:Addr).add 2)=some (.string az)/\
 alE (.cells #[.int .i64 ax,.int .i64 ay,.string az] 73) kG λcB w179=>
 ∃aF:SV,∃yU,(Builtin.append_ #[38,38] 38 #[aD.v,.slice (some ⟨cB,0,none⟩) 1 1]).run prog w179=.ok (aF.v) yU/\
 zQf p6 λa181=>
 st1 (a181.add 1) (aF.v) yU λw182=>
 zQY R J1 l1 p4 p6 (IntKind.i64.wrap (n7+eF)) n8 aG bZ cw cv ds w182) (
 zQf p6 λa183=>
 ∃aD:SV,kG.cell? (a183.add 1)=some (aD.v)/\
 ∃ax,kG.cell? ((⟨aO,0,none⟩:Addr).add 0)=some (.int .i64 ax)/\
 ∃ay,kG.cell? ((⟨aO,0,none⟩:Addr).add 1)=some (.int .i64 ay)/\
 ∃az,kG.cell? ((⟨aO,0,none⟩:Addr).add 2)=some (.string az)/\
 alE (.cells #[.int .i64 ax,.int .i64 ay,.string az] 73) kG λcB w184=>
 ∃aF:SV,∃yV,(Builtin.append_ #[38,38] 38 #[aD.v,.slice (some ⟨cB,0,none⟩) 1 1]).run prog w184=.ok (aF.v) yV/\
 zQf p6 λa186=>
 st1 (a186.add 1) (aF.v) yV λw187=>
 zQY R J1 l1 p4 p6 (IntKind.i64.wrap (n7+eF)) n8 false bZ cw cv ds w187))/\(
 alE (.cells #[.int .i64 0,.int .i64 0,.string (⟨#[]⟩:ByteArray)] 73) wD λaO yW=>
 ∃S25:World->Prop,S25 yW/\(∀u,S25 u->S24 u)/\
 fnE aR λf75 first75 be=>
 zQ5 prog f75=true/\Calls prog f75 (first75.toList ++ (([.string dN]:List Value) ++ be.toList)).toArray yW λe w189=>
 ∃am:Int,∃ao:Int,∃ap:ByteArray,∃aG:Bool,e=.returned (.tuple #[.agg #[.int .i64 am,.int .i64 ao,.string ap],.bool aG])/\
 stA prog 73 (⟨aO,0,none⟩:Addr) #[.int .i64 am,.int .i64 ao,.string ap] w189 λkH=>
 Br b9 (
 zQf p6 λa191=>
 ∃aD:SV,kH.cell? (a191.add 1)=some (aD.v)/\
 ∃ax,kH.cell? ((⟨aO,0,none⟩:Addr).add 0)=some (.int .i64 ax)/\
 ∃ay,kH.cell? ((⟨aO,0,none⟩:Addr).add 1)=some (.int .i64 ay)/\
 ∃az,kH.cell? ((⟨aO,0,none⟩:Addr).add 2)=some (.string az)/\
 alE (.cells #[.int .i64 ax,.int .i64 ay,.string az] 73) kH λcB w192=>
 ∃aF:SV,∃yX,(Builtin.append_ #[38,38] 38 #[aD.v,.slice (some ⟨cB,0,none⟩) 1 1]).run prog w192=.ok (aF.v) yX/\
 zQf p6 λa194=>
 st1 (a194.add 1) (aF.v) yX λw195=>
 zQY R J1 l1 p4 p6 (IntKind.i64.wrap (n7+eF)) n8 aG bZ cw cv ds w195) (
 zQf p6 λa196=>
 ∃aD:SV,kH.cell? (a196.add 1)=some (aD.v)/\
 ∃ax,kH.cell? ((⟨aO,0,none⟩:Addr).add 0)=some (.int .i64 ax)/\
 ∃ay,kH.cell? ((⟨aO,0,none⟩:Addr).add 1)=some (.int .i64 ay)/\
 ∃az,kH.cell? ((⟨aO,0,none⟩:Addr).add 2)=some (.string az)/\
 alE (.cells #[.int .i64 ax,.int .i64 ay,.string az] 73) kH λcB w197=>
 ∃aF:SV,∃yY,(Builtin.append_ #[38,38] 38 #[aD.v,.slice (some ⟨cB,0,none⟩) 1 1]).run prog w197=.ok (aF.v) yY/\
 zQf p6 λa199=>
 st1 (a199.add 1) (aF.v) yY λw200=>
 zQY R J1 l1 p4 p6 (IntKind.i64.wrap (n7+eF)) n8 false bZ cw cv ds w200)))/\(
 alE (.cells #[.int .i64 0,.int .i64 0,.string (⟨#[]⟩:ByteArray)] 73) sn λaO yZ=>
 ∃S26:World->Prop,S26 yZ/\(∀u,S26 u->S23 u)/\
 Calls prog 145 #[] yZ λe y2=>
 ∃eV:Option Nat,e=.returned (.map eV)/\
 ∃S27:World->Prop,S27 y2/\(∀u,S27 u->S26 u)/\
 ∃bL:Int,∃bM:Int,∃bN:Int,∃bO:Value,∃aR:Value,(∀w',S27 w'->(Instr.lookup 176 (.map eV) (.int .i64 kY) false).run prog w'=.ok (.agg #[.int .u8 bL,.int .i64 bM,.int .i64 bN,bO,aR]) w')/\
 fnE aR λf75 first75 be=>
 zQ5 prog f75=true/\Calls prog f75 (first75.toList ++ (([.string dN]:List Value) ++ be.toList)).toArray y2 λe w203=>
 ∃am:Int,∃ao:Int,∃ap:ByteArray,∃aG:Bool,e=.returned (.tuple #[.agg #[.int .i64 am,.int .i64 ao,.string ap],.bool aG])/\
 stA prog 73 (⟨aO,0,none⟩:Addr) #[.int .i64 am,.int .i64 ao,.string ap] w203 λkI=>
 Br b9 (
 zQf p6 λa205=>
 ∃aD:SV,kI.cell? (a205.add 1)=some (aD.v)/\
 ∃ax,kI.cell? ((⟨aO,0,none⟩:Addr).add 0)=some (.int .i64 ax)/\
 ∃ay,kI.cell? ((⟨aO,0,none⟩:Addr).add 1)=some (.int .i64 ay)/\
 ∃az,kI.cell? ((⟨aO,0,none⟩:Addr).add 2)=some (.string az)/\
 alE (.cells #[.int .i64 ax,.int .i64 ay,.string az] 73) kI λcB w206=>
 ∃aF:SV,∃y3,(Builtin.append_ #[38,38] 38 #[aD.v,.slice (some ⟨cB,0,none⟩) 1 1]).run prog w206=.ok (aF.v) y3/\
 zQf p6 λa208=>
 st1 (a208.add 1) (aF.v) y3 λw209=>
 zQY R J1 l1 p4 p6 (IntKind.i64.wrap (n7+eF)) n8 aG bZ cw cv ds w209) (
 zQf p6 λa210=>
 ∃aD:SV,kI.cell? (a210.add 1)=some (aD.v)/\
 ∃ax,kI.cell? ((⟨aO,0,none⟩:Addr).add 0)=some (.int .i64 ax)/\
 ∃ay,kI.cell? ((⟨aO,0,none⟩:Addr).add 1)=some (.int .i64 ay)/\
 ∃az,kI.cell? ((⟨aO,0,none⟩:Addr).add 2)=some (.string az)/\
 alE (.cells #[.int .i64 ax,.int .i64 ay,.string az] 73) kI λcB w211=>
 ∃aF:SV,∃y4,(Builtin.append_ #[38,38] 38 #[aD.v,.slice (some ⟨cB,0,none⟩) 1 1]).run prog w211=.ok (aF.v) y4/\
 zQf p6 λa213=>
 st1 (a213.add 1) (aF.v) y4 λw214=>
 zQY R J1 l1 p4 p6 (IntKind.i64.wrap (n7+eF)) n8 false bZ cw cv ds w214)))/\(
 alE (.cells #[.int .i64 0,.int .i64 0,.string (⟨#[]⟩:ByteArray)] 73) sl λaO wE=>
 ∃S28:World->Prop,S28 wE/\(∀u,S28 u->S17 u)/\
 (
 Calls prog 145 #[] wE λe y5=>
 ∃eV:Option Nat,e=.returned (.map eV)/\
 ∃S29:World->Prop,S29 y5/\(∀u,S29 u->S28 u)/\
 ∃bL:Int,∃bM:Int,∃bN:Int,∃bO:Value,∃aR:Value,(∀w',S29 w'->(Instr.lookup 176 (.map eV) (.int .i64 kY) false).run prog w'=.ok (.agg #[.int .u8 bL,.int .i64 bM,.int .i64 bN,bO,aR]) w')/\
 ∃dN:ByteArray,∃wF,(convert 22 9 (bG.v)).run prog y5=.ok (.string dN) wF/\
 ∃S30:World->Prop,S30 wF/\(∀u,S30 u->S29 u)/\
 fnE aR λf75 first75 be=>
 zQ5 prog f75=true/\Calls prog f75 (first75.toList ++ (([.string dN]:List Value) ++ be.toList)).toArray wF λe w218=>
 ∃am:Int,∃ao:Int,∃ap:ByteArray,∃aG:Bool,e=.returned (.tuple #[.agg #[.int .i64 am,.int .i64 ao,.string ap],.bool aG])/\
 stA prog 73 (⟨aO,0,none⟩:Addr) #[.int .i64 am,.int .i64 ao,.string ap] w218 λkJ=>
 Br b9 (
 zQf p6 λa220=>
 ∃aD:SV,kJ.cell? (a220.add 1)=some (aD.v)/\
 ∃ax,kJ.cell? ((⟨aO,0,none⟩:Addr).add 0)=some (.int .i64 ax)/\
 ∃ay,kJ.cell? ((⟨aO,0,none⟩:Addr).add 1)=some (.int .i64 ay)/\
 ∃az,kJ.cell? ((⟨aO,0,none⟩:Addr).add 2)=some (.string az)/\
 alE (.cells #[.int .i64 ax,.int .i64 ay,.string az] 73) kJ λcB w221=>
 ∃aF:SV,∃y6,(Builtin.append_ #[38,38] 38 #[aD.v,.slice (some ⟨cB,0,none⟩) 1 1]).run prog w221=.ok (aF.v) y6/\
 zQf p6 λa223=>
 st1 (a223.add 1) (aF.v) y6 λw224=>
 zQY R J1 l1 p4 p6 (IntKind.i64.wrap (n7+eF)) n8 aG bZ cw cv ds w224) (
 zQf p6 λa225=>
 ∃aD:SV,kJ.cell? (a225.add 1)=some (aD.v)/\
 ∃ax,kJ.cell? ((⟨aO,0,none⟩:Addr).add 0)=some (.int .i64 ax)/\
 ∃ay,kJ.cell? ((⟨aO,0,none⟩:Addr).add 1)=some (.int .i64 ay)/\
 ∃az,kJ.cell? ((⟨aO,0,none⟩:Addr).add 2)=some (.string az)/\
 alE (.cells #[.int .i64 ax,.int .i64 ay,.string az] 73) kJ λcB w226=>
 ∃aF:SV,∃y7,(Builtin.append_ #[38,38] 38 #[aD.v,.slice (some ⟨cB,0,none⟩) 1 1]).run prog w226=.ok (aF.v) y7/\
 zQf p6 λa228=>
 st1 (a228.add 1) (aF.v) y7 λw229=>
 zQY R J1 l1 p4 p6 (IntKind.i64.wrap (n7+eF)) n8 false bZ cw cv ds w229))/\(
 ∃dN:ByteArray,∃wG,(convert 22 9 (bG.v)).run prog wE=.ok (.string dN) wG/\
 ∃S31:World->Prop,S31 wG/\(∀u,S31 u->S28 u)/\
 Calls prog 145 #[] wG λe y8=>
 ∃eV:Option Nat,e=.returned (.map eV)/\
 ∃S32:World->Prop,S32 y8/\(∀u,S32 u->S31 u)/\
 ∃bL:Int,∃bM:Int,∃bN:Int,∃bO:Value,∃aR:Value,(∀w',S32 w'->(Instr.lookup 176 (.map eV) (.int .i64 kY) false).run prog w'=.ok (.agg #[.int .u8 bL,.int .i64 bM,.int .i64 bN,bO,aR]) w')/\
 fnE aR λf75 first75 be=>
 zQ5 prog f75=true/\Calls prog f75 (first75.toList ++ (([.string dN]:List Value) ++ be.toList)).toArray y8 λe w232=>
 ∃am:Int,∃ao:Int,∃ap:ByteArray,∃aG:Bool,e=.returned (.tuple #[.agg #[.int .i64 am,.int .i64 ao,.string ap],.bool aG])/\
 stA prog 73 (⟨aO,0,none⟩:Addr) #[.int .i64 am,.int .i64 ao,.string ap] w232 λkK=>
 Br b9 (
 zQf p6 λa234=>
 ∃aD:SV,kK.cell? (a234.add 1)=some (aD.v)/\
 ∃ax,kK.cell? ((⟨aO,0,none⟩:Addr).add 0)=some (.int .i64 ax)/\
 ∃ay,kK.cell? ((⟨aO,0,none⟩:Addr).add 1)=some (.int .i64 ay)/\
 ∃az,kK.cell? ((⟨aO,0,none⟩:Addr).add 2)=some (.string az)/\
 alE (.cells #[.int .i64 ax,.int .i64 ay,.string az] 73) kK λcB w235=>
 ∃aF:SV,∃za,(Builtin.append_ #[38,38] 38 #[aD.v,.slice (some ⟨cB,0,none⟩) 1 1]).run prog w235=.ok (aF.v) za/\
 zQf p6 λa237=>
 st1 (a237.add 1) (aF.v) za λw238=>
 zQY R J1 l1 p4 p6 (IntKind.i64.wrap (n7+eF)) n8 aG bZ cw cv ds w238) (
 zQf p6 λa239=>
 ∃aD:SV,kK.cell? (a239.add 1)=some (aD.v)/\
 ∃ax,kK.cell? ((⟨aO,0,none⟩:Addr).add 0)=some (.int .i64 ax)/\
 ∃ay,kK.cell? ((⟨aO,0,none⟩:Addr).add 1)=some (.int .i64 ay)/\
 ∃az,kK.cell? ((⟨aO,0,none⟩:Addr).add 2)=some (.string az)/\
 alE (.cells #[.int .i64 ax,.int .i64 ay,.string az] 73) kK λcB w240=>
 ∃aF:SV,∃ze,(Builtin.append_ #[38,38] 38 #[aD.v,.slice (some ⟨cB,0,none⟩) 1 1]).run prog w240=.ok (aF.v) ze/\
 zQf p6 λa242=>
 st1 (a242.add 1) (aF.v) ze λw243=>
 zQY R J1 l1 p4 p6 (IntKind.i64.wrap (n7+eF)) n8 false bZ cw cv ds w243)))))
def xJO (R:Rt) (J1:(Int × Int × Bool × Int)->World->Prop) (l1:SV) (p4 p6:Option Addr) (n7 n8:Int) (b9:Bool) (bZ:SV) (cw cv:Int) (ds:Ds) (w:World):Prop:=
 Br (decide (cv<cw)) (
 xVM R J1 l1 p4 p6 n7 n8 b9 bZ cw cv ds w) (
 xWg R p4 p6 b9 ds w)
def xWK(R:Rt)(l1:SV)(p4 p6:Option Addr)(n7 n8:Int)(b9:Bool)(bZ:SV)(cw cv:Int)(ds:Ds)(w:World):Prop:=
 zQA (λ(J1:(Int × Int × Bool × Int)->World->Prop) (s:Int × Int × Bool × Int) (w:World)=>xJO R J1 l1 p4 p6 s.1 s.2.1 s.2.2.1 bZ cw s.2.2.2 ds w) (n7,n8,b9,cv) w
def xKU(R:Rt)(l0 l1:SV)(ds:Ds)(w:World):Prop:=
 alE (.cells #[.bool false,.slice none 0 0] 67) w λr4 zg=>
 ∃zh,l1.a=some zh/\0<=(0:Int)/\(0:Int)<(l1.len:Int)/\
 ∃iC,zg.cell? (zh.add ((0:Int).toNat * 1))=some (.int .u8 iC)/\
 alE (.cells #[.bool false,.slice none 0 0] 67) zg λr6 w246=>
 stA prog 67 (⟨r6,0,none⟩:Addr) #[.bool (iC == 42),.slice none 0 0] w246 λw247=>
 Calls prog 203 #[l0.v] w247 λe w248=>
 ∃de:Int,e=.returned (.int .i64 de)/\
 xWK R l1 (some (⟨r4,0,none⟩:Addr)) (some (⟨r6,0,none⟩:Addr)) (IntKind.i64.wrap ((1:Int)+de)) 0 true l0 (l0.len:Int) 0 ds w248
theorem F163_p:Pl prog f163 [lS 0,lS 1] xKU:=λR=>
 pc 4 (rest [lS 1,pS 4,pS 6,iS 7,iS 8,bS 9,lS 24,iS 25,iS 26] (xWK R) (bk 0 (rest [pS 4,pS 6,bS 9] (xWg R) lf) (lp [iS 7,iS 8,bS 9,iS 26] [lS 1,pS 4,pS 6,iS 7,iS 8,bS 9,lS 24,iS 25,iS 26] (xJO R) zXI λJ1=>pc 2 (rest [lS 1,pS 4,pS 6,iS 7,iS 8,bS 9,lS 24,iS 25,iS 26] (xVM R J1) (pc 1 (rest [lS 1,pS 4,pS 6,iS 7,iS 8,bS 9,lS 24,iS 25,iS 26] (zQY R J1) lf))))))
theorem yV7 (l0 l1:SV) (w:World) (R:Rt) (h:xKU R l0 l1 [] w):Calls prog 163 #[l0.v,l1.v] w R:=
 plC F163_p func163 h
def xKw(R:Rt)(l0 l1:SV)(ds:Ds)(w:World):Prop:=
 ∃s6:ByteArray,∃w1,(convert 22 9 (l0.v)).run prog w=.ok (.string s6) w1/\
 ∃s8:ByteArray,∃w2,(convert 22 9 (l1.v)).run prog w1=.ok (.string s8) w2/\
 zQb prog ds w2 λw3=>
 R (.returned (.bool (s6.toList == s8.toList))) w3
theorem F125_p:Pl prog f125 [lS 0,lS 1] xKw:=λR=>
 lf
theorem yKG (l0 l1:SV) (w:World) (R:Rt) (h:xKw R l0 l1 [] w):Calls prog 125 #[l0.v,l1.v] w R:=
 plC F125_p func125 h
end Go.Proofs.YtaeecpjhfmcliaaGreatDoor
/- Shallow texts of functions, printed by program, each checked by the kernel against the loaded code. No condition. -/
namespace Go.Proofs.YtaeecpjhfmcliaaGreatDoor
open Go.Sh Tryz
def F56_1(R:Rt)(p1 p2:Option Addr)(ds:Ds)(w:World):Prop:=
 zQf p1 λa1=>
 ∃eW,w.cell? (a1.add 0)=some (.int .i64 eW)/\
 ∃bu:SV,w.cell? (a1.add 1)=some (bu.v)/\
 ∃bv:SV,w.cell? (a1.add 2)=some (bv.v)/\
 zQf p2 λa2=>
 stA prog 35 a2 #[.int .i64 eW,bu.v,bv.v] w λw3=>
 zQb prog ds w3 λw4=>
 zQf p2 λa5=>
 ∃ag,w4.cell? (a5.add 0)=some (.int .i64 ag)/\
 ∃ab:SV,w4.cell? (a5.add 1)=some (ab.v)/\
 ∃ae:SV,w4.cell? (a5.add 2)=some (ae.v)/\
 R (.returned (.agg #[.int .i64 ag,ab.v,ae.v])) w4
def F56_2 (R:Rt) (J1:(Int)->World->Prop) (p1 p2:Option Addr) (bV:SV) (kB n16:Int) (ds:Ds) (w:World):Prop:=
 Br (decide (n16<kB)) (
 ∃a6,bV.a=some a6/\0<=n16/\n16<(bV.len:Int)/\
 ∃nE,w.cell? ((a6.add (n16.toNat * 2)).add 0)=some (.bool nE)/\
 ∃fI:SV,w.cell? ((a6.add (n16.toNat * 2)).add 1)=some (fI.v)/\
 alE (.cells #[.bool false,.slice none 0 0] 67) w λr4 w7=>
 stA prog 67 (⟨r4,0,none⟩:Addr) #[.bool nE,fI.v] w7 λw8=>
 dwE w8 λw9=>
 ∃S1:World->Prop,S1 w9/\
 zQf p1 λdy=>
 ∃dv:SV,(∀w',S1 w'->w'.cell? (dy.add 2)=some (dv.v))/\
 ∃eb:SV,(∀w',S1 w'->w'.cell? ((⟨r4,0,none⟩:Addr).add 1)=some (eb.v))/\
 Calls prog 78 #[eb.v] w9 λe aU=>
 ∃dS:SV,e=.returned (dS.v)/\
 S1 aU/\
 ∃jj,dv.a=some jj/\0<=n16/\n16<(dv.len:Int)/\
 st1 ((jj.add (n16.toNat * 2)).add 1) (dS.v) aU λaJ=>
 J1 (IntKind.i64.wrap (n16+1)) aJ) (
 F56_1 R p1 p2 ds w)
def F56_3(R:Rt)(p1 p2:Option Addr)(bV:SV)(kB n16:Int)(ds:Ds)(w:World):Prop:=
 zQA (λ(J1:(Int)->World->Prop) (s:Int) (w:World)=>F56_2 R J1 p1 p2 bV kB s ds w) n16 w
def F56_5(R:Rt)(aw:Int)(ah ai:SV)(ds:Ds)(w:World):Prop:=
 alE (.cells #[.int .i64 aw,ah.v,ai.v] 35) w λr1 bB=>
 alE (.cells #[.int .i64 0,.slice none 0 0,.slice none 0 0] 35) bB λr2 bm=>
 ∃l6:SV,bm.cell? ((⟨r1,0,none⟩:Addr).add 1)=some (l6.v)/\
 Calls prog 97 #[l6.v] bm λe bF=>
 ∃l7:SV,e=.returned (l7.v)/\
 st1 ((⟨r1,0,none⟩:Addr).add 1) (l7.v) bF λbH=>
 ∃dY:SV,bH.cell? ((⟨r1,0,none⟩:Addr).add 2)=some (dY.v)/\
 Calls prog 98 #[dY.v] bH λe bU=>
 ∃dV:SV,e=.returned (dV.v)/\
 st1 ((⟨r1,0,none⟩:Addr).add 2) (dV.v) bU λcM=>
 ∃bV:SV,cM.cell? ((⟨r1,0,none⟩:Addr).add 2)=some (bV.v)/\
 F56_3 R (some (⟨r1,0,none⟩:Addr)) (some (⟨r2,0,none⟩:Addr)) bV (bV.len:Int) 0 ds cM
theorem F56_p:Pl prog f56 [aS 0 [.int .i64,.slice,.slice]] F56_5:=λR=>
 pc 4 (rest [pS 1,pS 2,lS 14,iS 15,iS 16] (F56_3 R) (bk 0 (rest [pS 1,pS 2] (F56_1 R) lf) (lp [iS 16] [pS 1,pS 2,lS 14,iS 15,iS 16] (F56_2 R) zXI λJ1=>lf)))
theorem yYg (aw:Int) (ah ai:SV) (w:World) (R:Rt) (h:F56_5 R aw ah ai [] w):Calls prog 56 #[.agg #[.int .i64 aw,ah.v,ai.v]] w R:=
 plC F56_p func56 h
def F97_1(R:Rt)(l0:SV)(ds:Ds)(w:World):Prop:=
 ∃b4:Bool,∃w1,(eqS .eql 32 (.tmp 3) (.const (.slice none 0 0)) (l0.v) (.slice none 0 0)).run prog w=.ok (.bool b4) w1/\
 Br b4 (
 zQb prog ds w1 λw2=>
 R (.returned (.slice none 0 0)) w2) (
 alE (.cells #[] 129) w1 λr5 w3=>
 ∃l7:SV,∃w4,(Builtin.append_ #[32,32] 32 #[.slice (some ⟨r5,0,none⟩) 0 0,l0.v]).run prog w3=.ok (l7.v) w4/\
 zQb prog ds w4 λw5=>
 R (.returned (l7.v)) w5)
theorem F97_p:Pl prog f97 [lS 0] F97_1:=λR=>
 lf
theorem xXf (l0:SV) (w:World) (R:Rt) (h:F97_1 R l0 [] w):Calls prog 97 #[l0.v] w R:=
 plC F97_p func97 h
def F98_1(R:Rt)(l0:SV)(ds:Ds)(w:World):Prop:=
 ∃b4:Bool,∃w1,(eqS .eql 33 (.tmp 3) (.const (.slice none 0 0)) (l0.v) (.slice none 0 0)).run prog w=.ok (.bool b4) w1/\
 Br b4 (
 zQb prog ds w1 λw2=>
 R (.returned (.slice none 0 0)) w2) (
 alE (.cells #[] 67) w1 λr5 w3=>
 ∃l7:SV,∃w4,(Builtin.append_ #[33,33] 33 #[.slice (some ⟨r5,0,none⟩) 0 0,l0.v]).run prog w3=.ok (l7.v) w4/\
 zQb prog ds w4 λw5=>
 R (.returned (l7.v)) w5)
theorem F98_p:Pl prog f98 [lS 0] F98_1:=λR=>
 lf
theorem xQA (l0:SV) (w:World) (R:Rt) (h:F98_1 R l0 [] w):Calls prog 98 #[l0.v] w R:=
 plC F98_p func98 h
def F78_1(R:Rt)(l0:SV)(ds:Ds)(w:World):Prop:=
 ∃b4:Bool,∃w1,(eqS .eql 38 (.tmp 3) (.const (.slice none 0 0)) (l0.v) (.slice none 0 0)).run prog w=.ok (.bool b4) w1/\
 Br b4 (
 zQb prog ds w1 λw2=>
 R (.returned (.slice none 0 0)) w2) (
 alE (.cells #[] 73) w1 λr5 w3=>
 ∃l7:SV,∃w4,(Builtin.append_ #[38,38] 38 #[.slice (some ⟨r5,0,none⟩) 0 0,l0.v]).run prog w3=.ok (l7.v) w4/\
 zQb prog ds w4 λw5=>
 R (.returned (l7.v)) w5)
theorem F78_p:Pl prog f78 [lS 0] F78_1:=λR=>
 lf
theorem xXr (l0:SV) (w:World) (R:Rt) (h:F78_1 R l0 [] w):Calls prog 78 #[l0.v] w R:=
 plC F78_p func78 h
def F74_1(R:Rt)(l0:SV)(ds:Ds)(w:World):Prop:=
 ∃b4:Bool,∃w1,(eqS .eql 52 (.tmp 3) (.const (.slice none 0 0)) (l0.v) (.slice none 0 0)).run prog w=.ok (.bool b4) w1/\
 Br b4 (
 zQb prog ds w1 λw2=>
 R (.returned (.slice none 0 0)) w2) (
 alE (.cells #[] 3) w1 λr5 w3=>
 ∃l7:SV,∃w4,(Builtin.append_ #[52,52] 52 #[.slice (some ⟨r5,0,none⟩) 0 0,l0.v]).run prog w3=.ok (l7.v) w4/\
 zQb prog ds w4 λw5=>
 R (.returned (l7.v)) w5)
theorem F74_p:Pl prog f74 [lS 0] F74_1:=λR=>
 lf
theorem yY4 (l0:SV) (w:World) (R:Rt) (h:F74_1 R l0 [] w):Calls prog 74 #[l0.v] w R:=
 plC F74_p func74 h
end Go.Proofs.YtaeecpjhfmcliaaGreatDoor
/- Shallow texts of functions, printed by program, each checked by the kernel against the loaded code. No condition. -/
namespace Go.Proofs.YtaeecpjhfmcliaaGreatDoor
open Go.Sh Tryz
def F76_1(R:Rt)(aw aI:Int)(ai l1:SV)(n2:Int)(ds:Ds)(w:World):Prop:=
 alE (.cells #[.int .i64 aw,.int .i64 aI,ai.v] 90) w λr3 w1=>
 Calls prog 109 #[l1.v] w1 λe w2=>
 ∃dY:SV,e=.returned (dY.v)/\
 Br (decide (n2<=0)) (
 zQb prog ds w2 λw3=>
 R (.returned (dY.v)) w3) (
 dwE w2 λw4=>
 ∃S1:World->Prop,S1 w4/\
 ∃n16,(∀w',S1 w'->w'.cell? (⟨r3,0,none⟩:Addr)=some (.int .i64 n16))/\
 ∃a5,dY.a=some a5/\0<=n16/\n16<(dY.len:Int)/\
 ∃dW:SV,(∀w',S1 w'->w'.cell? (a5.add (n16.toNat * 1))=some (dW.v))/\
 ∃jh,(∀w',S1 w'->w'.cell? ((⟨r3,0,none⟩:Addr).add 1)=some (.int .i64 jh))/\
 ∃iw,(∀w',S1 w'->w'.cell? (⟨r3,0,none⟩:Addr)=some (.int .i64 iw))/\
 ∃a6,dY.a=some a6/\0<=iw/\iw<(dY.len:Int)/\
 ∃eb:SV,(∀w',S1 w'->w'.cell? (a6.add (iw.toNat * 1))=some (eb.v))/\
 ∃gi:Int,∃w7,(Builtin.min_ #[3,3] 3 #[.int .i64 jh,.int .i64 (eb.len:Int)]).run prog w4=.ok (.int .i64 gi) w7/\
 S1 w7/\
 0<=gi/\gi.toNat<=dW.cap/\0<=gi.toNat/\
 Calls prog 110 #[.slice (if dW.cap=0 then dW.a else dW.a.map (λx=>x.add (0 * 1))) (gi.toNat - 0) (dW.cap - 0)] w7 λe w8=>
 ∃gx:SV,e=.returned (gx.v)/\
 ∃mH:SV,w8.cell? ((⟨r3,0,none⟩:Addr).add 2)=some (mH.v)/\
 Br (decide ((mH.len:Int) > 0)) (
 ∃iz:SV,w8.cell? ((⟨r3,0,none⟩:Addr).add 2)=some (iz.v)/\
 ∃iE:SV,w8.cell? ((⟨r3,0,none⟩:Addr).add 2)=some (iE.v)/\
 ∃m4:Int,∃w9,(Builtin.min_ #[3,3] 3 #[.int .i64 n2,.int .i64 (iE.len:Int)]).run prog w8=.ok (.int .i64 m4) w9/\
 0<=m4/\m4.toNat<=iz.cap/\0<=m4.toNat/\
 ∃mY:SV,∃aP,(Builtin.append_ #[22,22] 22 #[gx.v,.slice (if iz.cap=0 then iz.a else iz.a.map (λx=>x.add (0 * 1))) (m4.toNat - 0) (iz.cap - 0)]).run prog w9=.ok (mY.v) aP/\
 ∃ku,aP.cell? (⟨r3,0,none⟩:Addr)=some (.int .i64 ku)/\
 ∃dI,dY.a=some dI/\0<=ku/\ku<(dY.len:Int)/\
 st1 (dI.add (ku.toNat * 1)) (mY.v) aP λaQ=>
 zQb prog ds aQ λaJ=>
 R (.returned (dY.v)) aJ) (
 ∃ku,w8.cell? (⟨r3,0,none⟩:Addr)=some (.int .i64 ku)/\
 ∃fY,dY.a=some fY/\0<=ku/\ku<(dY.len:Int)/\
 st1 (fY.add (ku.toNat * 1)) (gx.v) w8 λbm=>
 zQb prog ds bm λbF=>
 R (.returned (dY.v)) bF))
theorem F76_p:Pl prog f76 [aS 0 [.int .i64,.int .i64,.slice],lS 1,iS 2] F76_1:=λR=>
 lf
theorem xQ7 (aw aI:Int) (ai l1:SV) (n2:Int) (w:World) (R:Rt) (h:F76_1 R aw aI ai l1 n2 [] w):Calls prog 76 #[.agg #[.int .i64 aw,.int .i64 aI,ai.v],l1.v,.int .i64 n2] w R:=
 plC F76_p func76 h
def F90_1(R:Rt)(aw aI:Int)(ai:SV)(ds:Ds)(w:World):Prop:=
 alE (.cells #[.int .i64 aw,.int .i64 aI,ai.v] 90) w λr1 w1=>
 ∃l4:SV,w1.cell? ((⟨r1,0,none⟩:Addr).add 2)=some (l4.v)/\
 zQb prog ds w1 λw2=>
 R (.returned (.int .i64 (IntKind.i64.wrap ((l4.len:Int)+1)))) w2
theorem F90_p:Pl prog f90 [aS 0 [.int .i64,.int .i64,.slice]] F90_1:=λR=>
 lf
theorem xXy (aw aI:Int) (ai:SV) (w:World) (R:Rt) (h:F90_1 R aw aI ai [] w):Calls prog 90 #[.agg #[.int .i64 aw,.int .i64 aI,ai.v]] w R:=
 plC F90_p func90 h
def xK5(R:Rt)(l0:SV)(ds:Ds)(w:World):Prop:=
 ∃b4:Bool,∃w1,(eqS .eql 82 (.tmp 3) (.const (.slice none 0 0)) (l0.v) (.slice none 0 0)).run prog w=.ok (.bool b4) w1/\
 Br b4 (
 zQb prog ds w1 λw2=>
 R (.returned (.slice none 0 0)) w2) (
 alE (.cells #[] 22) w1 λr5 w3=>
 ∃l7:SV,∃w4,(Builtin.append_ #[82,82] 82 #[.slice (some ⟨r5,0,none⟩) 0 0,l0.v]).run prog w3=.ok (l7.v) w4/\
 zQb prog ds w4 λw5=>
 R (.returned (l7.v)) w5)
theorem F109_p:Pl prog f109 [lS 0] xK5:=λR=>
 lf
theorem yVb (l0:SV) (w:World) (R:Rt) (h:xK5 R l0 [] w):Calls prog 109 #[l0.v] w R:=
 plC F109_p func109 h
def xVq(R:Rt)(l0:SV)(ds:Ds)(w:World):Prop:=
 ∃b4:Bool,∃w1,(eqS .eql 22 (.tmp 3) (.const (.slice none 0 0)) (l0.v) (.slice none 0 0)).run prog w=.ok (.bool b4) w1/\
 Br b4 (
 zQb prog ds w1 λw2=>
 R (.returned (.slice none 0 0)) w2) (
 alE (.cells #[] 5) w1 λr5 w3=>
 ∃l7:SV,∃w4,(Builtin.append_ #[22,22] 22 #[.slice (some ⟨r5,0,none⟩) 0 0,l0.v]).run prog w3=.ok (l7.v) w4/\
 zQb prog ds w4 λw5=>
 R (.returned (l7.v)) w5)
theorem F110_p:Pl prog f110 [lS 0] xVq:=λR=>
 lf
theorem yV8 (l0:SV) (w:World) (R:Rt) (h:xVq R l0 [] w):Calls prog 110 #[l0.v] w R:=
 plC F110_p func110 h
end Go.Proofs.YtaeecpjhfmcliaaGreatDoor
/- Shallow texts of functions, printed by program, each checked by the kernel against the loaded code. No condition. -/
namespace Go.Proofs.YtaeecpjhfmcliaaGreatDoor
open Go.Sh Tryz
def xKL(R:Rt)(n3:Int)(ds:Ds)(w:World):Prop:=
 zQb prog ds w λw1=>
 R (.returned (.int .i64 n3)) w1
def xW1 (R:Rt) (J1:(Int × Int)->World->Prop) (n3:Int) (l6:SV) (n7 n8:Int) (ds:Ds) (w:World):Prop:=
 Br (decide (n8<n7)) (
 ∃a2,l6.a=some a2/\0<=n8/\n8<(l6.len:Int)/\
 ∃dz,w.cell? (a2.add (n8.toNat * 1))=some (.int .u8 dz)/\
 0<=(IntKind.i64.wrap ((8:Int) * n8))/\
 J1 ((IntKind.i64.wrap ((BitVec.ofInt 64 n3 ||| BitVec.ofInt 64 (IntKind.i64.wrap ((IntKind.i64.wrap dz) * 2 ^ (min (IntKind.i64.wrap ((8:Int) * n8)).toNat 64)))).toNat:Nat)),(IntKind.i64.wrap (n8+1))) w) (
 xKL R n3 ds w)
def xKa(R:Rt)(n3:Int)(l6:SV)(n7 n8:Int)(ds:Ds)(w:World):Prop:=
 zQA (λ(J1:(Int × Int)->World->Prop) (s:Int × Int) (w:World)=>xW1 R J1 s.1 l6 n7 s.2 ds w) (n3,n8) w
def xW3(R:Rt)(l0:SV)(ds:Ds)(w:World):Prop:=
 xKa R 0 l0 (l0.len:Int) 0 ds w
theorem F126_p:Pl prog f126 [lS 0] xW3:=λR=>
 pc 3 (rest [iS 3,lS 6,iS 7,iS 8] (xKa R) (bk 0 (rest [iS 3] (xKL R) lf) (lp [iS 3,iS 8] [iS 3,lS 6,iS 7,iS 8] (xW1 R) zXI λJ1=>lf)))
theorem yWU (l0:SV) (w:World) (R:Rt) (h:xW3 R l0 [] w):Calls prog 126 #[l0.v] w R:=
 plC F126_p func126 h
def xVQ(R:Rt)(n3:Int)(ds:Ds)(w:World):Prop:=
 zQb prog ds w λw1=>
 R (.returned (.int .i64 (IntKind.i64.wrap n3))) w1
def xK1 (R:Rt) (J1:(Int × Int)->World->Prop) (n3:Int) (l6:SV) (n7 n8:Int) (ds:Ds) (w:World):Prop:=
 Br (decide (n8<n7)) (
 ∃a2,l6.a=some a2/\0<=n8/\n8<(l6.len:Int)/\
 ∃dx,w.cell? (a2.add (n8.toNat * 1))=some (.int .u8 dx)/\
 J1 ((IntKind.u32.wrap ((BitVec.ofInt 32 (IntKind.u32.wrap (n3 * 16777619)) ^^^ BitVec.ofInt 32 (IntKind.u32.wrap dx)).toNat:Nat)),(IntKind.i64.wrap (n8+1))) w) (
 xVQ R n3 ds w)
def xKZ(R:Rt)(n3:Int)(l6:SV)(n7 n8:Int)(ds:Ds)(w:World):Prop:=
 zQA (λ(J1:(Int × Int)->World->Prop) (s:Int × Int) (w:World)=>xK1 R J1 s.1 l6 n7 s.2 ds w) (n3,n8) w
def xKl(R:Rt)(l0:SV)(ds:Ds)(w:World):Prop:=
 xKZ R 7 l0 (l0.len:Int) 0 ds w
theorem F127_p:Pl prog f127 [lS 0] xKl:=λR=>
 pc 3 (rest [kS .u32 3,lS 6,iS 7,iS 8] (xKZ R) (bk 0 (rest [kS .u32 3] (xVQ R) lf) (lp [kS .u32 3,iS 8] [kS .u32 3,lS 6,iS 7,iS 8] (xK1 R) zXI λJ1=>lf)))
theorem yKT (l0:SV) (w:World) (R:Rt) (h:xKl R l0 [] w):Calls prog 127 #[l0.v] w R:=
 plC F127_p func127 h
def xK4(R:Rt)(l5:SV)(ds:Ds)(w:World):Prop:=
 zQb prog ds w λw1=>
 R (.returned (l5.v)) w1
def xKS (R:Rt) (J1:(Int)->World->Prop) (n0:Int) (l5:SV) (iU dx:Int) (ds:Ds) (w:World):Prop:=
 Br (decide (dx<iU)) (
 0<=(IntKind.i64.wrap ((8:Int) * dx))/\
 ∃a2,l5.a=some a2/\0<=dx/\dx<(l5.len:Int)/\
 st1 (a2.add (dx.toNat * 1)) (.int .u8 (IntKind.u8.wrap (n0.fdiv (2 ^ (min (IntKind.i64.wrap ((8:Int) * dx)).toNat 64))))) w λw3=>
 J1 (IntKind.i64.wrap (dx+1)) w3) (
 xK4 R l5 ds w)
def xKV(R:Rt)(n0:Int)(l5:SV)(iU dx:Int)(ds:Ds)(w:World):Prop:=
 zQA (λ(J1:(Int)->World->Prop) (s:Int) (w:World)=>xKS R J1 n0 l5 iU s ds w) dx w
def xKr(R:Rt)(n0 n1:Int)(ds:Ds)(w:World):Prop:=
 ∃l8:SV,∃w4,(Instr.makeSlice 22 (.int .i64 n1) (.int .i64 n1)).run prog w=.ok (l8.v) w4/\
 xKV R n0 l8 (l8.len:Int) 0 ds w4
theorem F143_p:Pl prog f143 [iS 0,iS 1] xKr:=λR=>
 pc 3 (rest [iS 0,lS 5,iS 10,iS 11] (xKV R) (bk 0 (rest [lS 5] (xK4 R) lf) (lp [iS 11] [iS 0,lS 5,iS 10,iS 11] (xKS R) zXI λJ1=>lf)))
theorem yKX (n0 n1:Int) (w:World) (R:Rt) (h:xKr R n0 n1 [] w):Calls prog 143 #[.int .i64 n0,.int .i64 n1] w R:=
 plC F143_p func143 h
def F88_1(R:Rt)(l0:SV)(ds:Ds)(w:World):Prop:=
 Br (decide ((l0.len:Int)<9)) (
 zQb prog ds w λw1=>
 R (.returned (.tuple #[.int .u8 0,.slice none 0 0,.slice none 0 0,.bool false])) w1) (
 0<=(5:Int)/\(5:Int).toNat<=l0.cap/\0<=(1:Int)/\(1:Int).toNat<=(5:Int).toNat/\
 Calls prog 126 #[.slice (if l0.cap=(1:Int).toNat then l0.a else l0.a.map (λx=>x.add ((1:Int).toNat * 1))) ((5:Int).toNat - (1:Int).toNat) (l0.cap - (1:Int).toNat)] w λe w2=>
 ∃dz:Int,e=.returned (.int .i64 dz)/\
 dwE w2 λw3=>
 Br (decide (dz > (IntKind.i64.wrap ((IntKind.i64.wrap ((l0.len:Int) - 5)) - 4)))) (
 zQb prog ds w3 λw4=>
 R (.returned (.tuple #[.int .u8 0,.slice none 0 0,.slice none 0 0,.bool false])) w4) (
 0<=(IntKind.i64.wrap ((IntKind.i64.wrap ((5:Int)+dz))+4))/\(IntKind.i64.wrap ((IntKind.i64.wrap ((5:Int)+dz))+4)).toNat<=l0.cap/\0<=(IntKind.i64.wrap ((5:Int)+dz))/\(IntKind.i64.wrap ((5:Int)+dz)).toNat<=(IntKind.i64.wrap ((IntKind.i64.wrap ((5:Int)+dz))+4)).toNat/\
 0<=(IntKind.i64.wrap ((5:Int)+dz))/\(IntKind.i64.wrap ((5:Int)+dz)).toNat<=l0.cap/\0<=(IntKind.i64.wrap ((5:Int)+dz)).toNat/\
 Calls prog 126 #[.slice (if l0.cap=(IntKind.i64.wrap ((5:Int)+dz)).toNat then l0.a else l0.a.map (λx=>x.add ((IntKind.i64.wrap ((5:Int)+dz)).toNat * 1))) ((IntKind.i64.wrap ((IntKind.i64.wrap ((5:Int)+dz))+4)).toNat - (IntKind.i64.wrap ((5:Int)+dz)).toNat) (l0.cap - (IntKind.i64.wrap ((5:Int)+dz)).toNat)] w3 λe w5=>
 ∃gi:Int,e=.returned (.int .i64 gi)/\
 Calls prog 127 #[.slice (if l0.cap=0 then l0.a else l0.a.map (λx=>x.add (0 * 1))) ((IntKind.i64.wrap ((5:Int)+dz)).toNat - 0) (l0.cap - 0)] w5 λe w6=>
 ∃o1:Int,e=.returned (.int .i64 o1)/\
 Br (gi != o1) (
 zQb prog ds w6 λw7=>
 R (.returned (.tuple #[.int .u8 0,.slice none 0 0,.slice none 0 0,.bool false])) w7) (
 dwE w6 λw8=>
 ∃a9,l0.a=some a9/\0<=(0:Int)/\(0:Int)<(l0.len:Int)/\
 ∃io,w8.cell? (a9.add ((0:Int).toNat * 1))=some (.int .u8 io)/\
 0<=(IntKind.i64.wrap ((5:Int)+dz))/\(IntKind.i64.wrap ((5:Int)+dz)).toNat<=l0.cap/\0<=(5:Int)/\(5:Int).toNat<=(IntKind.i64.wrap ((5:Int)+dz)).toNat/\
 l0.len<=l0.cap/\0<=(IntKind.i64.wrap ((IntKind.i64.wrap ((5:Int)+dz))+4))/\(IntKind.i64.wrap ((IntKind.i64.wrap ((5:Int)+dz))+4)).toNat<=l0.len/\
 zQb prog ds w8 λaP=>
 R (.returned (.tuple #[.int .u8 io,.slice (if l0.cap=(5:Int).toNat then l0.a else l0.a.map (λx=>x.add ((5:Int).toNat * 1))) ((IntKind.i64.wrap ((5:Int)+dz)).toNat - (5:Int).toNat) (l0.cap - (5:Int).toNat),.slice (if l0.cap=(IntKind.i64.wrap ((IntKind.i64.wrap ((5:Int)+dz))+4)).toNat then l0.a else l0.a.map (λx=>x.add ((IntKind.i64.wrap ((IntKind.i64.wrap ((5:Int)+dz))+4)).toNat * 1))) (l0.len - (IntKind.i64.wrap ((IntKind.i64.wrap ((5:Int)+dz))+4)).toNat) (l0.cap - (IntKind.i64.wrap ((IntKind.i64.wrap ((5:Int)+dz))+4)).toNat),.bool true])) aP)))
theorem F88_p:Pl prog f88 [lS 0] F88_1:=λR=>
 lf
theorem xQx (l0:SV) (w:World) (R:Rt) (h:F88_1 R l0 [] w):Calls prog 88 #[l0.v] w R:=
 plC F88_p func88 h
def xV5(R:Rt)(n0:Int)(l1:SV)(ds:Ds)(w:World):Prop:=
 ∃l9:SV,∃w1,(Instr.makeSlice 22 (.int .i64 (IntKind.i64.wrap ((5:Int)+(l1.len:Int)))) (.int .i64 (IntKind.i64.wrap ((5:Int)+(l1.len:Int))))).run prog w=.ok (l9.v) w1/\
 ∃a2,l9.a=some a2/\0<=(0:Int)/\(0:Int)<(l9.len:Int)/\
 st1 (a2.add ((0:Int).toNat * 1)) (.int .u8 n0) w1 λw3=>
 dwE w3 λw4=>
 0<=(5:Int)/\(5:Int).toNat<=l9.cap/\0<=(1:Int)/\(1:Int).toNat<=(5:Int).toNat/\
 Calls prog 143 #[.int .i64 (l1.len:Int),.int .i64 4] w4 λe w5=>
 ∃cN:SV,e=.returned (cN.v)/\
 ∃iC:Int,∃w6,(Builtin.copy_ #[22,22] 3 #[.slice (if l9.cap=(1:Int).toNat then l9.a else l9.a.map (λx=>x.add ((1:Int).toNat * 1))) ((5:Int).toNat - (1:Int).toNat) (l9.cap - (1:Int).toNat),cN.v]).run prog w5=.ok (.int .i64 iC) w6/\
 l9.len<=l9.cap/\0<=(5:Int)/\(5:Int).toNat<=l9.len/\
 ∃de:Int,∃w7,(Builtin.copy_ #[22,22] 3 #[.slice (if l9.cap=(5:Int).toNat then l9.a else l9.a.map (λx=>x.add ((5:Int).toNat * 1))) (l9.len - (5:Int).toNat) (l9.cap - (5:Int).toNat),l1.v]).run prog w6=.ok (.int .i64 de) w7/\
 Calls prog 127 #[l9.v] w7 λe w8=>
 ∃cw:Int,e=.returned (.int .i64 cw)/\
 Calls prog 143 #[.int .i64 cw,.int .i64 4] w8 λe w9=>
 ∃dS:SV,e=.returned (dS.v)/\
 ∃cp:SV,∃aP,(Builtin.append_ #[22,22] 22 #[l9.v,dS.v]).run prog w9=.ok (cp.v) aP/\
 zQb prog ds aP λaU=>
 R (.returned (cp.v)) aU
theorem F111_p:Pl prog f111 [kS .u8 0,lS 1] xV5:=λR=>
 lf
theorem yVq (n0:Int) (l1:SV) (w:World) (R:Rt) (h:xV5 R n0 l1 [] w):Calls prog 111 #[.int .u8 n0,l1.v] w R:=
 plC F111_p func111 h
end Go.Proofs.YtaeecpjhfmcliaaGreatDoor
/- Shallow texts of functions, printed by program, each checked by the kernel against the loaded code. No condition. -/
namespace Go.Proofs.YtaeecpjhfmcliaaGreatDoor
open Go.Sh Tryz
def F47_1 (R:Rt) (J1:(Bool × Bool × SV)->World->Prop) (l0:SV) (p2 p6:Option Addr) (b8 b9:Bool) (dY:SV) (ds:Ds) (w:World):Prop:=
 Calls prog 88 #[dY.v] w λe w1=>
 ∃cO:Int,∃cC:SV,∃eX:SV,∃nD:Bool,e=.returned (.tuple #[.int .u8 cO,cC.v,eX.v,.bool nD])/\
 Br (!nD) (
 dwE w1 λw2=>
 ∃S1:World->Prop,S1 w2/\
 zQf p6 λa3=>
 ∃gL,(∀w',S1 w'->w'.cell? (a3.add 0)=some (.int .i64 gL))/\
 ∃ci:SV,(∀w',S1 w'->w'.cell? (a3.add 1)=some (ci.v))/\
 ∃cj:SV,(∀w',S1 w'->w'.cell? (a3.add 2)=some (cj.v))/\
 ∃a4,l0.a=some a4/\0<=(1:Int)/\(1:Int)<(l0.len:Int)/\
 ∃iE:SV,(∀w',S1 w'->w'.cell? (a4.add ((1:Int).toNat * 1))=some (iE.v))/\
 zQf p2 λa5=>
 stA prog 35 a5 #[.int .i64 gL,ci.v,cj.v] w2 λw6=>
 S1 w6/\
 zQb prog ds w6 λw7=>
 zQf p2 λa8=>
 ∃ag,w7.cell? (a8.add 0)=some (.int .i64 ag)/\
 ∃ab:SV,w7.cell? (a8.add 1)=some (ab.v)/\
 ∃ae:SV,w7.cell? (a8.add 2)=some (ae.v)/\
 R (.returned (.tuple #[.agg #[.int .i64 ag,ab.v,ae.v],.int .i64 (IntKind.i64.wrap ((iE.len:Int) - (dY.len:Int))),.bool b9,.bool b8])) w7) (
 Br (cO == 119) (
 Calls prog 87 #[cC.v] w1 λe w9=>
 ∃pa:Int,∃gO:SV,∃gP:SV,∃nq:Int,e=.returned (.tuple #[.agg #[.int .i64 pa,gO.v,gP.v],.int .i64 nq])/\
 zQf p6 λdy=>
 stA prog 35 dy #[.int .i64 pa,gO.v,gP.v] w9 λaU=>
 J1 ((nq == 0),true,eX) aU) (
 Br (cO != 99) (
 J1 (false,b9,eX) w1) (
 Br b8 (
 zQf p6 λjj=>
 ∃dM,w1.cell? (jj.add 0)=some (.int .i64 dM)/\
 ∃bw:SV,w1.cell? (jj.add 1)=some (bw.v)/\
 ∃fJ:SV,w1.cell? (jj.add 2)=some (fJ.v)/\
 Calls prog 89 #[.agg #[.int .i64 dM,bw.v,fJ.v],cC.v] w1 λe aJ=>
 ∃pb:Int,∃gQ:SV,∃gR:SV,∃uC:Bool,e=.returned (.tuple #[.agg #[.int .i64 pb,gQ.v,gR.v],.bool uC])/\
 zQf p6 λfY=>
 stA prog 35 fY #[.int .i64 pb,gQ.v,gR.v] aJ λbm=>
 J1 (uC,b9,eX) bm) (
 J1 (b8,b9,eX) w1))))
def F47_2(R:Rt)(l0:SV)(p2 p6:Option Addr)(b8 b9:Bool)(dY:SV)(ds:Ds)(w:World):Prop:=
 zQA (λ(J1:(Bool × Bool × SV)->World->Prop) (s:Bool × Bool × SV) (w:World)=>F47_1 R J1 l0 p2 p6 s.1 s.2.1 s.2.2 ds w) (b8,b9,dY) w
def F47_4(R:Rt)(l0:SV)(ds:Ds)(w:World):Prop:=
 alE (.cells #[.int .i64 0,.slice none 0 0,.slice none 0 0] 35) w λr2 bF=>
 ∃pK,l0.a=some pK/\0<=(0:Int)/\(0:Int)<(l0.len:Int)/\
 ∃dW:SV,bF.cell? (pK.add ((0:Int).toNat * 1))=some (dW.v)/\
 Calls prog 87 #[dW.v] bF λe bU=>
 ∃pd:Int,∃gS:SV,∃gT:SV,∃co:Int,e=.returned (.tuple #[.agg #[.int .i64 pd,gS.v,gT.v],.int .i64 co])/\
 alE (.cells #[.int .i64 0,.slice none 0 0,.slice none 0 0] 35) bU λr6 cM=>
 stA prog 35 (⟨r6,0,none⟩:Addr) #[.int .i64 pd,gS.v,gT.v] cM λbT=>
 ∃a21,l0.a=some a21/\0<=(1:Int)/\(1:Int)<(l0.len:Int)/\
 ∃dS:SV,bT.cell? (a21.add ((1:Int).toNat * 1))=some (dS.v)/\
 F47_2 R l0 (some (⟨r2,0,none⟩:Addr)) (some (⟨r6,0,none⟩:Addr)) (co == 0) false dS ds bT
theorem F47_p:Pl prog f47 [lS 0] F47_4:=λR=>
 pc 4 (rest [lS 0,pS 2,pS 6,bS 8,bS 9,lS 10] (F47_2 R) (bk 0 zXI (lp [bS 8,bS 9,lS 10] [lS 0,pS 2,pS 6,bS 8,bS 9,lS 10] (F47_1 R) zXI λJ1=>lf)))
theorem yY2 (l0:SV) (w:World) (R:Rt) (h:F47_4 R l0 [] w):Calls prog 47 #[l0.v] w R:=
 plC F47_p func47 h
end Go.Proofs.YtaeecpjhfmcliaaGreatDoor
/- Shallow texts of functions, printed by program, each checked by the kernel against the loaded code. No condition. -/
namespace Go.Proofs.YtaeecpjhfmcliaaGreatDoor
open Go.Sh Tryz
def F85_1(R:Rt)(aw:Int)(ah ai:SV)(ds:Ds)(w:World):Prop:=
 alE (.cells #[.int .i64 aw,ah.v,ai.v] 35) w λr1 w1=>
 ∃kf,w1.cell? ((⟨r1,0,none⟩:Addr).add 0)=some (.int .i64 kf)/\
 ∃dC:SV,w1.cell? ((⟨r1,0,none⟩:Addr).add 1)=some (dC.v)/\
 ∃dD:SV,w1.cell? ((⟨r1,0,none⟩:Addr).add 2)=some (dD.v)/\
 Calls prog 86 #[.agg #[.int .i64 kf,dC.v,dD.v]] w1 λe w2=>
 ∃pL:SV,∃dg:Int,e=.returned (.tuple #[pL.v,.int .i64 dg])/\
 Calls prog 111 #[.int .u8 119,pL.v] w2 λe w3=>
 ∃dV:SV,e=.returned (dV.v)/\
 zQb prog ds w3 λw4=>
 R (.returned (dV.v)) w4
theorem F85_p:Pl prog f85 [aS 0 [.int .i64,.slice,.slice]] F85_1:=λR=>
 lf
theorem yYj (aw:Int) (ah ai:SV) (w:World) (R:Rt) (h:F85_1 R aw ah ai [] w):Calls prog 85 #[.agg #[.int .i64 aw,ah.v,ai.v]] w R:=
 plC F85_p func85 h
def F48_1(R:Rt)(l0:SV)(ds:Ds)(w:World):Prop:=
 Calls prog 47 #[l0.v] w λe w1=>
 ∃pe:Int,∃gU:SV,∃gV:SV,∃ed:Int,∃nF:Bool,∃zi:Bool,e=.returned (.tuple #[.agg #[.int .i64 pe,gU.v,gV.v],.int .i64 ed,.bool nF,.bool zi])/\
 alE (.cells #[.int .i64 0,.slice none 0 0,.slice none 0 0] 35) w1 λr3 w2=>
 stA prog 35 (⟨r3,0,none⟩:Addr) #[.int .i64 pe,gU.v,gV.v] w2 λw3=>
 ∃a4,l0.a=some a4/\0<=(1:Int)/\(1:Int)<(l0.len:Int)/\
 ∃dX:SV,w3.cell? (a4.add ((1:Int).toNat * 1))=some (dX.v)/\
 Br (decide (ed<(dX.len:Int))) (
 alE (.cells #[.int .i64 1,.int .i64 ed,.slice none 0 0] 90) w3 λr26 w5=>
 ∃cp:SV,∃w6,(Builtin.append_ #[87,87] 87 #[.slice none 0 0,.slice (some ⟨r26,0,none⟩) 1 1]).run prog w5=.ok (cp.v) w6/\
 Br nF (
 ∃eW,w6.cell? ((⟨r3,0,none⟩:Addr).add 0)=some (.int .i64 eW)/\
 ∃bu:SV,w6.cell? ((⟨r3,0,none⟩:Addr).add 1)=some (bu.v)/\
 ∃bv:SV,w6.cell? ((⟨r3,0,none⟩:Addr).add 2)=some (bv.v)/\
 Calls prog 86 #[.agg #[.int .i64 eW,bu.v,bv.v]] w6 λe w7=>
 ∃cU:SV,∃gy:Int,e=.returned (.tuple #[cU.v,.int .i64 gy])/\
 alE (.cells #[.int .i64 0,.int .i64 0,.slice none 0 0,.int .i64 0,.int .i64 0,cU.v,.int .i64 1,.int .i64 0,.slice none 0 0] 90) w7 λzj w8=>
 ∃bG:SV,∃w9,(Builtin.append_ #[87,87] 87 #[cp.v,.slice (some ⟨zj,0,none⟩) 3 3]).run prog w8=.ok (bG.v) w9/\
 zQb prog ds w9 λaP=>
 R (.returned (bG.v)) aP) (
 zQb prog ds w6 λaU=>
 R (.returned (cp.v)) aU)) (
 Br nF (
 ∃eW,w3.cell? ((⟨r3,0,none⟩:Addr).add 0)=some (.int .i64 eW)/\
 ∃bu:SV,w3.cell? ((⟨r3,0,none⟩:Addr).add 1)=some (bu.v)/\
 ∃bv:SV,w3.cell? ((⟨r3,0,none⟩:Addr).add 2)=some (bv.v)/\
 Calls prog 86 #[.agg #[.int .i64 eW,bu.v,bv.v]] w3 λe aQ=>
 ∃cU:SV,∃gy:Int,e=.returned (.tuple #[cU.v,.int .i64 gy])/\
 alE (.cells #[.int .i64 0,.int .i64 0,.slice none 0 0,.int .i64 0,.int .i64 0,cU.v,.int .i64 1,.int .i64 0,.slice none 0 0] 90) aQ λzj aJ=>
 ∃bG:SV,∃bB,(Builtin.append_ #[87,87] 87 #[.slice none 0 0,.slice (some ⟨zj,0,none⟩) 3 3]).run prog aJ=.ok (bG.v) bB/\
 zQb prog ds bB λbm=>
 R (.returned (bG.v)) bm) (
 zQb prog ds w3 λbF=>
 R (.returned (.slice none 0 0)) bF))
theorem F48_p:Pl prog f48 [lS 0] F48_1:=λR=>
 lf
theorem xXo (l0:SV) (w:World) (R:Rt) (h:F48_1 R l0 [] w):Calls prog 48 #[l0.v] w R:=
 plC F48_p func48 h
def F49_1(R:Rt)(l0:SV)(bp cr:Int)(bK:SV)(ds:Ds)(w:World):Prop:=
 alE (.cells #[.int .i64 bp,.int .i64 cr,bK.v] 90) w λr3 w1=>
 dwE w1 λw2=>
 ∃S1:World->Prop,S1 w2/\
 ∃iF,(∀w',S1 w'->w'.cell? ((⟨r3,0,none⟩:Addr).add 0)=some (.int .i64 iF))/\
 ∃zk,(∀w',S1 w'->w'.cell? ((⟨r3,0,none⟩:Addr).add 1)=some (.int .i64 zk))/\
 ∃cF:SV,(∀w',S1 w'->w'.cell? ((⟨r3,0,none⟩:Addr).add 2)=some (cF.v))/\
 ∃dG,(∀w',S1 w'->w'.cell? ((⟨r3,0,none⟩:Addr).add 0)=some (.int .i64 dG))/\
 ∃dg,(∀w',S1 w'->w'.cell? ((⟨r3,0,none⟩:Addr).add 1)=some (.int .i64 dg))/\
 ∃bD:SV,(∀w',S1 w'->w'.cell? ((⟨r3,0,none⟩:Addr).add 2)=some (bD.v))/\
 Calls prog 90 #[.agg #[.int .i64 dG,.int .i64 dg,bD.v]] w2 λe w3=>
 ∃n8:Int,e=.returned (.int .i64 n8)/\
 S1 w3/\
 Calls prog 76 #[.agg #[.int .i64 iF,.int .i64 zk,cF.v],l0.v,.int .i64 n8] w3 λe w4=>
 ∃l9:SV,e=.returned (l9.v)/\
 zQb prog ds w4 λw5=>
 R (.returned (l9.v)) w5
theorem F49_p:Pl prog f49 [lS 0,aS 1 [.int .i64,.int .i64,.slice]] F49_1:=λR=>
 lf
theorem yYU (l0:SV) (bp cr:Int) (bK:SV) (w:World) (R:Rt) (h:F49_1 R l0 bp cr bK [] w):Calls prog 49 #[l0.v,.agg #[.int .i64 bp,.int .i64 cr,bK.v]] w R:=
 plC F49_p func49 h
end Go.Proofs.YtaeecpjhfmcliaaGreatDoor
/- Shallow texts of functions, printed by program, each checked by the kernel against the loaded code. No condition. -/
namespace Go.Proofs.YtaeecpjhfmcliaaGreatDoor
open Go.Sh Tryz
def xWH(R:Rt)(aw:Int)(ah ai l1:SV)(ds:Ds)(w:World):Prop:=
 alE (.cells #[.int .i64 aw,ah.v,ai.v] 35) w λr2 w1=>
 alE (.cells #[.bool false,.slice none 0 0] 67) w1 λr4 w2=>
 ∃bV:SV,w2.cell? ((⟨r2,0,none⟩:Addr).add 1)=some (bV.v)/\
 Calls prog 164 #[bV.v] w2 λe w3=>
 ∃pf:Bool,∃gW:SV,∃gw:Int,e=.returned (.tuple #[.agg #[.bool pf,gW.v],.int .i64 gw])/\
 alE (.cells #[.bool false,.slice none 0 0] 67) w3 λr6 w4=>
 stA prog 67 (⟨r6,0,none⟩:Addr) #[.bool pf,gW.v] w4 λw5=>
 ∃jh,w5.cell? (⟨r2,0,none⟩:Addr)=some (.int .i64 jh)/\
 ∃dv:SV,w5.cell? ((⟨r2,0,none⟩:Addr).add 1)=some (dv.v)/\
 ∃uD,w5.cell? ((⟨r6,0,none⟩:Addr).add 0)=some (.bool uD)/\
 ∃kZ:SV,w5.cell? ((⟨r6,0,none⟩:Addr).add 1)=some (kZ.v)/\
 alE (.cells #[.bool uD,kZ.v] 67) w5 λr24 w6=>
 Calls prog 165 #[.agg #[.int .i64 jh,dv.v,.slice (some ⟨r24,0,none⟩) 1 1]] w6 λe w7=>
 ∃k7:SV,∃fp:Int,e=.returned (.tuple #[k7.v,.int .i64 fp])/\
 ∃iW:SV,∃w8,(Builtin.append_ #[22,22] 22 #[k7.v,l1.v]).run prog w7=.ok (iW.v) w8/\
 alE (.cells #[.int .u8 26] 5) w8 λr33 w9=>
 ∃jW:SV,∃aP,(Builtin.append_ #[22,22] 22 #[iW.v,.slice (some ⟨r33,0,none⟩) 1 1]).run prog w9=.ok (jW.v) aP/\
 Calls prog 87 #[jW.v] aP λe aU=>
 ∃ph:Int,∃gX:SV,∃gY:SV,∃uE:Int,e=.returned (.tuple #[.agg #[.int .i64 ph,gX.v,gY.v],.int .i64 uE])/\
 alE (.cells #[.int .i64 0,.slice none 0 0,.slice none 0 0] 35) aU λdu aQ=>
 stA prog 35 (⟨du,0,none⟩:Addr) #[.int .i64 ph,gX.v,gY.v] aQ λaJ=>
 Br (uE != 0) (
 stA prog 67 (⟨r4,0,none⟩:Addr) #[.bool false,.slice none 0 0] aJ λbB=>
 zQb prog ds bB λbm=>
 ∃bJ,bm.cell? ((⟨r4,0,none⟩:Addr).add 0)=some (.bool bJ)/\
 ∃ab:SV,bm.cell? ((⟨r4,0,none⟩:Addr).add 1)=some (ab.v)/\
 R (.returned (.tuple #[.agg #[.bool bJ,ab.v],.bool false])) bm) (
 ∃mZ:SV,aJ.cell? ((⟨du,0,none⟩:Addr).add 2)=some (mZ.v)/\
 ∃ip,mZ.a=some ip/\0<=(0:Int)/\(0:Int)<(mZ.len:Int)/\
 ∃ny,aJ.cell? ((ip.add ((0:Int).toNat * 2)).add 0)=some (.bool ny)/\
 ∃fy:SV,aJ.cell? ((ip.add ((0:Int).toNat * 2)).add 1)=some (fy.v)/\
 stA prog 67 (⟨r4,0,none⟩:Addr) #[.bool ny,fy.v] aJ λbH=>
 zQb prog ds bH λbU=>
 ∃bJ,bU.cell? ((⟨r4,0,none⟩:Addr).add 0)=some (.bool bJ)/\
 ∃ab:SV,bU.cell? ((⟨r4,0,none⟩:Addr).add 1)=some (ab.v)/\
 R (.returned (.tuple #[.agg #[.bool bJ,ab.v],.bool true])) bU)
theorem F129_p:Pl prog f129 [aS 0 [.int .i64,.slice,.slice],lS 1] xWH:=λR=>
 lf
theorem yWI (aw:Int) (ah ai l1:SV) (w:World) (R:Rt) (h:xWH R aw ah ai l1 [] w):Calls prog 129 #[.agg #[.int .i64 aw,ah.v,ai.v],l1.v] w R:=
 plC F129_p func129 h
def xKb(R:Rt)(l5:SV)(ds:Ds)(w:World):Prop:=
 zQb prog ds w λw1=>
 R (.returned (l5.v)) w1
def xVb (R:Rt) (J1:(SV × Int)->World->Prop) (p2:Option Addr) (l5 bV:SV) (kB n16:Int) (ds:Ds) (w:World):Prop:=
 Br (decide (n16<kB)) (
 ∃a2,bV.a=some a2/\0<=n16/\n16<(bV.len:Int)/\
 ∃iR,w.cell? (a2.add (n16.toNat * 1))=some (.int .i64 iR)/\
 zQf p2 λa3=>
 ∃dv:SV,w.cell? (a3.add 2)=some (dv.v)/\
 Br (decide (iR > (dv.len:Int))) (
 J1 (l5,(IntKind.i64.wrap (n16+1))) w) (
 zQf p2 λa4=>
 ∃eQ,w.cell? (a4.add 0)=some (.int .i64 eQ)/\
 ∃bt:SV,w.cell? (a4.add 1)=some (bt.v)/\
 ∃cS:SV,w.cell? (a4.add 2)=some (cS.v)/\
 Calls prog 144 #[.agg #[.int .i64 eQ,bt.v,cS.v],.int .i64 iR] w λe w5=>
 ∃k8:SV,∃zl:Int,e=.returned (.tuple #[k8.v,.int .i64 zl])/\
 Calls prog 143 #[.int .i64 iR,.int .i64 2] w5 λe w6=>
 ∃iD:SV,e=.returned (iD.v)/\
 ∃jW:SV,∃w7,(Builtin.append_ #[22,22] 22 #[l5.v,iD.v]).run prog w6=.ok (jW.v) w7/\
 ∃iz:SV,∃w8,(Builtin.append_ #[22,22] 22 #[jW.v,k8.v]).run prog w7=.ok (iz.v) w8/\
 J1 (iz,(IntKind.i64.wrap (n16+1))) w8)) (
 xKb R l5 ds w)
def xJZ(R:Rt)(p2:Option Addr)(l5 bV:SV)(kB n16:Int)(ds:Ds)(w:World):Prop:=
 zQA (λ(J1:(SV × Int)->World->Prop) (s:SV × Int) (w:World)=>xVb R J1 p2 s.1 bV kB s.2 ds w) (l5,n16) w
def xVr(R:Rt)(aw:Int)(ah ai l1:SV)(ds:Ds)(w:World):Prop:=
 alE (.cells #[.int .i64 aw,ah.v,ai.v] 35) w λr2 w9=>
 ∃dV:SV,w9.cell? ((⟨r2,0,none⟩:Addr).add 2)=some (dV.v)/\
 Calls prog 143 #[.int .i64 (dV.len:Int),.int .i64 2] w9 λe aP=>
 ∃cA:SV,e=.returned (cA.v)/\
 xJZ R (some (⟨r2,0,none⟩:Addr)) cA l1 (l1.len:Int) 0 ds aP
theorem F112_p:Pl prog f112 [aS 0 [.int .i64,.slice,.slice],lS 1] xVr:=λR=>
 pc 3 (rest [pS 2,lS 5,lS 14,iS 15,iS 16] (xJZ R) (bk 0 (rest [lS 5] (xKb R) lf) (lp [lS 5,iS 16] [pS 2,lS 5,lS 14,iS 15,iS 16] (xVb R) zXI λJ1=>lf)))
theorem yWu (aw:Int) (ah ai l1:SV) (w:World) (R:Rt) (h:xVr R aw ah ai l1 [] w):Calls prog 112 #[.agg #[.int .i64 aw,ah.v,ai.v],l1.v] w R:=
 plC F112_p func112 h
end Go.Proofs.YtaeecpjhfmcliaaGreatDoor
/- Shallow texts of functions, printed by program, each checked by the kernel against the loaded code. No condition. -/
namespace Go.Proofs.YtaeecpjhfmcliaaGreatDoor
open Go.Sh Tryz
def F89_1(R:Rt)(p2 p4:Option Addr)(n8:Int)(ds:Ds)(w:World):Prop:=
 dwE w λw1=>
 ∃S1:World->Prop,S1 w1/\
 zQf p2 λa2=>
 ∃uF,(∀w',S1 w'->w'.cell? (a2.add 0)=some (.int .i64 uF))/\
 ∃k9:SV,(∀w',S1 w'->w'.cell? (a2.add 1)=some (k9.v))/\
 ∃lc:SV,(∀w',S1 w'->w'.cell? (a2.add 2)=some (lc.v))/\
 zQf p2 λa3=>
 ∃l96:SV,(∀w',S1 w'->w'.cell? (a3.add 2)=some (l96.v))/\
 zQf p4 λa4=>
 stA prog 35 a4 #[.int .i64 uF,k9.v,lc.v] w1 λw5=>
 S1 w5/\
 zQb prog ds w5 λw6=>
 zQf p4 λa7=>
 ∃ag,w6.cell? (a7.add 0)=some (.int .i64 ag)/\
 ∃ab:SV,w6.cell? (a7.add 1)=some (ab.v)/\
 ∃ae:SV,w6.cell? (a7.add 2)=some (ae.v)/\
 R (.returned (.tuple #[.agg #[.int .i64 ag,ab.v,ae.v],.bool ((l96.len:Int) == n8)])) w6
def zYe (R:Rt) (J1:(SV)->World->Prop) (p2 p4:Option Addr) (n6 n8:Int) (l9:SV) (ds:Ds) (w:World):Prop:=
 l9.len<=l9.cap/\0<=(IntKind.i64.wrap (n6+2))/\(IntKind.i64.wrap (n6+2)).toNat<=l9.len/\
 J1 ⟨(if l9.cap=(IntKind.i64.wrap (n6+2)).toNat then l9.a else l9.a.map (λx=>x.add ((IntKind.i64.wrap (n6+2)).toNat * 1))),(l9.len - (IntKind.i64.wrap (n6+2)).toNat),(l9.cap - (IntKind.i64.wrap (n6+2)).toNat)⟩ w
def F89_3 (R:Rt) (J1:(SV)->World->Prop) (p2 p4:Option Addr) (n6 n8:Int) (l9:SV) (ds:Ds) (w:World):Prop:=
 0<=(2:Int)/\(2:Int).toNat<=l9.cap/\0<=(2:Int).toNat/\
 Calls prog 126 #[.slice (if l9.cap=0 then l9.a else l9.a.map (λx=>x.add (0 * 1))) ((2:Int).toNat - 0) (l9.cap - 0)] w λe w8=>
 ∃dm:Int,e=.returned (.int .i64 dm)/\
 dwE w8 λw9=>
 ∃S2:World->Prop,S2 w9/\
 zQf p2 λdy=>
 ∃kQ,(∀w',S2 w'->w'.cell? (dy.add 0)=some (.int .i64 kQ))/\
 ∃iG:SV,(∀w',S2 w'->w'.cell? (dy.add 1)=some (iG.v))/\
 ∃iH:SV,(∀w',S2 w'->w'.cell? (dy.add 2)=some (iH.v))/\
 0<=(IntKind.i64.wrap (n6+2))/\(IntKind.i64.wrap (n6+2)).toNat<=l9.cap/\0<=(2:Int)/\(2:Int).toNat<=(IntKind.i64.wrap (n6+2)).toNat/\
 (
 Calls prog 129 #[.agg #[.int .i64 kQ,iG.v,iH.v],.slice (if l9.cap=(2:Int).toNat then l9.a else l9.a.map (λx=>x.add ((2:Int).toNat * 1))) ((IntKind.i64.wrap (n6+2)).toNat - (2:Int).toNat) (l9.cap - (2:Int).toNat)] w9 λe aU=>
 ∃iI:Bool,∃cG:SV,∃ki:Bool,e=.returned (.tuple #[.agg #[.bool iI,cG.v],.bool ki])/\
 alE (.cells #[.bool false,.slice none 0 0] 67) aU λcq aQ=>
 stA prog 67 (⟨cq,0,none⟩:Addr) #[.bool iI,cG.v] aQ λaJ=>
 Br (!ki) (
 zQf p2 λfY=>
 ∃bl,aJ.cell? (fY.add 0)=some (.int .i64 bl)/\
 ∃aB:SV,aJ.cell? (fY.add 1)=some (aB.v)/\
 ∃aC:SV,aJ.cell? (fY.add 2)=some (aC.v)/\
 zQf p4 λkx=>
 stA prog 35 kx #[.int .i64 bl,aB.v,aC.v] aJ λbF=>
 zQb prog ds bF λbH=>
 zQf p4 λjk=>
 ∃ag,bH.cell? (jk.add 0)=some (.int .i64 ag)/\
 ∃ab:SV,bH.cell? (jk.add 1)=some (ab.v)/\
 ∃ae:SV,bH.cell? (jk.add 2)=some (ae.v)/\
 R (.returned (.tuple #[.agg #[.int .i64 ag,ab.v,ae.v],.bool false])) bH) (
 Br (decide (dm<1)) (
 zQf p2 λky=>
 ∃bl,aJ.cell? (ky.add 0)=some (.int .i64 bl)/\
 ∃aB:SV,aJ.cell? (ky.add 1)=some (aB.v)/\
 ∃aC:SV,aJ.cell? (ky.add 2)=some (aC.v)/\
 zQf p4 λa20=>
 stA prog 35 a20 #[.int .i64 bl,aB.v,aC.v] aJ λbX=>
 zQb prog ds bX λdf=>
 zQf p4 λoJ=>
 ∃ag,df.cell? (oJ.add 0)=some (.int .i64 ag)/\
 ∃ab:SV,df.cell? (oJ.add 1)=some (ab.v)/\
 ∃ae:SV,df.cell? (oJ.add 2)=some (ae.v)/\
 R (.returned (.tuple #[.agg #[.int .i64 ag,ab.v,ae.v],.bool false])) df) (
 zQf p2 λws=>
 ∃pi:SV,aJ.cell? (ws.add 2)=some (pi.v)/\
 Br (decide (dm > (IntKind.i64.wrap ((pi.len:Int)+1)))) (
 zQf p2 λm8=>
 ∃bl,aJ.cell? (m8.add 0)=some (.int .i64 bl)/\
 ∃aB:SV,aJ.cell? (m8.add 1)=some (aB.v)/\
 ∃aC:SV,aJ.cell? (m8.add 2)=some (aC.v)/\
 zQf p4 λql=>
 stA prog 35 ql #[.int .i64 bl,aB.v,aC.v] aJ λiq=>
 zQb prog ds iq λeg=>
 zQf p4 λqQ=>
 ∃ag,eg.cell? (qQ.add 0)=some (.int .i64 ag)/\
 ∃ab:SV,eg.cell? (qQ.add 1)=some (ab.v)/\
 ∃ae:SV,eg.cell? (qQ.add 2)=some (ae.v)/\
 R (.returned (.tuple #[.agg #[.int .i64 ag,ab.v,ae.v],.bool false])) eg) (
 Br (decide (dm > 300)) (
 zQf p2 λow=>
 ∃bl,aJ.cell? (ow.add 0)=some (.int .i64 bl)/\
 ∃aB:SV,aJ.cell? (ow.add 1)=some (aB.v)/\
 ∃aC:SV,aJ.cell? (ow.add 2)=some (aC.v)/\
 zQf p4 λrX=>
 stA prog 35 rX #[.int .i64 bl,aB.v,aC.v] aJ λgd=>
 zQb prog ds gd λfU=>
 zQf p4 λsj=>
 ∃ag,fU.cell? (sj.add 0)=some (.int .i64 ag)/\
 ∃ab:SV,fU.cell? (sj.add 1)=some (ab.v)/\
 ∃ae:SV,fU.cell? (sj.add 2)=some (ae.v)/\
 R (.returned (.tuple #[.agg #[.int .i64 ag,ab.v,ae.v],.bool false])) fU) (
 zQf p2 λrY=>
 ∃iO:SV,aJ.cell? (rY.add 2)=some (iO.v)/\
 Br (decide (dm > (iO.len:Int))) (
 zQf p2 λpW=>
 ∃aD:SV,aJ.cell? (pW.add 2)=some (aD.v)/\
 ∃jH,aJ.cell? ((⟨cq,0,none⟩:Addr).add 0)=some (.bool jH)/\
 ∃cV:SV,aJ.cell? ((⟨cq,0,none⟩:Addr).add 1)=some (cV.v)/\
 alE (.cells #[.bool jH,cV.v] 67) aJ λcB nn=>
 ∃aF:SV,∃na,(Builtin.append_ #[33,33] 33 #[aD.v,.slice (some ⟨cB,0,none⟩) 1 1]).run prog nn=.ok (aF.v) na/\
 zQf p2 λa39=>
 st1 (a39.add 2) (aF.v) na λqG=>
 zYe R J1 p2 p4 n6 n8 l9 ds qG) (
 zQf p2 λxZ=>
 ∃nG:SV,aJ.cell? (xZ.add 2)=some (nG.v)/\
 ∃jI,aJ.cell? ((⟨cq,0,none⟩:Addr).add 0)=some (.bool jI)/\
 ∃cW:SV,aJ.cell? ((⟨cq,0,none⟩:Addr).add 1)=some (cW.v)/\
 ∃sa,nG.a=some sa/\0<=(IntKind.i64.wrap (dm - 1))/\(IntKind.i64.wrap (dm - 1))<(nG.len:Int)/\
 stA prog 67 (sa.add ((IntKind.i64.wrap (dm - 1)).toNat * 2)) #[.bool jI,cW.v] aJ λoV=>
 zYe R J1 p2 p4 n6 n8 l9 ds oV))))))/\(
 alE (.cells #[.bool false,.slice none 0 0] 67) w9 λcq kz=>
 S2 kz/\
 Calls prog 129 #[.agg #[.int .i64 kQ,iG.v,iH.v],.slice (if l9.cap=(2:Int).toNat then l9.a else l9.a.map (λx=>x.add ((2:Int).toNat * 1))) ((IntKind.i64.wrap (n6+2)).toNat - (2:Int).toNat) (l9.cap - (2:Int).toNat)] kz λe wt=>
 ∃iI:Bool,∃cG:SV,∃ki:Bool,e=.returned (.tuple #[.agg #[.bool iI,cG.v],.bool ki])/\
 stA prog 67 (⟨cq,0,none⟩:Addr) #[.bool iI,cG.v] wt λfo=>
 Br (!ki) (
 zQf p2 λx6=>
 ∃bl,fo.cell? (x6.add 0)=some (.int .i64 bl)/\
 ∃aB:SV,fo.cell? (x6.add 1)=some (aB.v)/\
 ∃aC:SV,fo.cell? (x6.add 2)=some (aC.v)/\
 zQf p4 λa48=>
 stA prog 35 a48 #[.int .i64 bl,aB.v,aC.v] fo λsY=>
 zQb prog ds sY λrS=>
 zQf p4 λa51=>
 ∃ag,rS.cell? (a51.add 0)=some (.int .i64 ag)/\
 ∃ab:SV,rS.cell? (a51.add 1)=some (ab.v)/\
 ∃ae:SV,rS.cell? (a51.add 2)=some (ae.v)/\
 R (.returned (.tuple #[.agg #[.int .i64 ag,ab.v,ae.v],.bool false])) rS) (
 Br (decide (dm<1)) (
 zQf p2 λv7=>
 ∃bl,fo.cell? (v7.add 0)=some (.int .i64 bl)/\
 ∃aB:SV,fo.cell? (v7.add 1)=some (aB.v)/\
 ∃aC:SV,fo.cell? (v7.add 2)=some (aC.v)/\
 zQf p4 λa53=>
 stA prog 35 a53 #[.int .i64 bl,aB.v,aC.v] fo λqz=>
 zQb prog ds qz λqR=>
 zQf p4 λyu=>
 ∃ag,qR.cell? (yu.add 0)=some (.int .i64 ag)/\
 ∃ab:SV,qR.cell? (yu.add 1)=some (ab.v)/\
 ∃ae:SV,qR.cell? (yu.add 2)=some (ae.v)/\
 R (.returned (.tuple #[.agg #[.int .i64 ag,ab.v,ae.v],.bool false])) qR) (
 zQf p2 λa57=>
 ∃pi:SV,fo.cell? (a57.add 2)=some (pi.v)/\
 Br (decide (dm > (IntKind.i64.wrap ((pi.len:Int)+1)))) (
 zQf p2 λa58=>
 ∃bl,fo.cell? (a58.add 0)=some (.int .i64 bl)/\
 ∃aB:SV,fo.cell? (a58.add 1)=some (aB.v)/\
 ∃aC:SV,fo.cell? (a58.add 2)=some (aC.v)/\
 zQf p4 λa59=>
 stA prog 35 a59 #[.int .i64 bl,aB.v,aC.v] fo λoW=>
 zQb prog ds oW λpH=>
 zQf p4 λa62=>
 ∃ag,pH.cell? (a62.add 0)=some (.int .i64 ag)/\
 ∃ab:SV,pH.cell? (a62.add 1)=some (ab.v)/\
 ∃ae:SV,pH.cell? (a62.add 2)=some (ae.v)/\
 R (.returned (.tuple #[.agg #[.int .i64 ag,ab.v,ae.v],.bool false])) pH) (
 Br (decide (dm > 300)) (
 zQf p2 λa63=>
 ∃bl,fo.cell? (a63.add 0)=some (.int .i64 bl)/\
 ∃aB:SV,fo.cell? (a63.add 1)=some (aB.v)/\
 ∃aC:SV,fo.cell? (a63.add 2)=some (aC.v)/\
 zQf p4 λa64=>
 stA prog 35 a64 #[.int .i64 bl,aB.v,aC.v] fo λoz=>
 zQb prog ds oz λoX=>
 zQf p4 λuq=>
 ∃ag,oX.cell? (uq.add 0)=some (.int .i64 ag)/\
 ∃ab:SV,oX.cell? (uq.add 1)=some (ab.v)/\
 ∃ae:SV,oX.cell? (uq.add 2)=some (ae.v)/\
 R (.returned (.tuple #[.agg #[.int .i64 ag,ab.v,ae.v],.bool false])) oX) (
 zQf p2 λa68=>
 ∃iO:SV,fo.cell? (a68.add 2)=some (iO.v)/\
 Br (decide (dm > (iO.len:Int))) (
 zQf p2 λa69=>
 ∃aD:SV,fo.cell? (a69.add 2)=some (aD.v)/\
 ∃jH,fo.cell? ((⟨cq,0,none⟩:Addr).add 0)=some (.bool jH)/\
 ∃cV:SV,fo.cell? ((⟨cq,0,none⟩:Addr).add 1)=some (cV.v)/\
 alE (.cells #[.bool jH,cV.v] 67) fo λcB x8=>
 ∃aF:SV,∃pX,(Builtin.append_ #[33,33] 33 #[aD.v,.slice (some ⟨cB,0,none⟩) 1 1]).run prog x8=.ok (aF.v) pX/\
 zQf p2 λa72=>
 st1 (a72.add 2) (aF.v) pX λte=>
 zYe R J1 p2 p4 n6 n8 l9 ds te) (
 zQf p2 λa74=>
 ∃nG:SV,fo.cell? (a74.add 2)=some (nG.v)/\
 ∃jI,fo.cell? ((⟨cq,0,none⟩:Addr).add 0)=some (.bool jI)/\
 ∃cW:SV,fo.cell? ((⟨cq,0,none⟩:Addr).add 1)=some (cW.v)/\
 ∃a75,nG.a=some a75/\0<=(IntKind.i64.wrap (dm - 1))/\(IntKind.i64.wrap (dm - 1))<(nG.len:Int)/\
 stA prog 67 (a75.add ((IntKind.i64.wrap (dm - 1)).toNat * 2)) #[.bool jI,cW.v] fo λoq=>
 zYe R J1 p2 p4 n6 n8 l9 ds oq))))))
def F89_4 (R:Rt) (J1:(SV)->World->Prop) (p2 p4:Option Addr) (n6 n8:Int) (l9:SV) (ds:Ds) (w:World):Prop:=
 Br (decide ((l9.len:Int) > 0)) (
 F89_3 R J1 p2 p4 n6 n8 l9 ds w) (
 F89_1 R p2 p4 n8 ds w)
def F89_5(R:Rt)(p2 p4:Option Addr)(n6 n8:Int)(l9:SV)(ds:Ds)(w:World):Prop:=
 zQA (λ(J1:(SV)->World->Prop) (s:SV) (w:World)=>F89_4 R J1 p2 p4 n6 n8 s ds w) l9 w
def F89_7(R:Rt)(aw:Int)(ah ai l1:SV)(ds:Ds)(w:World):Prop:=
 alE (.cells #[.int .i64 aw,ah.v,ai.v] 35) w λr2 xq=>
 alE (.cells #[.int .i64 0,.slice none 0 0,.slice none 0 0] 35) xq λr4 w78=>
 ∃e7:SV,w78.cell? ((⟨r2,0,none⟩:Addr).add 1)=some (e7.v)/\
 Calls prog 128 #[e7.v] w78 λe qj=>
 ∃kj:Int,∃zm:Int,e=.returned (.tuple #[.int .i64 kj,.int .i64 zm])/\
 Br (decide ((l1.len:Int)<2)) (
 ∃bC,qj.cell? ((⟨r2,0,none⟩:Addr).add 0)=some (.int .i64 bC)/\
 ∃aL:SV,qj.cell? ((⟨r2,0,none⟩:Addr).add 1)=some (aL.v)/\
 ∃aM:SV,qj.cell? ((⟨r2,0,none⟩:Addr).add 2)=some (aM.v)/\
 stA prog 35 (⟨r4,0,none⟩:Addr) #[.int .i64 bC,aL.v,aM.v] qj λxu=>
 zQb prog ds xu λxr=>
 ∃ag,xr.cell? ((⟨r4,0,none⟩:Addr).add 0)=some (.int .i64 ag)/\
 ∃ab:SV,xr.cell? ((⟨r4,0,none⟩:Addr).add 1)=some (ab.v)/\
 ∃ae:SV,xr.cell? ((⟨r4,0,none⟩:Addr).add 2)=some (ae.v)/\
 R (.returned (.tuple #[.agg #[.int .i64 ag,ab.v,ae.v],.bool false])) xr) (
 IntKind.i64=IntKind.i64/\((IntKind.i64.wrap (kj+2)):Int) ≠ 0/\
 Br (((IntKind.i64.wrap ((l1.len:Int) - 2)).tmod (IntKind.i64.wrap (kj+2))) != 0) (
 ∃bC,qj.cell? ((⟨r2,0,none⟩:Addr).add 0)=some (.int .i64 bC)/\
 ∃aL:SV,qj.cell? ((⟨r2,0,none⟩:Addr).add 1)=some (aL.v)/\
 ∃aM:SV,qj.cell? ((⟨r2,0,none⟩:Addr).add 2)=some (aM.v)/\
 stA prog 35 (⟨r4,0,none⟩:Addr) #[.int .i64 bC,aL.v,aM.v] qj λw82=>
 zQb prog ds w82 λxt=>
 ∃ag,xt.cell? ((⟨r4,0,none⟩:Addr).add 0)=some (.int .i64 ag)/\
 ∃ab:SV,xt.cell? ((⟨r4,0,none⟩:Addr).add 1)=some (ab.v)/\
 ∃ae:SV,xt.cell? ((⟨r4,0,none⟩:Addr).add 2)=some (ae.v)/\
 R (.returned (.tuple #[.agg #[.int .i64 ag,ab.v,ae.v],.bool false])) xt) (
 0<=(2:Int)/\(2:Int).toNat<=l1.cap/\0<=(2:Int).toNat/\
 Calls prog 126 #[.slice (if l1.cap=0 then l1.a else l1.a.map (λx=>x.add (0 * 1))) ((2:Int).toNat - 0) (l1.cap - 0)] qj λe w84=>
 ∃qS:Int,e=.returned (.int .i64 qS)/\
 ∃uG,w84.cell? ((⟨r2,0,none⟩:Addr).add 0)=some (.int .i64 uG)/\
 ∃fq:SV,w84.cell? ((⟨r2,0,none⟩:Addr).add 1)=some (fq.v)/\
 ∃lg:SV,w84.cell? ((⟨r2,0,none⟩:Addr).add 2)=some (lg.v)/\
 Calls prog 56 #[.agg #[.int .i64 uG,fq.v,lg.v]] w84 λe w85=>
 ∃gL:Int,∃ci:SV,∃cj:SV,e=.returned (.agg #[.int .i64 gL,ci.v,cj.v])/\
 stA prog 35 (⟨r2,0,none⟩:Addr) #[.int .i64 gL,ci.v,cj.v] w85 λw86=>
 l1.len<=l1.cap/\0<=(2:Int)/\(2:Int).toNat<=l1.len/\
 F89_5 R (some (⟨r2,0,none⟩:Addr)) (some (⟨r4,0,none⟩:Addr)) kj qS ⟨(if l1.cap=(2:Int).toNat then l1.a else l1.a.map (λx=>x.add ((2:Int).toNat * 1))),(l1.len - (2:Int).toNat),(l1.cap - (2:Int).toNat)⟩ ds w86))
theorem F89_p:Pl prog f89 [aS 0 [.int .i64,.slice,.slice],lS 1] F89_7:=λR=>
 pc 7 (rest [pS 2,pS 4,iS 6,iS 8,lS 9] (F89_5 R) (bk 0 (rest [pS 2,pS 4,iS 8] (F89_1 R) lf) (lp [lS 9] [pS 2,pS 4,iS 6,iS 8,lS 9] (F89_4 R) zXI λJ1=>pc 2 (rest [pS 2,pS 4,iS 6,iS 8,lS 9] (F89_3 R J1) (pc 1 (rest [pS 2,pS 4,iS 6,iS 8,lS 9] (zYe R J1) lf))))))
theorem yYR (aw:Int) (ah ai l1:SV) (w:World) (R:Rt) (h:F89_7 R aw ah ai l1 [] w):Calls prog 89 #[.agg #[.int .i64 aw,ah.v,ai.v],l1.v] w R:=
 plC F89_p func89 h
end Go.Proofs.YtaeecpjhfmcliaaGreatDoor
/- Shallow texts of functions, printed by program, each checked by the kernel against the loaded code. No condition. -/
namespace Go.Proofs.YtaeecpjhfmcliaaGreatDoor
open Go.Sh Tryz
def F71_1(R:Rt)(p2 p3:Option Addr)(ds:Ds)(w:World):Prop:=
 zQf p3 λa1=>
 ∃cO,w.cell? (a1.add 0)=some (.int .i64 cO)/\
 ∃cC:SV,w.cell? (a1.add 1)=some (cC.v)/\
 ∃eX:SV,w.cell? (a1.add 2)=some (eX.v)/\
 zQf p2 λa2=>
 stA prog 35 a2 #[.int .i64 cO,cC.v,eX.v] w λw3=>
 zQb prog ds w3 λw4=>
 zQf p2 λa5=>
 ∃ag,w4.cell? (a5.add 0)=some (.int .i64 ag)/\
 ∃ab:SV,w4.cell? (a5.add 1)=some (ab.v)/\
 ∃ae:SV,w4.cell? (a5.add 2)=some (ae.v)/\
 R (.returned (.agg #[.int .i64 ag,ab.v,ae.v])) w4
def F71_2 (R:Rt) (J1:(Int)->World->Prop) (p1 p2 p3:Option Addr) (n4:Int) (ds:Ds) (w:World):Prop:=
 zQf p1 λa6=>
 ∃cA:SV,w.cell? (a6.add 2)=some (cA.v)/\
 Br (decide (n4<(cA.len:Int))) (
 dwE w λw7=>
 ∃S1:World->Prop,S1 w7/\
 zQf p3 λa8=>
 ∃cH:SV,(∀w',S1 w'->w'.cell? (a8.add 2)=some (cH.v))/\
 zQf p1 λa9=>
 ∃cz:SV,(∀w',S1 w'->w'.cell? (a9.add 2)=some (cz.v))/\
 ∃dy,cz.a=some dy/\0<=n4/\n4<(cz.len:Int)/\
 ∃nH,(∀w',S1 w'->w'.cell? ((dy.add (n4.toNat * 2)).add 0)=some (.bool nH))/\
 ∃bx:SV,(∀w',S1 w'->w'.cell? ((dy.add (n4.toNat * 2)).add 1)=some (bx.v))/\
 Calls prog 102 #[.agg #[.bool nH,bx.v]] w7 λe aU=>
 ∃uH:Bool,∃fK:SV,e=.returned (.agg #[.bool uH,fK.v])/\
 S1 aU/\
 alE (.cells #[.bool uH,fK.v] 67) aU λr26 aQ=>
 S1 aQ/\
 ∃cp:SV,∃aJ,(Builtin.append_ #[33,33] 33 #[cH.v,.slice (some ⟨r26,0,none⟩) 1 1]).run prog aQ=.ok (cp.v) aJ/\
 zQf p3 λfY=>
 st1 (fY.add 2) (cp.v) aJ λbm=>
 J1 (IntKind.i64.wrap (n4+1)) bm) (
 F71_1 R p2 p3 ds w)
def xJd(R:Rt)(p1 p2 p3:Option Addr)(n4:Int)(ds:Ds)(w:World):Prop:=
 zQA (λ(J1:(Int)->World->Prop) (s:Int) (w:World)=>F71_2 R J1 p1 p2 p3 s ds w) n4 w
def F71_5(R:Rt)(aw:Int)(ah ai:SV)(ds:Ds)(w:World):Prop:=
 alE (.cells #[.int .i64 aw,ah.v,ai.v] 35) w λr1 bF=>
 alE (.cells #[.int .i64 0,.slice none 0 0,.slice none 0 0] 35) bF λr2 bH=>
 dwE bH λbU=>
 ∃S2:World->Prop,S2 bU/\
 ∃n6,(∀w',S2 w'->w'.cell? (⟨r1,0,none⟩:Addr)=some (.int .i64 n6))/\
 ∃l8:SV,(∀w',S2 w'->w'.cell? ((⟨r1,0,none⟩:Addr).add 1)=some (l8.v))/\
 (
 ∃l9:SV,∃cM,(Builtin.append_ #[32,32] 32 #[.slice none 0 0,l8.v]).run prog bU=.ok (l9.v) cM/\
 S2 cM/\
 alE (.cells #[.int .i64 0,.slice none 0 0,.slice none 0 0] 35) cM λr3 bT=>
 S2 bT/\
 stA prog 35 (⟨r3,0,none⟩:Addr) #[.int .i64 n6,l9.v,.slice none 0 0] bT λbX=>
 xJd R (some (⟨r1,0,none⟩:Addr)) (some (⟨r2,0,none⟩:Addr)) (some (⟨r3,0,none⟩:Addr)) 0 ds bX)/\(
 alE (.cells #[.int .i64 0,.slice none 0 0,.slice none 0 0] 35) bU λr3 df=>
 S2 df/\
 ∃l9:SV,∃dU,(Builtin.append_ #[32,32] 32 #[.slice none 0 0,l8.v]).run prog df=.ok (l9.v) dU/\
 S2 dU/\
 stA prog 35 (⟨r3,0,none⟩:Addr) #[.int .i64 n6,l9.v,.slice none 0 0] dU λdw=>
 xJd R (some (⟨r1,0,none⟩:Addr)) (some (⟨r2,0,none⟩:Addr)) (some (⟨r3,0,none⟩:Addr)) 0 ds dw)
theorem F71_p:Pl prog f71 [aS 0 [.int .i64,.slice,.slice]] F71_5:=λR=>
 pc 3 (rest [pS 1,pS 2,pS 3,iS 4] (xJd R) (bk 0 (rest [pS 2,pS 3] (F71_1 R) lf) (lp [iS 4] [pS 1,pS 2,pS 3,iS 4] (F71_2 R) zXI λJ1=>lf)))
theorem xQb (aw:Int) (ah ai:SV) (w:World) (R:Rt) (h:F71_5 R aw ah ai [] w):Calls prog 71 #[.agg #[.int .i64 aw,ah.v,ai.v]] w R:=
 plC F71_p func71 h
def xKH(R:Rt)(mJ:Bool)(ah:SV)(ds:Ds)(w:World):Prop:=
 alE (.cells #[.bool mJ,ah.v] 67) w λr1 w1=>
 alE (.cells #[.bool false,.slice none 0 0] 67) w1 λr2 w2=>
 dwE w2 λw3=>
 ∃S1:World->Prop,S1 w3/\
 ∃b4,(∀w',S1 w'->w'.cell? (⟨r1,0,none⟩:Addr)=some (.bool b4))/\
 ∃l6:SV,(∀w',S1 w'->w'.cell? ((⟨r1,0,none⟩:Addr).add 1)=some (l6.v))/\
 ∃l7:SV,∃w4,(Builtin.append_ #[38,38] 38 #[.slice none 0 0,l6.v]).run prog w3=.ok (l7.v) w4/\
 S1 w4/\
 stA prog 67 (⟨r2,0,none⟩:Addr) #[.bool b4,l7.v] w4 λw5=>
 zQb prog ds w5 λw6=>
 ∃bJ,w6.cell? ((⟨r2,0,none⟩:Addr).add 0)=some (.bool bJ)/\
 ∃ab:SV,w6.cell? ((⟨r2,0,none⟩:Addr).add 1)=some (ab.v)/\
 R (.returned (.agg #[.bool bJ,ab.v])) w6
theorem F102_p:Pl prog f102 [aS 0 [.bool,.slice]] xKH:=λR=>
 lf
theorem yKK (mJ:Bool) (ah:SV) (w:World) (R:Rt) (h:xKH R mJ ah [] w):Calls prog 102 #[.agg #[.bool mJ,ah.v]] w R:=
 plC F102_p func102 h
end Go.Proofs.YtaeecpjhfmcliaaGreatDoor
/- Shallow texts of functions, printed by program, each checked by the kernel against the loaded code. No condition. -/
namespace Go.Proofs.YtaeecpjhfmcliaaGreatDoor
open Go.Sh Tryz
def F95_1(R:Rt)(p0:Option Addr)(ds:Ds)(w:World):Prop:=
 zQf p0 λa1=>
 Calls prog 137 #[.pointer (some a1)] w λe w2=>
 e=.returned (.tuple #[])/\
 zQb prog ds w2 λw3=>
 R (.returned (.tuple #[])) w3
theorem F95_p:Pl prog f95 [pS 0] F95_1:=λR=>
 lf
theorem yYh (p0:Option Addr) (w:World) (R:Rt) (h:F95_1 R p0 [] w):Calls prog 95 #[.pointer p0] w R:=
 plC F95_p func95 h
def F96_1(R:Rt)(p0:Option Addr)(ds:Ds)(w:World):Prop:=
 zQf p0 λa1=>
 Calls prog 138 #[.pointer (some a1)] w λe w2=>
 e=.returned (.tuple #[])/\
 zQb prog ds w2 λw3=>
 R (.returned (.tuple #[])) w3
theorem F96_p:Pl prog f96 [pS 0] F96_1:=λR=>
 lf
theorem yVo (p0:Option Addr) (w:World) (R:Rt) (u:FrameMode) (h:F96_1 R p0 [] w):CallsD prog 96 #[.pointer p0] u w λe u' w'=>u'=u/\R e w':=
 plD F96_p func96 u h
def xKI(R:Rt)(p0:Option Addr)(ds:Ds)(w:World):Prop:=
 ∃w1,(callFunc 169 #[]).run prog w=.ok (.value (.tuple #[])) w1/\
 zQf p0 λa2=>
 ∃b6:Bool,∃w3,(callFunc 170 #[.pointer (some a2),.int .i32 0,.int .i32 1]).run prog w1=.ok (.value (.bool b6)) w3/\
 Br b6 (
 ∃w4,(callFunc 171 #[]).run prog w3=.ok (.value (.tuple #[])) w4/\
 ∃v9:Value,∃w5,(convert 197 201 (.pointer p0)).run prog w4=.ok (v9) w5/\
 ∃w6,(callFunc 172 #[v9]).run prog w5=.ok (.value (.tuple #[])) w6/\
 zQb prog ds w6 λw7=>
 R (.returned (.tuple #[])) w7) (
 Calls prog 173 #[.pointer p0] w3 λe w8=>
 e=.returned (.tuple #[])/\
 zQb prog ds w8 λw9=>
 R (.returned (.tuple #[])) w9)
theorem F137_p:Pl prog f137 [pS 0] xKI:=λR=>
 lf
theorem yKN (p0:Option Addr) (w:World) (R:Rt) (h:xKI R p0 [] w):Calls prog 137 #[.pointer p0] w R:=
 plC F137_p func137 h
def xJH(R:Rt)(p0:Option Addr)(ds:Ds)(w:World):Prop:=
 zQf p0 λa1=>
 ∃n6,w.cell? a1=some (.int .i32 n6)/\
 ∃v8:Value,∃w2,(convert 197 201 (.pointer p0)).run prog w=.ok (v8) w2/\
 ∃w3,(callFunc 174 #[v8]).run prog w2=.ok (.value (.tuple #[])) w3/\
 ∃w4,(callFunc 169 #[]).run prog w3=.ok (.value (.tuple #[])) w4/\
 zQf p0 λa5=>
 ∃mG:Int,∃w6,(callFunc 175 #[.pointer (some a5),.int .i32 (-1)]).run prog w4=.ok (.value (.int .i32 mG)) w6/\
 Br (mG != 0) (
 Calls prog 176 #[.pointer p0,.int .i32 mG] w6 λe w7=>
 e=.returned (.tuple #[])/\
 ∃w8,(callFunc 171 #[]).run prog w7=.ok (.value (.tuple #[])) w8/\
 zQb prog ds w8 λw9=>
 R (.returned (.tuple #[])) w9) (
 ∃aP,(callFunc 171 #[]).run prog w6=.ok (.value (.tuple #[])) aP/\
 zQb prog ds aP λaU=>
 R (.returned (.tuple #[])) aU)
theorem F138_p:Pl prog f138 [pS 0] xJH:=λR=>
 lf
theorem yVm (p0:Option Addr) (w:World) (R:Rt) (h:xJH R p0 [] w):Calls prog 138 #[.pointer p0] w R:=
 plC F138_p func138 h
def F55_1(R:Rt)(p0:Option Addr)(ds:Ds)(w:World):Prop:=
 ∃b5:Bool,∃w1,(eqS .eql 24 (.tmp 4) (.const (.pointer none)) (.pointer p0) (.pointer none)).run prog w=.ok (.bool b5) w1/\
 Br b5 (
 zQb prog ds w1 λw2=>
 R (.returned (.tuple #[.func (.func 94) #[] #[],.int .i64 9])) w2) (
 zQf p0 λa3=>
 Calls prog 95 #[.pointer (some a3)] w1 λe w4=>
 e=.returned (.tuple #[])/\
 zQf p0 λa5=>
 zQb prog ds w4 λw6=>
 R (.returned (.tuple #[.func (.func 96) #[.pointer (some a5)] #[],.int .i64 0])) w6)
theorem F55_p:Pl prog f55 [pS 0] F55_1:=λR=>
 lf
theorem xXC (p0:Option Addr) (w:World) (R:Rt) (h:F55_1 R p0 [] w):Calls prog 55 #[.pointer p0] w R:=
 plC F55_p func55 h
end Go.Proofs.YtaeecpjhfmcliaaGreatDoor
/- Shallow texts of functions, printed by program, each checked by the kernel against the loaded code. No condition. -/
namespace Go.Proofs.YtaeecpjhfmcliaaGreatDoor
open Go.Sh Tryz
def F50_1(R:Rt)(aw:Int)(ah ai l1:SV)(ds:Ds)(w:World):Prop:=
 alE (.cells #[.int .i64 aw,ah.v,ai.v] 35) w λr2 w1=>
 dwE w1 λw2=>
 ∃S1:World->Prop,S1 w2/\
 ∃iF,(∀w',S1 w'->w'.cell? ((⟨r2,0,none⟩:Addr).add 0)=some (.int .i64 iF))/\
 ∃dB:SV,(∀w',S1 w'->w'.cell? ((⟨r2,0,none⟩:Addr).add 1)=some (dB.v))/\
 ∃cF:SV,(∀w',S1 w'->w'.cell? ((⟨r2,0,none⟩:Addr).add 2)=some (cF.v))/\
 ∃dG,(∀w',S1 w'->w'.cell? ((⟨r2,0,none⟩:Addr).add 0)=some (.int .i64 dG))/\
 ∃bY:SV,(∀w',S1 w'->w'.cell? ((⟨r2,0,none⟩:Addr).add 1)=some (bY.v))/\
 ∃bD:SV,(∀w',S1 w'->w'.cell? ((⟨r2,0,none⟩:Addr).add 2)=some (bD.v))/\
 Calls prog 56 #[.agg #[.int .i64 iF,dB.v,cF.v]] w2 λe w3=>
 ∃kf:Int,∃dC:SV,∃dD:SV,e=.returned (.agg #[.int .i64 kf,dC.v,dD.v])/\
 S1 w3/\
 Calls prog 56 #[.agg #[.int .i64 dG,bY.v,bD.v]] w3 λe w4=>
 ∃qL:Int,∃pM:SV,∃pN:SV,e=.returned (.agg #[.int .i64 qL,pM.v,pN.v])/\
 alE (.cells #[.int .i64 qL,pM.v,pN.v] 35) w4 λr9 w5=>
 alE (.cells #[.int .i32 0,.int .u32 0,.int .i64 kf,dC.v,dD.v,.slice none 0 0,.slice (some ⟨r9,0,none⟩) 1 1,l1.v,l1.v,.slice none 0 0,.slice none 0 0] 108) w5 λqa w6=>
 zQb prog ds w6 λw7=>
 R (.returned (.pointer (some (⟨qa,0,none⟩:Addr)))) w7
theorem F50_p:Pl prog f50 [aS 0 [.int .i64,.slice,.slice],lS 1] F50_1:=λR=>
 lf
theorem xXF (aw:Int) (ah ai l1:SV) (w:World) (R:Rt) (h:F50_1 R aw ah ai l1 [] w):Calls prog 50 #[.agg #[.int .i64 aw,ah.v,ai.v],l1.v] w R:=
 plC F50_p func50 h
end Go.Proofs.YtaeecpjhfmcliaaGreatDoor
/- Shallow texts of functions, printed by program, each checked by the kernel against the loaded code. No condition. -/
namespace Go.Proofs.YtaeecpjhfmcliaaGreatDoor
open Go.Sh Tryz
def F43_1(R:Rt)(aw:Int)(ah ai:SV)(ds:Ds)(w:World):Prop:=
 alE (.cells #[.int .i64 aw,ah.v,ai.v] 35) w λr1 w1=>
 ∃dG,w1.cell? ((⟨r1,0,none⟩:Addr).add 0)=some (.int .i64 dG)/\
 ∃bY:SV,w1.cell? ((⟨r1,0,none⟩:Addr).add 1)=some (bY.v)/\
 ∃bD:SV,w1.cell? ((⟨r1,0,none⟩:Addr).add 2)=some (bD.v)/\
 Calls prog 86 #[.agg #[.int .i64 dG,bY.v,bD.v]] w1 λe w2=>
 ∃pO:SV,∃kL:Int,e=.returned (.tuple #[pO.v,.int .i64 kL])/\
 Br (kL != 0) (
 zQb prog ds w2 λw3=>
 R (.returned (.tuple #[.pointer none,.int .i64 kL])) w3) (
 ∃jE,w2.cell? ((⟨r1,0,none⟩:Addr).add 0)=some (.int .i64 jE)/\
 ∃cb:SV,w2.cell? ((⟨r1,0,none⟩:Addr).add 1)=some (cb.v)/\
 ∃cQ:SV,w2.cell? ((⟨r1,0,none⟩:Addr).add 2)=some (cQ.v)/\
 alE (.cells #[pO.v,.slice none 0 0] 22) w2 λzn w4=>
 Calls prog 50 #[.agg #[.int .i64 jE,cb.v,cQ.v],.slice (some ⟨zn,0,none⟩) 2 2] w4 λe w5=>
 ∃p17:Option Addr,e=.returned (.pointer p17)/\
 zQb prog ds w5 λw6=>
 R (.returned (.tuple #[.pointer p17,.int .i64 0])) w6)
theorem F43_p:Pl prog f43 [aS 0 [.int .i64,.slice,.slice]] F43_1:=λR=>
 lf
theorem xZb (aw:Int) (ah ai:SV) (w:World) (R:Rt) (h:F43_1 R aw ah ai [] w):Calls prog 43 #[.agg #[.int .i64 aw,ah.v,ai.v]] w R:=
 plC F43_p func43 h
end Go.Proofs.YtaeecpjhfmcliaaGreatDoor
/- Shallow texts of functions, printed by program, each checked by the kernel against the loaded code. No condition. -/
namespace Go.Proofs.YtaeecpjhfmcliaaGreatDoor
open Go.Sh Tryz
def F14_1(R:Rt)(p0:Option Addr)(ds:Ds)(w:World):Prop:=
 alE (.cells #[.int .i64 0,.slice none 0 0,.slice none 0 0] 35) w λr2 w1=>
 Calls prog 55 #[.pointer p0] w1 λe w2=>
 ∃gM:Value,∃dg:Int,e=.returned (.tuple #[gM,.int .i64 dg])/\
 fnE gM λfx firstx capx=>
 Br (dg != 0) (
 stA prog 35 (⟨r2,0,none⟩:Addr) #[.int .i64 0,.slice none 0 0,.slice none 0 0] w2 λw3=>
 zQb prog ({ target:=.fn (.func fx) capx,args:=(firstx.toList ++ ([]:List Value)).toArray } :: ds) w3 λw4=>
 ∃ag,w4.cell? ((⟨r2,0,none⟩:Addr).add 0)=some (.int .i64 ag)/\
 ∃ab:SV,w4.cell? ((⟨r2,0,none⟩:Addr).add 1)=some (ab.v)/\
 ∃ae:SV,w4.cell? ((⟨r2,0,none⟩:Addr).add 2)=some (ae.v)/\
 R (.returned (.agg #[.int .i64 ag,ab.v,ae.v])) w4) (
 zQf p0 λa5=>
 ∃gn,w2.cell? ((a5.add 2).add 0)=some (.int .i64 gn)/\
 ∃cX:SV,w2.cell? ((a5.add 2).add 1)=some (cX.v)/\
 ∃cY:SV,w2.cell? ((a5.add 2).add 2)=some (cY.v)/\
 Calls prog 56 #[.agg #[.int .i64 gn,cX.v,cY.v]] w2 λe w6=>
 ∃eO:Int,∃br:SV,∃ck:SV,e=.returned (.agg #[.int .i64 eO,br.v,ck.v])/\
 stA prog 35 (⟨r2,0,none⟩:Addr) #[.int .i64 eO,br.v,ck.v] w6 λw7=>
 zQb prog ({ target:=.fn (.func fx) capx,args:=(firstx.toList ++ ([]:List Value)).toArray } :: ds) w7 λw8=>
 ∃ag,w8.cell? ((⟨r2,0,none⟩:Addr).add 0)=some (.int .i64 ag)/\
 ∃ab:SV,w8.cell? ((⟨r2,0,none⟩:Addr).add 1)=some (ab.v)/\
 ∃ae:SV,w8.cell? ((⟨r2,0,none⟩:Addr).add 2)=some (ae.v)/\
 R (.returned (.agg #[.int .i64 ag,ab.v,ae.v])) w8)
theorem F14_p:Pl prog f14 [pS 0] F14_1:=λR=>
 lf
theorem xZe (p0:Option Addr) (w:World) (R:Rt) (h:F14_1 R p0 [] w):Calls prog 14 #[.pointer p0] w R:=
 plC F14_p func14 h
def F27_1(R:Rt)(p0:Option Addr)(n1:Int)(ds:Ds)(w:World):Prop:=
 alE (.cells #[.int .i64 0,.slice none 0 0,.slice none 0 0] 35) w λr4 w1=>
 Calls prog 55 #[.pointer p0] w1 λe w2=>
 ∃uI:Value,∃ji:Int,e=.returned (.tuple #[uI,.int .i64 ji])/\
 fnE uI λfx firstx capx=>
 Br (ji != 0) (
 stA prog 35 (⟨r4,0,none⟩:Addr) #[.int .i64 0,.slice none 0 0,.slice none 0 0] w2 λw3=>
 zQb prog ({ target:=.fn (.func fx) capx,args:=(firstx.toList ++ ([]:List Value)).toArray } :: ds) w3 λw4=>
 ∃ag,w4.cell? ((⟨r4,0,none⟩:Addr).add 0)=some (.int .i64 ag)/\
 ∃ab:SV,w4.cell? ((⟨r4,0,none⟩:Addr).add 1)=some (ab.v)/\
 ∃ae:SV,w4.cell? ((⟨r4,0,none⟩:Addr).add 2)=some (ae.v)/\
 R (.returned (.tuple #[.agg #[.int .i64 ag,ab.v,ae.v],.int .i64 ji])) w4) (
 Br (decide (n1<0)) (
 stA prog 35 (⟨r4,0,none⟩:Addr) #[.int .i64 0,.slice none 0 0,.slice none 0 0] w2 λw5=>
 zQb prog ({ target:=.fn (.func fx) capx,args:=(firstx.toList ++ ([]:List Value)).toArray } :: ds) w5 λw6=>
 ∃ag,w6.cell? ((⟨r4,0,none⟩:Addr).add 0)=some (.int .i64 ag)/\
 ∃ab:SV,w6.cell? ((⟨r4,0,none⟩:Addr).add 1)=some (ab.v)/\
 ∃ae:SV,w6.cell? ((⟨r4,0,none⟩:Addr).add 2)=some (ae.v)/\
 R (.returned (.tuple #[.agg #[.int .i64 ag,ab.v,ae.v],.int .i64 1])) w6) (
 zQf p0 λa7=>
 ∃eb:SV,w2.cell? (a7.add 6)=some (eb.v)/\
 Br (decide (n1 >= (eb.len:Int))) (
 stA prog 35 (⟨r4,0,none⟩:Addr) #[.int .i64 0,.slice none 0 0,.slice none 0 0] w2 λw8=>
 zQb prog ({ target:=.fn (.func fx) capx,args:=(firstx.toList ++ ([]:List Value)).toArray } :: ds) w8 λw9=>
 ∃ag,w9.cell? ((⟨r4,0,none⟩:Addr).add 0)=some (.int .i64 ag)/\
 ∃ab:SV,w9.cell? ((⟨r4,0,none⟩:Addr).add 1)=some (ab.v)/\
 ∃ae:SV,w9.cell? ((⟨r4,0,none⟩:Addr).add 2)=some (ae.v)/\
 R (.returned (.tuple #[.agg #[.int .i64 ag,ab.v,ae.v],.int .i64 1])) w9) (
 zQf p0 λdy=>
 ∃iD:SV,w2.cell? (dy.add 6)=some (iD.v)/\
 ∃dI,iD.a=some dI/\0<=n1/\n1<(iD.len:Int)/\
 ∃gL,w2.cell? ((dI.add (n1.toNat * 3)).add 0)=some (.int .i64 gL)/\
 ∃ci:SV,w2.cell? ((dI.add (n1.toNat * 3)).add 1)=some (ci.v)/\
 ∃cj:SV,w2.cell? ((dI.add (n1.toNat * 3)).add 2)=some (cj.v)/\
 Calls prog 56 #[.agg #[.int .i64 gL,ci.v,cj.v]] w2 λe aQ=>
 ∃jo:Int,∃fL:SV,∃fM:SV,e=.returned (.agg #[.int .i64 jo,fL.v,fM.v])/\
 stA prog 35 (⟨r4,0,none⟩:Addr) #[.int .i64 jo,fL.v,fM.v] aQ λaJ=>
 zQb prog ({ target:=.fn (.func fx) capx,args:=(firstx.toList ++ ([]:List Value)).toArray } :: ds) aJ λbB=>
 ∃ag,bB.cell? ((⟨r4,0,none⟩:Addr).add 0)=some (.int .i64 ag)/\
 ∃ab:SV,bB.cell? ((⟨r4,0,none⟩:Addr).add 1)=some (ab.v)/\
 ∃ae:SV,bB.cell? ((⟨r4,0,none⟩:Addr).add 2)=some (ae.v)/\
 R (.returned (.tuple #[.agg #[.int .i64 ag,ab.v,ae.v],.int .i64 0])) bB)))
theorem F27_p:Pl prog f27 [pS 0,iS 1] F27_1:=λR=>
 lf
theorem xQl (p0:Option Addr) (n1:Int) (w:World) (R:Rt) (h:F27_1 R p0 n1 [] w):Calls prog 27 #[.pointer p0,.int .i64 n1] w R:=
 plC F27_p func27 h
def F22_1(R:Rt)(p0:Option Addr)(ds:Ds)(w:World):Prop:=
 Calls prog 55 #[.pointer p0] w λe w1=>
 ∃gM:Value,∃dg:Int,e=.returned (.tuple #[gM,.int .i64 dg])/\
 fnE gM λfx firstx capx=>
 Br (dg != 0) (
 zQb prog ({ target:=.fn (.func fx) capx,args:=(firstx.toList ++ ([]:List Value)).toArray } :: ds) w1 λw2=>
 R (.returned (.int .i64 0)) w2) (
 zQf p0 λa3=>
 ∃dT:SV,w1.cell? (a3.add 6)=some (dT.v)/\
 zQb prog ({ target:=.fn (.func fx) capx,args:=(firstx.toList ++ ([]:List Value)).toArray } :: ds) w1 λw4=>
 R (.returned (.int .i64 (IntKind.i64.wrap ((dT.len:Int) - 1)))) w4)
theorem F22_p:Pl prog f22 [pS 0] F22_1:=λR=>
 lf
theorem xQT (p0:Option Addr) (w:World) (R:Rt) (h:F22_1 R p0 [] w):Calls prog 22 #[.pointer p0] w R:=
 plC F22_p func22 h
def F30_1(R:Rt)(p0:Option Addr)(ds:Ds)(w:World):Prop:=
 Calls prog 55 #[.pointer p0] w λe w1=>
 ∃gM:Value,∃dg:Int,e=.returned (.tuple #[gM,.int .i64 dg])/\
 fnE gM λfx firstx capx=>
 Br (dg != 0) (
 zQb prog ({ target:=.fn (.func fx) capx,args:=(firstx.toList ++ ([]:List Value)).toArray } :: ds) w1 λw2=>
 R (.returned (.int .i64 0)) w2) (
 zQf p0 λa3=>
 ∃dT:SV,w1.cell? (a3.add 9)=some (dT.v)/\
 zQb prog ({ target:=.fn (.func fx) capx,args:=(firstx.toList ++ ([]:List Value)).toArray } :: ds) w1 λw4=>
 R (.returned (.int .i64 (dT.len:Int))) w4)
theorem F30_p:Pl prog f30 [pS 0] F30_1:=λR=>
 lf
theorem xQ3 (p0:Option Addr) (w:World) (R:Rt) (h:F30_1 R p0 [] w):Calls prog 30 #[.pointer p0] w R:=
 plC F30_p func30 h
def F29_1(R:Rt)(p0:Option Addr)(ds:Ds)(w:World):Prop:=
 Calls prog 55 #[.pointer p0] w λe w1=>
 ∃gM:Value,∃dg:Int,e=.returned (.tuple #[gM,.int .i64 dg])/\
 fnE gM λfx firstx capx=>
 Br (dg != 0) (
 zQb prog ({ target:=.fn (.func fx) capx,args:=(firstx.toList ++ ([]:List Value)).toArray } :: ds) w1 λw2=>
 R (.returned (.slice none 0 0)) w2) (
 zQf p0 λa3=>
 ∃dT:SV,w1.cell? (a3.add 10)=some (dT.v)/\
 Calls prog 74 #[dT.v] w1 λe w4=>
 ∃cN:SV,e=.returned (cN.v)/\
 zQb prog ({ target:=.fn (.func fx) capx,args:=(firstx.toList ++ ([]:List Value)).toArray } :: ds) w4 λw5=>
 R (.returned (cN.v)) w5)
theorem F29_p:Pl prog f29 [pS 0] F29_1:=λR=>
 lf
theorem xX4 (p0:Option Addr) (w:World) (R:Rt) (h:F29_1 R p0 [] w):Calls prog 29 #[.pointer p0] w R:=
 plC F29_p func29 h
def F25_1(R:Rt)(p0:Option Addr)(ds:Ds)(w:World):Prop:=
 Calls prog 55 #[.pointer p0] w λe w1=>
 ∃nI:Value,∃dA:Int,e=.returned (.tuple #[nI,.int .i64 dA])/\
 fnE nI λfx firstx capx=>
 Br (dA != 0) (
 zQb prog ({ target:=.fn (.func fx) capx,args:=(firstx.toList ++ ([]:List Value)).toArray } :: ds) w1 λw2=>
 R (.returned (.slice none 0 0)) w2) (
 dwE w1 λw3=>
 zQf p0 λa4=>
 ∃cH:SV,w3.cell? (a4.add 6)=some (cH.v)/\
 zQf p0 λa5=>
 ∃iV:SV,w3.cell? (a5.add 6)=some (iV.v)/\
 ∃a6,cH.a=some a6/\0<=(IntKind.i64.wrap ((iV.len:Int) - 1))/\(IntKind.i64.wrap ((iV.len:Int) - 1))<(cH.len:Int)/\
 ∃uJ,w3.cell? ((a6.add ((IntKind.i64.wrap ((iV.len:Int) - 1)).toNat * 3)).add 0)=some (.int .i64 uJ)/\
 ∃bA:SV,w3.cell? ((a6.add ((IntKind.i64.wrap ((iV.len:Int) - 1)).toNat * 3)).add 1)=some (bA.v)/\
 ∃li:SV,w3.cell? ((a6.add ((IntKind.i64.wrap ((iV.len:Int) - 1)).toNat * 3)).add 2)=some (li.v)/\
 zQf p0 λa7=>
 ∃bC,w3.cell? ((a7.add 2).add 0)=some (.int .i64 bC)/\
 ∃aL:SV,w3.cell? ((a7.add 2).add 1)=some (aL.v)/\
 ∃aM:SV,w3.cell? ((a7.add 2).add 2)=some (aM.v)/\
 Calls prog 72 #[.agg #[.int .i64 uJ,bA.v,li.v],.agg #[.int .i64 bC,aL.v,aM.v]] w3 λe w8=>
 ∃lj:SV,∃o6:Int,e=.returned (.tuple #[lj.v,.int .i64 o6])/\
 zQb prog ({ target:=.fn (.func fx) capx,args:=(firstx.toList ++ ([]:List Value)).toArray } :: ds) w8 λw9=>
 R (.returned (lj.v)) w9)
theorem F25_p:Pl prog f25 [pS 0] F25_1:=λR=>
 lf
theorem xXn (p0:Option Addr) (w:World) (R:Rt) (h:F25_1 R p0 [] w):Calls prog 25 #[.pointer p0] w R:=
 plC F25_p func25 h
end Go.Proofs.YtaeecpjhfmcliaaGreatDoor
/- Shallow texts of functions, printed by program, each checked by the kernel against the loaded code. No condition. -/
namespace Go.Proofs.YtaeecpjhfmcliaaGreatDoor
open Go.Sh Tryz
def F35_1(R:Rt)(p0:Option Addr)(ds:Ds)(w:World):Prop:=
 Calls prog 55 #[.pointer p0] w λe w1=>
 ∃gM:Value,∃dg:Int,e=.returned (.tuple #[gM,.int .i64 dg])/\
 fnE gM λfx firstx capx=>
 Br (dg != 0) (
 zQb prog ({ target:=.fn (.func fx) capx,args:=(firstx.toList ++ ([]:List Value)).toArray } :: ds) w1 λw2=>
 R (.returned (.int .i64 dg)) w2) (
 zQf p0 λa3=>
 ∃cH:SV,w1.cell? (a3.add 5)=some (cH.v)/\
 Br (decide ((cH.len:Int) >= 8)) (
 zQb prog ({ target:=.fn (.func fx) capx,args:=(firstx.toList ++ ([]:List Value)).toArray } :: ds) w1 λw4=>
 R (.returned (.int .i64 3)) w4) (
 dwE w1 λw5=>
 ∃S1:World->Prop,S1 w5/\
 zQf p0 λa6=>
 ∃dS:SV,(∀w',S1 w'->w'.cell? (a6.add 5)=some (dS.v))/\
 zQf p0 λa7=>
 ∃eW,(∀w',S1 w'->w'.cell? ((a7.add 2).add 0)=some (.int .i64 eW))/\
 ∃bu:SV,(∀w',S1 w'->w'.cell? ((a7.add 2).add 1)=some (bu.v))/\
 ∃bv:SV,(∀w',S1 w'->w'.cell? ((a7.add 2).add 2)=some (bv.v))/\
 Calls prog 56 #[.agg #[.int .i64 eW,bu.v,bv.v]] w5 λe w8=>
 ∃bC:Int,∃aL:SV,∃aM:SV,e=.returned (.agg #[.int .i64 bC,aL.v,aM.v])/\
 S1 w8/\
 alE (.cells #[.int .i64 bC,aL.v,aM.v] 35) w8 λr32 w9=>
 S1 w9/\
 ∃iD:SV,∃aP,(Builtin.append_ #[106,106] 106 #[dS.v,.slice (some ⟨r32,0,none⟩) 1 1]).run prog w9=.ok (iD.v) aP/\
 zQf p0 λdI=>
 st1 (dI.add 5) (iD.v) aP λaQ=>
 zQb prog ({ target:=.fn (.func fx) capx,args:=(firstx.toList ++ ([]:List Value)).toArray } :: ds) aQ λaJ=>
 R (.returned (.int .i64 0)) aJ))
theorem F35_p:Pl prog f35 [pS 0] F35_1:=λR=>
 lf
theorem yYL (p0:Option Addr) (w:World) (R:Rt) (h:F35_1 R p0 [] w):Calls prog 35 #[.pointer p0] w R:=
 plC F35_p func35 h
def F80_1(R:Rt)(p0:Option Addr)(ds:Ds)(w:World):Prop:=
 alE (.cells #[.int .i64 0,.slice none 0 0,.slice none 0 0] 35) w λr2 w1=>
 zQf p0 λa2=>
 ∃l9:SV,w1.cell? (a2.add 5)=some (l9.v)/\
 Br ((l9.len:Int) == 0) (
 stA prog 35 (⟨r2,0,none⟩:Addr) #[.int .i64 0,.slice none 0 0,.slice none 0 0] w1 λw3=>
 zQb prog ds w3 λw4=>
 ∃ag,w4.cell? ((⟨r2,0,none⟩:Addr).add 0)=some (.int .i64 ag)/\
 ∃ab:SV,w4.cell? ((⟨r2,0,none⟩:Addr).add 1)=some (ab.v)/\
 ∃ae:SV,w4.cell? ((⟨r2,0,none⟩:Addr).add 2)=some (ae.v)/\
 R (.returned (.tuple #[.agg #[.int .i64 ag,ab.v,ae.v],.int .i64 9])) w4) (
 zQf p0 λa5=>
 ∃cN:SV,w1.cell? (a5.add 5)=some (cN.v)/\
 ∃a6,cN.a=some a6/\0<=(IntKind.i64.wrap ((l9.len:Int) - 1))/\(IntKind.i64.wrap ((l9.len:Int) - 1))<(cN.len:Int)/\
 ∃cZ,w1.cell? ((a6.add ((IntKind.i64.wrap ((l9.len:Int) - 1)).toNat * 3)).add 0)=some (.int .i64 cZ)/\
 ∃cn:SV,w1.cell? ((a6.add ((IntKind.i64.wrap ((l9.len:Int) - 1)).toNat * 3)).add 1)=some (cn.v)/\
 ∃c8:SV,w1.cell? ((a6.add ((IntKind.i64.wrap ((l9.len:Int) - 1)).toNat * 3)).add 2)=some (c8.v)/\
 alE (.cells #[.int .i64 0,.slice none 0 0,.slice none 0 0] 35) w1 λr5 w7=>
 stA prog 35 (⟨r5,0,none⟩:Addr) #[.int .i64 cZ,cn.v,c8.v] w7 λw8=>
 zQf p0 λa9=>
 ∃dS:SV,w8.cell? (a9.add 5)=some (dS.v)/\
 0<=(IntKind.i64.wrap ((l9.len:Int) - 1))/\(IntKind.i64.wrap ((l9.len:Int) - 1)).toNat<=dS.cap/\0<=(IntKind.i64.wrap ((l9.len:Int) - 1)).toNat/\
 zQf p0 λdy=>
 st1 (dy.add 5) (.slice (if dS.cap=0 then dS.a else dS.a.map (λx=>x.add (0 * 3))) ((IntKind.i64.wrap ((l9.len:Int) - 1)).toNat - 0) (dS.cap - 0)) w8 λaU=>
 ∃nr,aU.cell? ((⟨r5,0,none⟩:Addr).add 0)=some (.int .i64 nr)/\
 ∃lk:SV,aU.cell? ((⟨r5,0,none⟩:Addr).add 1)=some (lk.v)/\
 ∃lm:SV,aU.cell? ((⟨r5,0,none⟩:Addr).add 2)=some (lm.v)/\
 stA prog 35 (⟨r2,0,none⟩:Addr) #[.int .i64 nr,lk.v,lm.v] aU λaQ=>
 zQb prog ds aQ λaJ=>
 ∃ag,aJ.cell? ((⟨r2,0,none⟩:Addr).add 0)=some (.int .i64 ag)/\
 ∃ab:SV,aJ.cell? ((⟨r2,0,none⟩:Addr).add 1)=some (ab.v)/\
 ∃ae:SV,aJ.cell? ((⟨r2,0,none⟩:Addr).add 2)=some (ae.v)/\
 R (.returned (.tuple #[.agg #[.int .i64 ag,ab.v,ae.v],.int .i64 0])) aJ)
theorem F80_p:Pl prog f80 [pS 0] F80_1:=λR=>
 lf
theorem xX3 (p0:Option Addr) (w:World) (R:Rt) (h:F80_1 R p0 [] w):Calls prog 80 #[.pointer p0] w R:=
 plC F80_p func80 h
def F36_1(R:Rt)(p0:Option Addr)(ds:Ds)(w:World):Prop:=
 Calls prog 55 #[.pointer p0] w λe w1=>
 ∃nI:Value,∃dA:Int,e=.returned (.tuple #[nI,.int .i64 dA])/\
 fnE nI λfx firstx capx=>
 Br (dA != 0) (
 zQb prog ({ target:=.fn (.func fx) capx,args:=(firstx.toList ++ ([]:List Value)).toArray } :: ds) w1 λw2=>
 R (.returned (.int .i64 dA)) w2) (
 Calls prog 80 #[.pointer p0] w1 λe w3=>
 ∃pj:Int,∃gZ:SV,∃hH:SV,∃f7:Int,e=.returned (.tuple #[.agg #[.int .i64 pj,gZ.v,hH.v],.int .i64 f7])/\
 alE (.cells #[.int .i64 0,.slice none 0 0,.slice none 0 0] 35) w3 λr5 w4=>
 stA prog 35 (⟨r5,0,none⟩:Addr) #[.int .i64 pj,gZ.v,hH.v] w4 λw5=>
 Br (f7 != 0) (
 zQb prog ({ target:=.fn (.func fx) capx,args:=(firstx.toList ++ ([]:List Value)).toArray } :: ds) w5 λw6=>
 R (.returned (.int .i64 f7)) w6) (
 Calls prog 79 #[.pointer p0] w5 λe w7=>
 e=.returned (.tuple #[])/\
 zQb prog ({ target:=.fn (.func fx) capx,args:=(firstx.toList ++ ([]:List Value)).toArray } :: ds) w7 λw8=>
 R (.returned (.int .i64 0)) w8))
theorem F36_p:Pl prog f36 [pS 0] F36_1:=λR=>
 lf
theorem xXP (p0:Option Addr) (w:World) (R:Rt) (h:F36_1 R p0 [] w):Calls prog 36 #[.pointer p0] w R:=
 plC F36_p func36 h
def F37_1(R:Rt)(p0:Option Addr)(ds:Ds)(w:World):Prop:=
 Calls prog 55 #[.pointer p0] w λe w1=>
 ∃zo:Value,∃kL:Int,e=.returned (.tuple #[zo,.int .i64 kL])/\
 fnE zo λfx firstx capx=>
 Br (kL != 0) (
 zQb prog ({ target:=.fn (.func fx) capx,args:=(firstx.toList ++ ([]:List Value)).toArray } :: ds) w1 λw2=>
 R (.returned (.int .i64 kL)) w2) (
 Calls prog 80 #[.pointer p0] w1 λe w3=>
 ∃pk:Int,∃hM:SV,∃hZ:SV,∃kO:Int,e=.returned (.tuple #[.agg #[.int .i64 pk,hM.v,hZ.v],.int .i64 kO])/\
 alE (.cells #[.int .i64 0,.slice none 0 0,.slice none 0 0] 35) w3 λr5 w4=>
 stA prog 35 (⟨r5,0,none⟩:Addr) #[.int .i64 pk,hM.v,hZ.v] w4 λw5=>
 Br (kO != 0) (
 zQb prog ({ target:=.fn (.func fx) capx,args:=(firstx.toList ++ ([]:List Value)).toArray } :: ds) w5 λw6=>
 R (.returned (.int .i64 kO)) w6) (
 ∃gH,w5.cell? ((⟨r5,0,none⟩:Addr).add 0)=some (.int .i64 gH)/\
 ∃bx:SV,w5.cell? ((⟨r5,0,none⟩:Addr).add 1)=some (bx.v)/\
 ∃c9:SV,w5.cell? ((⟨r5,0,none⟩:Addr).add 2)=some (c9.v)/\
 zQf p0 λa7=>
 stA prog 35 (a7.add 2) #[.int .i64 gH,bx.v,c9.v] w5 λw8=>
 zQb prog ({ target:=.fn (.func fx) capx,args:=(firstx.toList ++ ([]:List Value)).toArray } :: ds) w8 λw9=>
 R (.returned (.int .i64 0)) w9))
theorem F37_p:Pl prog f37 [pS 0] F37_1:=λR=>
 lf
theorem xQd (p0:Option Addr) (w:World) (R:Rt) (h:F37_1 R p0 [] w):Calls prog 37 #[.pointer p0] w R:=
 plC F37_p func37 h
def F20_1(R:Rt)(p0:Option Addr)(ds:Ds)(w:World):Prop:=
 Calls prog 55 #[.pointer p0] w λe w1=>
 ∃gM:Value,∃dg:Int,e=.returned (.tuple #[gM,.int .i64 dg])/\
 fnE gM λfx firstx capx=>
 Br (dg != 0) (
 zQb prog ({ target:=.fn (.func fx) capx,args:=(firstx.toList ++ ([]:List Value)).toArray } :: ds) w1 λw2=>
 R (.returned (.int .i64 0)) w2) (
 zQf p0 λa3=>
 ∃dT:SV,w1.cell? (a3.add 5)=some (dT.v)/\
 zQb prog ({ target:=.fn (.func fx) capx,args:=(firstx.toList ++ ([]:List Value)).toArray } :: ds) w1 λw4=>
 R (.returned (.int .i64 (dT.len:Int))) w4)
theorem F20_p:Pl prog f20 [pS 0] F20_1:=λR=>
 lf
theorem xXD (p0:Option Addr) (w:World) (R:Rt) (h:F20_1 R p0 [] w):Calls prog 20 #[.pointer p0] w R:=
 plC F20_p func20 h
def F84_1(R:Rt)(p0:Option Addr)(bp cr:Int)(bK:SV)(ds:Ds)(w:World):Prop:=
 alE (.cells #[.int .i64 bp,.int .i64 cr,bK.v] 90) w λr3 w1=>
 dwE w1 λw2=>
 ∃S1:World->Prop,S1 w2/\
 zQf p0 λa3=>
 ∃l8:SV,(∀w',S1 w'->w'.cell? (a3.add 9)=some (l8.v))/\
 ∃ij,(∀w',S1 w'->w'.cell? ((⟨r3,0,none⟩:Addr).add 0)=some (.int .i64 ij))/\
 ∃dA,(∀w',S1 w'->w'.cell? ((⟨r3,0,none⟩:Addr).add 1)=some (.int .i64 dA))/\
 ∃iZ:SV,(∀w',S1 w'->w'.cell? ((⟨r3,0,none⟩:Addr).add 2)=some (iZ.v))/\
 alE (.cells #[.int .i64 ij,.int .i64 dA,iZ.v] 90) w2 λdu w4=>
 S1 w4/\
 ∃dV:SV,∃w5,(Builtin.append_ #[87,87] 87 #[l8.v,.slice (some ⟨du,0,none⟩) 1 1]).run prog w4=.ok (dV.v) w5/\
 zQf p0 λa6=>
 st1 (a6.add 9) (dV.v) w5 λw7=>
 dwE w7 λw8=>
 zQf p0 λa9=>
 ∃dW:SV,w8.cell? (a9.add 8)=some (dW.v)/\
 ∃dK,w8.cell? ((⟨r3,0,none⟩:Addr).add 0)=some (.int .i64 dK)/\
 ∃co,w8.cell? ((⟨r3,0,none⟩:Addr).add 1)=some (.int .i64 co)/\
 ∃cR:SV,w8.cell? ((⟨r3,0,none⟩:Addr).add 2)=some (cR.v)/\
 Calls prog 49 #[dW.v,.agg #[.int .i64 dK,.int .i64 co,cR.v]] w8 λe aP=>
 ∃dX:SV,e=.returned (dX.v)/\
 zQf p0 λdI=>
 st1 (dI.add 8) (dX.v) aP λaQ=>
 zQb prog ds aQ λaJ=>
 R (.returned (.tuple #[])) aJ
theorem F84_p:Pl prog f84 [pS 0,aS 1 [.int .i64,.int .i64,.slice]] F84_1:=λR=>
 lf
theorem xQv (p0:Option Addr) (bp cr:Int) (bK:SV) (w:World) (R:Rt) (h:F84_1 R p0 bp cr bK [] w):Calls prog 84 #[.pointer p0,.agg #[.int .i64 bp,.int .i64 cr,bK.v]] w R:=
 plC F84_p func84 h
def F79_1(R:Rt)(p0:Option Addr)(ds:Ds)(w:World):Prop:=
 dwE w λw1=>
 ∃S1:World->Prop,S1 w1/\
 zQf p0 λa2=>
 ∃l8:SV,(∀w',S1 w'->w'.cell? (a2.add 6)=some (l8.v))/\
 zQf p0 λa3=>
 ∃eI:SV,(∀w',S1 w'->w'.cell? (a3.add 6)=some (eI.v))/\
 ∃a4,l8.a=some a4/\0<=(IntKind.i64.wrap ((eI.len:Int) - 1))/\(IntKind.i64.wrap ((eI.len:Int) - 1))<(l8.len:Int)/\
 ∃kj,(∀w',S1 w'->w'.cell? ((a4.add ((IntKind.i64.wrap ((eI.len:Int) - 1)).toNat * 3)).add 0)=some (.int .i64 kj))/\
 ∃ln:SV,(∀w',S1 w'->w'.cell? ((a4.add ((IntKind.i64.wrap ((eI.len:Int) - 1)).toNat * 3)).add 1)=some (ln.v))/\
 ∃lq:SV,(∀w',S1 w'->w'.cell? ((a4.add ((IntKind.i64.wrap ((eI.len:Int) - 1)).toNat * 3)).add 2)=some (lq.v))/\
 alE (.cells #[.int .i64 0,.slice none 0 0,.slice none 0 0] 35) w1 λr2 w5=>
 S1 w5/\
 stA prog 35 (⟨r2,0,none⟩:Addr) #[.int .i64 kj,ln.v,lq.v] w5 λw6=>
 dwE w6 λw7=>
 ∃eO,w7.cell? ((⟨r2,0,none⟩:Addr).add 0)=some (.int .i64 eO)/\
 ∃br:SV,w7.cell? ((⟨r2,0,none⟩:Addr).add 1)=some (br.v)/\
 ∃ck:SV,w7.cell? ((⟨r2,0,none⟩:Addr).add 2)=some (ck.v)/\
 zQf p0 λa8=>
 ∃jG,w7.cell? ((a8.add 2).add 0)=some (.int .i64 jG)/\
 ∃cg:SV,w7.cell? ((a8.add 2).add 1)=some (cg.v)/\
 ∃cT:SV,w7.cell? ((a8.add 2).add 2)=some (cT.v)/\
 Calls prog 72 #[.agg #[.int .i64 eO,br.v,ck.v],.agg #[.int .i64 jG,cg.v,cT.v]] w7 λe w9=>
 ∃km:SV,∃d8:Int,e=.returned (.tuple #[km.v,.int .i64 d8])/\
 zQf p0 λdy=>
 ∃gx:SV,w9.cell? (dy.add 5)=some (gx.v)/\
 Br (decide ((gx.len:Int) > 0)) (
 zQb prog ds w9 λaU=>
 R (.returned (.tuple #[])) aU) (
 Br ((km.len:Int) == 0) (
 zQb prog ds w9 λaQ=>
 R (.returned (.tuple #[])) aQ) (
 dwE w9 λaJ=>
 ∃S3:World->Prop,S3 aJ/\
 zQf p0 λfY=>
 ∃ke:SV,(∀w',S3 w'->w'.cell? (fY.add 8)=some (ke.v))/\
 ∃kx,ke.a=some kx/\0<=(1:Int)/\(1:Int)<(ke.len:Int)/\
 ∃mY:SV,(∀w',S3 w'->w'.cell? (kx.add ((1:Int).toNat * 1))=some (mY.v))/\
 zQf p0 λip=>
 ∃uK,(∀w',S3 w'->w'.cell? ((ip.add 2).add 0)=some (.int .i64 uK))/\
 ∃lr:SV,(∀w',S3 w'->w'.cell? ((ip.add 2).add 1)=some (lr.v))/\
 ∃ls:SV,(∀w',S3 w'->w'.cell? ((ip.add 2).add 2)=some (ls.v))/\
 Calls prog 112 #[.agg #[.int .i64 uK,lr.v,ls.v],km.v] aJ λe bH=>
 ∃xv:SV,e=.returned (xv.v)/\
 S3 bH/\
 Calls prog 111 #[.int .u8 99,xv.v] bH λe bU=>
 ∃qK:SV,e=.returned (qK.v)/\
 S3 bU/\
 Calls prog 84 #[.pointer p0,.agg #[.int .i64 1,.int .i64 (mY.len:Int),qK.v]] bU λe cM=>
 e=.returned (.tuple #[])/\
 dwE cM λbT=>
 ∃S4:World->Prop,S4 bT/\
 zQf p0 λa21=>
 ∃oF:SV,(∀w',S4 w'->w'.cell? (a21.add 6)=some (oF.v))/\
 zQf p0 λpG=>
 ∃dM,(∀w',S4 w'->w'.cell? ((pG.add 2).add 0)=some (.int .i64 dM))/\
 ∃bw:SV,(∀w',S4 w'->w'.cell? ((pG.add 2).add 1)=some (bw.v))/\
 ∃fJ:SV,(∀w',S4 w'->w'.cell? ((pG.add 2).add 2)=some (fJ.v))/\
 Calls prog 56 #[.agg #[.int .i64 dM,bw.v,fJ.v]] bT λe dU=>
 ∃uL:Int,∃lu:SV,∃lw:SV,e=.returned (.agg #[.int .i64 uL,lu.v,lw.v])/\
 S4 dU/\
 alE (.cells #[.int .i64 uL,lu.v,lw.v] 35) dU λr64 dw=>
 S4 dw/\
 ∃jF:SV,∃dH,(Builtin.append_ #[106,106] 106 #[oF.v,.slice (some ⟨r64,0,none⟩) 1 1]).run prog dw=.ok (jF.v) dH/\
 zQf p0 λql=>
 st1 (ql.add 6) (jF.v) dH λiq=>
 dwE iq λeg=>
 ∃S5:World->Prop,S5 eg/\
 zQf p0 λqQ=>
 ∃mK:SV,(∀w',S5 w'->w'.cell? (qQ.add 10)=some (mK.v))/\
 zQf p0 λow=>
 ∃kb:SV,(∀w',S5 w'->w'.cell? (ow.add 9)=some (kb.v))/\
 alE (.cells #[.int .i64 (kb.len:Int)] 3) eg λr78 gu=>
 S5 gu/\
 ∃iO:SV,∃gd,(Builtin.append_ #[52,52] 52 #[mK.v,.slice (some ⟨r78,0,none⟩) 1 1]).run prog gu=.ok (iO.v) gd/\
 zQf p0 λa33=>
 st1 (a33.add 10) (iO.v) gd λfV=>
 zQb prog ds fV λiT=>
 R (.returned (.tuple #[])) iT))
theorem F79_p:Pl prog f79 [pS 0] F79_1:=λR=>
 lf
theorem xQN (p0:Option Addr) (w:World) (R:Rt) (h:F79_1 R p0 [] w):Calls prog 79 #[.pointer p0] w R:=
 plC F79_p func79 h
def F81_1(R:Rt)(p0:Option Addr)(n1:Int)(ds:Ds)(w:World):Prop:=
 Br (decide (n1 >= 1)) (
 zQf p0 λa1=>
 ∃cA:SV,w.cell? ((a1.add 2).add 2)=some (cA.v)/\
 zQb prog ds w λw2=>
 R (.returned (.bool (decide (n1<=(cA.len:Int))))) w2) (
 zQb prog ds w λw3=>
 R (.returned (.bool false)) w3)
theorem F81_p:Pl prog f81 [pS 0,iS 1] F81_1:=λR=>
 lf
theorem yYe (p0:Option Addr) (n1:Int) (w:World) (R:Rt) (h:F81_1 R p0 n1 [] w):Calls prog 81 #[.pointer p0,.int .i64 n1] w R:=
 plC F81_p func81 h
def F77_1(R:Rt)(p0:Option Addr)(eD:Bool)(aZ:SV)(ds:Ds)(w:World):Prop:=
 alE (.cells #[.bool eD,aZ.v] 67) w λr3 w1=>
 dwE w1 λw2=>
 ∃S1:World->Prop,S1 w2/\
 zQf p0 λa3=>
 ∃n9,(∀w',S1 w'->w'.cell? (a3.add 2)=some (.int .i64 n9))/\
 zQf p0 λa4=>
 ∃bV:SV,(∀w',S1 w'->w'.cell? ((a4.add 2).add 1)=some (bV.v))/\
 ∃uM,(∀w',S1 w'->w'.cell? ((⟨r3,0,none⟩:Addr).add 0)=some (.bool uM))/\
 ∃cP:SV,(∀w',S1 w'->w'.cell? ((⟨r3,0,none⟩:Addr).add 1)=some (cP.v))/\
 alE (.cells #[.bool uM,cP.v] 67) w2 λzn w5=>
 S1 w5/\
 Calls prog 106 #[.agg #[.int .i64 n9,bV.v,.slice (some ⟨zn,0,none⟩) 1 1]] w5 λe w6=>
 ∃iC:Int,e=.returned (.int .i64 iC)/\
 zQb prog ds w6 λw7=>
 R (.returned (.int .i64 iC)) w7
theorem F77_p:Pl prog f77 [pS 0,aS 1 [.bool,.slice]] F77_1:=λR=>
 lf
theorem yYQ (p0:Option Addr) (eD:Bool) (aZ:SV) (w:World) (R:Rt) (h:F77_1 R p0 eD aZ [] w):Calls prog 77 #[.pointer p0,.agg #[.bool eD,aZ.v]] w R:=
 plC F77_p func77 h
end Go.Proofs.YtaeecpjhfmcliaaGreatDoor
/- Shallow texts of functions, printed by program, each checked by the kernel against the loaded code. No condition. -/
namespace Go.Proofs.YtaeecpjhfmcliaaGreatDoor
open Go.Sh Tryz
def F34_1(R:Rt)(p0:Option Addr)(eD:Bool)(aZ:SV)(ds:Ds)(w:World):Prop:=
 alE (.cells #[.bool eD,aZ.v] 67) w λr3 w1=>
 Calls prog 55 #[.pointer p0] w1 λe w2=>
 ∃nJ:Value,∃d7:Int,e=.returned (.tuple #[nJ,.int .i64 d7])/\
 fnE nJ λfx firstx capx=>
 Br (d7 != 0) (
 zQb prog ({ target:=.fn (.func fx) capx,args:=(firstx.toList ++ ([]:List Value)).toArray } :: ds) w2 λw3=>
 R (.returned (.tuple #[.int .i64 0,.int .i64 d7])) w3) (
 zQf p0 λa4=>
 ∃dv:SV,w2.cell? ((a4.add 2).add 2)=some (dv.v)/\
 Br (decide ((dv.len:Int) >= 300)) (
 zQb prog ({ target:=.fn (.func fx) capx,args:=(firstx.toList ++ ([]:List Value)).toArray } :: ds) w2 λw5=>
 R (.returned (.tuple #[.int .i64 0,.int .i64 3])) w5) (
 ∃nK,w2.cell? ((⟨r3,0,none⟩:Addr).add 0)=some (.bool nK)/\
 ∃bt:SV,w2.cell? ((⟨r3,0,none⟩:Addr).add 1)=some (bt.v)/\
 Calls prog 77 #[.pointer p0,.agg #[.bool nK,bt.v]] w2 λe w6=>
 ∃gi:Int,e=.returned (.int .i64 gi)/\
 Br (gi != 0) (
 zQb prog ({ target:=.fn (.func fx) capx,args:=(firstx.toList ++ ([]:List Value)).toArray } :: ds) w6 λw7=>
 R (.returned (.tuple #[.int .i64 0,.int .i64 gi])) w7) (
 dwE w6 λw8=>
 ∃S1:World->Prop,S1 w8/\
 zQf p0 λa9=>
 ∃iz:SV,(∀w',S1 w'->w'.cell? ((a9.add 2).add 2)=some (iz.v))/\
 ∃b38,(∀w',S1 w'->w'.cell? (⟨r3,0,none⟩:Addr)=some (.bool b38))/\
 ∃bG:SV,(∀w',S1 w'->w'.cell? ((⟨r3,0,none⟩:Addr).add 1)=some (bG.v))/\
 Calls prog 78 #[bG.v] w8 λe aP=>
 ∃ke:SV,e=.returned (ke.v)/\
 S1 aP/\
 alE (.cells #[.bool b38,ke.v] 67) aP λr43 aU=>
 S1 aU/\
 ∃qm:SV,∃aQ,(Builtin.append_ #[33,33] 33 #[iz.v,.slice (some ⟨r43,0,none⟩) 1 1]).run prog aU=.ok (qm.v) aQ/\
 zQf p0 λkN=>
 st1 ((kN.add 2).add 2) (qm.v) aQ λbB=>
 Calls prog 79 #[.pointer p0] bB λe bm=>
 e=.returned (.tuple #[])/\
 zQf p0 λip=>
 ∃l54:SV,bm.cell? ((ip.add 2).add 2)=some (l54.v)/\
 zQb prog ({ target:=.fn (.func fx) capx,args:=(firstx.toList ++ ([]:List Value)).toArray } :: ds) bm λbH=>
 R (.returned (.tuple #[.int .i64 (l54.len:Int),.int .i64 0])) bH)))
theorem F34_p:Pl prog f34 [pS 0,aS 1 [.bool,.slice]] F34_1:=λR=>
 lf
theorem yY0 (p0:Option Addr) (eD:Bool) (aZ:SV) (w:World) (R:Rt) (h:F34_1 R p0 eD aZ [] w):Calls prog 34 #[.pointer p0,.agg #[.bool eD,aZ.v]] w R:=
 plC F34_p func34 h
def F38_1(R:Rt)(p0:Option Addr)(n1:Int)(fZ:Bool)(bI:SV)(ds:Ds)(w:World):Prop:=
 alE (.cells #[.bool fZ,bI.v] 67) w λr5 w1=>
 Calls prog 55 #[.pointer p0] w1 λe w2=>
 ∃uN:Value,∃ed:Int,e=.returned (.tuple #[uN,.int .i64 ed])/\
 fnE uN λfx firstx capx=>
 Br (ed != 0) (
 zQb prog ({ target:=.fn (.func fx) capx,args:=(firstx.toList ++ ([]:List Value)).toArray } :: ds) w2 λw3=>
 R (.returned (.int .i64 ed)) w3) (
 Calls prog 81 #[.pointer p0,.int .i64 n1] w2 λe w4=>
 ∃uk:Bool,e=.returned (.bool uk)/\
 Br (!uk) (
 zQb prog ({ target:=.fn (.func fx) capx,args:=(firstx.toList ++ ([]:List Value)).toArray } :: ds) w4 λw5=>
 R (.returned (.int .i64 4)) w5) (
 ∃nH,w4.cell? ((⟨r5,0,none⟩:Addr).add 0)=some (.bool nH)/\
 ∃bx:SV,w4.cell? ((⟨r5,0,none⟩:Addr).add 1)=some (bx.v)/\
 Calls prog 77 #[.pointer p0,.agg #[.bool nH,bx.v]] w4 λe w6=>
 ∃cw:Int,e=.returned (.int .i64 cw)/\
 Br (cw != 0) (
 zQb prog ({ target:=.fn (.func fx) capx,args:=(firstx.toList ++ ([]:List Value)).toArray } :: ds) w6 λw7=>
 R (.returned (.int .i64 cw)) w7) (
 dwE w6 λw8=>
 ∃S1:World->Prop,S1 w8/\
 zQf p0 λa9=>
 ∃iD:SV,(∀w',S1 w'->w'.cell? ((a9.add 2).add 2)=some (iD.v))/\
 ∃uj,(∀w',S1 w'->w'.cell? (⟨r5,0,none⟩:Addr)=some (.bool uj))/\
 ∃iE:SV,(∀w',S1 w'->w'.cell? ((⟨r5,0,none⟩:Addr).add 1)=some (iE.v))/\
 Calls prog 78 #[iE.v] w8 λe aP=>
 ∃bG:SV,e=.returned (bG.v)/\
 S1 aP/\
 ∃dI,iD.a=some dI/\0<=(IntKind.i64.wrap (n1 - 1))/\(IntKind.i64.wrap (n1 - 1))<(iD.len:Int)/\
 stA prog 67 (dI.add ((IntKind.i64.wrap (n1 - 1)).toNat * 2)) #[.bool uj,bG.v] aP λaQ=>
 Calls prog 79 #[.pointer p0] aQ λe aJ=>
 e=.returned (.tuple #[])/\
 zQb prog ({ target:=.fn (.func fx) capx,args:=(firstx.toList ++ ([]:List Value)).toArray } :: ds) aJ λbB=>
 R (.returned (.int .i64 0)) bB)))
theorem F38_p:Pl prog f38 [pS 0,iS 1,aS 2 [.bool,.slice]] F38_1:=λR=>
 lf
theorem xQ0 (p0:Option Addr) (n1:Int) (fZ:Bool) (bI:SV) (w:World) (R:Rt) (h:F38_1 R p0 n1 fZ bI [] w):Calls prog 38 #[.pointer p0,.int .i64 n1,.agg #[.bool fZ,bI.v]] w R:=
 plC F38_p func38 h
def F39_1(R:Rt)(p0:Option Addr)(n1:Int)(b2:Bool)(ds:Ds)(w:World):Prop:=
 Calls prog 55 #[.pointer p0] w λe w1=>
 ∃nJ:Value,∃d7:Int,e=.returned (.tuple #[nJ,.int .i64 d7])/\
 fnE nJ λfx firstx capx=>
 Br (d7 != 0) (
 zQb prog ({ target:=.fn (.func fx) capx,args:=(firstx.toList ++ ([]:List Value)).toArray } :: ds) w1 λw2=>
 R (.returned (.int .i64 d7)) w2) (
 Calls prog 81 #[.pointer p0,.int .i64 n1] w1 λe w3=>
 ∃b20:Bool,e=.returned (.bool b20)/\
 Br (!b20) (
 zQb prog ({ target:=.fn (.func fx) capx,args:=(firstx.toList ++ ([]:List Value)).toArray } :: ds) w3 λw4=>
 R (.returned (.int .i64 4)) w4) (
 zQf p0 λa5=>
 ∃dS:SV,w3.cell? ((a5.add 2).add 2)=some (dS.v)/\
 ∃a6,dS.a=some a6/\0<=(IntKind.i64.wrap (n1 - 1))/\(IntKind.i64.wrap (n1 - 1))<(dS.len:Int)/\
 st1 (a6.add ((IntKind.i64.wrap (n1 - 1)).toNat * 2)) (.bool b2) w3 λw7=>
 Calls prog 79 #[.pointer p0] w7 λe w8=>
 e=.returned (.tuple #[])/\
 zQb prog ({ target:=.fn (.func fx) capx,args:=(firstx.toList ++ ([]:List Value)).toArray } :: ds) w8 λw9=>
 R (.returned (.int .i64 0)) w9))
theorem F39_p:Pl prog f39 [pS 0,iS 1,bS 2] F39_1:=λR=>
 lf
theorem xQD (p0:Option Addr) (n1:Int) (b2:Bool) (w:World) (R:Rt) (h:F39_1 R p0 n1 b2 [] w):Calls prog 39 #[.pointer p0,.int .i64 n1,.bool b2] w R:=
 plC F39_p func39 h
def F40_1(R:Rt)(p0:Option Addr)(n1:Int)(s2:ByteArray)(iJ gv:Int)(mL:ByteArray)(ds:Ds)(w:World):Prop:=
 alE (.cells #[.int .i64 iJ,.int .i64 gv,.string mL] 73) w λr7 w1=>
 Calls prog 55 #[.pointer p0] w1 λe w2=>
 ∃uO:Value,∃gw:Int,e=.returned (.tuple #[uO,.int .i64 gw])/\
 fnE uO λfx firstx capx=>
 Br (gw != 0) (
 zQb prog ({ target:=.fn (.func fx) capx,args:=(firstx.toList ++ ([]:List Value)).toArray } :: ds) w2 λw3=>
 R (.returned (.int .i64 gw)) w3) (
 zQf p0 λa4=>
 ∃cp:SV,w2.cell? ((a4.add 2).add 1)=some (cp.v)/\
 Calls prog 82 #[cp.v,.string s2] w2 λe w5=>
 ∃cO:Int,∃uP:Bool,e=.returned (.tuple #[.int .i64 cO,.bool uP])/\
 Br (!uP) (
 zQb prog ({ target:=.fn (.func fx) capx,args:=(firstx.toList ++ ([]:List Value)).toArray } :: ds) w5 λw6=>
 R (.returned (.int .i64 4)) w6) (
 Calls prog 81 #[.pointer p0,.int .i64 n1] w5 λe w7=>
 ∃uj:Bool,e=.returned (.bool uj)/\
 Br (!uj) (
 zQb prog ({ target:=.fn (.func fx) capx,args:=(firstx.toList ++ ([]:List Value)).toArray } :: ds) w7 λw8=>
 R (.returned (.int .i64 4)) w8) (
 dwE w7 λw9=>
 zQf p0 λdy=>
 ∃rR:SV,w9.cell? ((dy.add 2).add 1)=some (rR.v)/\
 ∃dI,rR.a=some dI/\0<=cO/\cO<(rR.len:Int)/\
 ∃uQ,w9.cell? ((dI.add (cO.toNat * 4)).add 0)=some (.string uQ)/\
 ∃uR,w9.cell? ((dI.add (cO.toNat * 4)).add 1)=some (.int .i64 uR)/\
 ∃uS,w9.cell? ((dI.add (cO.toNat * 4)).add 2)=some (.int .i64 uS)/\
 ∃uT,w9.cell? ((dI.add (cO.toNat * 4)).add 3)=some (.bool uT)/\
 zQf p0 λjj=>
 ∃kP,w9.cell? (jj.add 2)=some (.int .i64 kP)/\
 ∃jJ,w9.cell? ((⟨r7,0,none⟩:Addr).add 0)=some (.int .i64 jJ)/\
 ∃nL,w9.cell? ((⟨r7,0,none⟩:Addr).add 1)=some (.int .i64 nL)/\
 ∃uU,w9.cell? ((⟨r7,0,none⟩:Addr).add 2)=some (.string uU)/\
 Calls prog 83 #[.agg #[.string uQ,.int .i64 uR,.int .i64 uS,.bool uT],.int .i64 kP,.agg #[.int .i64 jJ,.int .i64 nL,.string uU]] w9 λe aJ=>
 ∃pm:Int,∃pn:Int,∃po:ByteArray,∃qW:Int,e=.returned (.tuple #[.agg #[.int .i64 pm,.int .i64 pn,.string po],.int .i64 qW])/\
 stA prog 73 (⟨r7,0,none⟩:Addr) #[.int .i64 pm,.int .i64 pn,.string po] aJ λbB=>
 Br (qW != 0) (
 zQb prog ({ target:=.fn (.func fx) capx,args:=(firstx.toList ++ ([]:List Value)).toArray } :: ds) bB λbm=>
 R (.returned (.int .i64 qW)) bm) (
 dwE bB λbF=>
 zQf p0 λpK=>
 ∃jF:SV,bF.cell? ((pK.add 2).add 2)=some (jF.v)/\
 ∃jk,jF.a=some jk/\0<=(IntKind.i64.wrap (n1 - 1))/\(IntKind.i64.wrap (n1 - 1))<(jF.len:Int)/\
 ∃mI:SV,bF.cell? ((jk.add ((IntKind.i64.wrap (n1 - 1)).toNat * 2)).add 1)=some (mI.v)/\
 ∃uV,bF.cell? ((⟨r7,0,none⟩:Addr).add 0)=some (.int .i64 uV)/\
 ∃uW,bF.cell? ((⟨r7,0,none⟩:Addr).add 1)=some (.int .i64 uW)/\
 ∃uX,bF.cell? ((⟨r7,0,none⟩:Addr).add 2)=some (.string uX)/\
 ∃ky,mI.a=some ky/\0<=cO/\cO<(mI.len:Int)/\
 stA prog 73 (ky.add (cO.toNat * 3)) #[.int .i64 uV,.int .i64 uW,.string uX] bF λbT=>
 Calls prog 79 #[.pointer p0] bT λe bX=>
 e=.returned (.tuple #[])/\
 zQb prog ({ target:=.fn (.func fx) capx,args:=(firstx.toList ++ ([]:List Value)).toArray } :: ds) bX λdf=>
 R (.returned (.int .i64 0)) df))))
theorem F40_p:Pl prog f40 [pS 0,iS 1,sS 2,aS 3 [.int .i64,.int .i64,.str]] F40_1:=λR=>
 lf
theorem xQs (p0:Option Addr) (n1:Int) (s2:ByteArray) (iJ gv:Int) (mL:ByteArray) (w:World) (R:Rt) (h:F40_1 R p0 n1 s2 iJ gv mL [] w):Calls prog 40 #[.pointer p0,.int .i64 n1,.string s2,.agg #[.int .i64 iJ,.int .i64 gv,.string mL]] w R:=
 plC F40_p func40 h
def F41_1(R:Rt)(ds:Ds)(w:World):Prop:=
 zQb prog ds w λw1=>
 R (.returned (.int .i64 0)) w1
def F41_2 (R:Rt) (J1:(Int)->World->Prop) (p0:Option Addr) (oD:SV) (oC ov:Int) (ds:Ds) (w:World):Prop:=
 Br (decide (ov<oC)) (
 ∃a2,oD.a=some a2/\0<=ov/\ov<(oD.len:Int)/\
 ∃jJ,w.cell? ((a2.add (ov.toNat * 3)).add 0)=some (.int .i64 jJ)/\
 ∃nL,w.cell? ((a2.add (ov.toNat * 3)).add 1)=some (.int .i64 nL)/\
 ∃fN:SV,w.cell? ((a2.add (ov.toNat * 3)).add 2)=some (fN.v)/\
 alE (.cells #[.int .i64 0,.int .i64 0,.slice none 0 0] 90) w λr6 w3=>
 stA prog 90 (⟨r6,0,none⟩:Addr) #[.int .i64 jJ,.int .i64 nL,fN.v] w3 λw4=>
 ∃uY,w4.cell? ((⟨r6,0,none⟩:Addr).add 0)=some (.int .i64 uY)/\
 ∃uZ,w4.cell? ((⟨r6,0,none⟩:Addr).add 1)=some (.int .i64 uZ)/\
 ∃lz:SV,w4.cell? ((⟨r6,0,none⟩:Addr).add 2)=some (lz.v)/\
 Calls prog 84 #[.pointer p0,.agg #[.int .i64 uY,.int .i64 uZ,lz.v]] w4 λe w5=>
 e=.returned (.tuple #[])/\
 J1 (IntKind.i64.wrap (ov+1)) w5) (
 F41_1 R ds w)
def F41_3(R:Rt)(p0:Option Addr)(oD:SV)(oC ov:Int)(ds:Ds)(w:World):Prop:=
 zQA (λ(J1:(Int)->World->Prop) (s:Int) (w:World)=>F41_2 R J1 p0 oD oC s ds w) ov w
def F41_5(R:Rt)(p0:Option Addr)(ds:Ds)(w:World):Prop:=
 Calls prog 55 #[.pointer p0] w λe w6=>
 ∃nI:Value,∃dA:Int,e=.returned (.tuple #[nI,.int .i64 dA])/\
 fnE nI λfx firstx capx=>
 Br (dA != 0) (
 zQb prog ({ target:=.fn (.func fx) capx,args:=(firstx.toList ++ ([]:List Value)).toArray } :: ds) w6 λw7=>
 R (.returned (.int .i64 dA)) w7) (
 zQf p0 λa8=>
 ∃cH:SV,w6.cell? (a8.add 5)=some (cH.v)/\
 Br (decide ((cH.len:Int) > 0)) (
 zQb prog ({ target:=.fn (.func fx) capx,args:=(firstx.toList ++ ([]:List Value)).toArray } :: ds) w6 λw9=>
 R (.returned (.int .i64 9)) w9) (
 zQf p0 λdy=>
 ∃eb:SV,w6.cell? (dy.add 8)=some (eb.v)/\
 ∃dI,eb.a=some dI/\0<=(1:Int)/\(1:Int)<(eb.len:Int)/\
 ∃cp:SV,w6.cell? (dI.add ((1:Int).toNat * 1))=some (cp.v)/\
 Br ((cp.len:Int) == 0) (
 zQb prog ({ target:=.fn (.func fx) capx,args:=(firstx.toList ++ ([]:List Value)).toArray } :: ds) w6 λaQ=>
 R (.returned (.int .i64 0)) aQ) (
 dwE w6 λaJ=>
 ∃S1:World->Prop,S1 aJ/\
 zQf p0 λfY=>
 ∃jW:SV,(∀w',S1 w'->w'.cell? (fY.add 8)=some (jW.v))/\
 ∃kx,jW.a=some kx/\0<=(1:Int)/\(1:Int)<(jW.len:Int)/\
 ∃iz:SV,(∀w',S1 w'->w'.cell? (kx.add ((1:Int).toNat * 1))=some (iz.v))/\
 zQf p0 λip=>
 ∃nB,(∀w',S1 w'->w'.cell? ((ip.add 2).add 0)=some (.int .i64 nB))/\
 ∃fG:SV,(∀w',S1 w'->w'.cell? ((ip.add 2).add 1)=some (fG.v))/\
 ∃fH:SV,(∀w',S1 w'->w'.cell? ((ip.add 2).add 2)=some (fH.v))/\
 Calls prog 85 #[.agg #[.int .i64 nB,fG.v,fH.v]] aJ λe bH=>
 ∃mZ:SV,e=.returned (mZ.v)/\
 S1 bH/\
 Calls prog 84 #[.pointer p0,.agg #[.int .i64 1,.int .i64 (iz.len:Int),mZ.v]] bH λe bU=>
 e=.returned (.tuple #[])/\
 zQf p0 λky=>
 ∃qb:SV,bU.cell? (ky.add 8)=some (qb.v)/\
 Calls prog 48 #[qb.v] bU λe bT=>
 ∃oD:SV,e=.returned (oD.v)/\
 F41_3 R p0 oD (oD.len:Int) 0 ({ target:=.fn (.func fx) capx,args:=(firstx.toList ++ ([]:List Value)).toArray } :: ds) bT)))
theorem F41_p:Pl prog f41 [pS 0] F41_5:=λR=>
 pc 11 (rest [pS 0,lS 49,iS 50,iS 51] (F41_3 R) (bk 0 (rest [] (F41_1 R) lf) (lp [iS 51] [pS 0,lS 49,iS 50,iS 51] (F41_2 R) zXI λJ1=>lf)))
theorem yYS (p0:Option Addr) (w:World) (R:Rt) (h:F41_5 R p0 [] w):Calls prog 41 #[.pointer p0] w R:=
 plC F41_p func41 h
end Go.Proofs.YtaeecpjhfmcliaaGreatDoor
