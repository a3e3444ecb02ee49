import Derived.Test.YtaeecpjhfmcliaaGreatDoorProg
import Derived.Test.YtaeecpjhfmcliaaGreatDoorShTwentyEight
/- Shallow texts of functions, printed by program, each checked by the kernel against the loaded code. No condition. -/
set_option maxRecDepth 100000
set_option linter.unusedVariables false
namespace Go.Proofs.YtaeecpjhfmcliaaGreatDoor
open Go.Sh Tryz
def F87_1(R:Rt)(l0:SV)(ds:Ds)(w:World):Prop:=
 alE (.cells #[.int .i64 0,.slice none 0 0,.slice none 0 0] 35) w λr2 w1=>
 Calls prog 124 #[l0.v] w1 λe w2=>
 ∃rI:Int,∃jc:SV,∃jd:SV,∃rH:Bool,e=.returned (.tuple #[.agg #[.int .i64 rI,jc.v,jd.v],.bool rH])/\
 alE (.cells #[.int .i64 0,.slice none 0 0,.slice none 0 0] 35) w2 λr4 w3=>
 stA prog 35 (⟨r4,0,none⟩:Addr) #[.int .i64 rI,jc.v,jd.v] w3 λw4=>
 Br (!rH) (
 stA prog 35 (⟨r2,0,none⟩:Addr) #[.int .i64 0,.slice none 0 0,.slice none 0 0] w4 λw5=>
 zQc prog ds w5 λw6=>
 ∃ag,w6.cell? ((⟨r2,0,none⟩:Addr).add 0)=some (.int .i64 ag)/\
 ∃ab:SV,w6.cell? ((⟨r2,0,none⟩:Addr).add 1)=some (ab.v)/\
 ∃ae:SV,w6.cell? ((⟨r2,0,none⟩:Addr).add 2)=some (ae.v)/\
 R (.returned (.tuple #[.agg #[.int .i64 ag,ab.v,ae.v],.int .i64 11])) w6) (
 ∃oc,w4.cell? ((⟨r4,0,none⟩:Addr).add 0)=some (.int .i64 oc)/\
 ∃cP:SV,w4.cell? ((⟨r4,0,none⟩:Addr).add 1)=some (cP.v)/\
 ∃fC:SV,w4.cell? ((⟨r4,0,none⟩:Addr).add 2)=some (fC.v)/\
 Calls prog 106 #[.agg #[.int .i64 oc,cP.v,fC.v]] w4 λe w7=>
 ∃kv:Int,e=.returned (.int .i64 kv)/\
 Br (kv != 0) (
 stA prog 35 (⟨r2,0,none⟩:Addr) #[.int .i64 0,.slice none 0 0,.slice none 0 0] w7 λw8=>
 zQc prog ds w8 λw9=>
 ∃ag,w9.cell? ((⟨r2,0,none⟩:Addr).add 0)=some (.int .i64 ag)/\
 ∃ab:SV,w9.cell? ((⟨r2,0,none⟩:Addr).add 1)=some (ab.v)/\
 ∃ae:SV,w9.cell? ((⟨r2,0,none⟩:Addr).add 2)=some (ae.v)/\
 R (.returned (.tuple #[.agg #[.int .i64 ag,ab.v,ae.v],.int .i64 11])) w9) (
 ∃dE,w7.cell? ((⟨r4,0,none⟩:Addr).add 0)=some (.int .i64 dE)/\
 ∃fD:SV,w7.cell? ((⟨r4,0,none⟩:Addr).add 1)=some (fD.v)/\
 ∃cQ:SV,w7.cell? ((⟨r4,0,none⟩:Addr).add 2)=some (cQ.v)/\
 Calls prog 123 #[.agg #[.int .i64 dE,fD.v,cQ.v]] w7 λe aN=>
 ∃dS:SV,e=.returned (dS.v)/\
 Calls prog 125 #[dS.v,l0.v] aN λe aV=>
 ∃qo:Bool,e=.returned (.bool qo)/\
 Br (!qo) (
 stA prog 35 (⟨r2,0,none⟩:Addr) #[.int .i64 0,.slice none 0 0,.slice none 0 0] aV λaO=>
 zQc prog ds aO λaI=>
 ∃ag,aI.cell? ((⟨r2,0,none⟩:Addr).add 0)=some (.int .i64 ag)/\
 ∃ab:SV,aI.cell? ((⟨r2,0,none⟩:Addr).add 1)=some (ab.v)/\
 ∃ae:SV,aI.cell? ((⟨r2,0,none⟩:Addr).add 2)=some (ae.v)/\
 R (.returned (.tuple #[.agg #[.int .i64 ag,ab.v,ae.v],.int .i64 11])) aI) (
 ∃eM,aV.cell? ((⟨r4,0,none⟩:Addr).add 0)=some (.int .i64 eM)/\
 ∃bB:SV,aV.cell? ((⟨r4,0,none⟩:Addr).add 1)=some (bB.v)/\
 ∃cR:SV,aV.cell? ((⟨r4,0,none⟩:Addr).add 2)=some (cR.v)/\
 stA prog 35 (⟨r2,0,none⟩:Addr) #[.int .i64 eM,bB.v,cR.v] aV λbt=>
 zQc prog ds bt λbr=>
 ∃ag,br.cell? ((⟨r2,0,none⟩:Addr).add 0)=some (.int .i64 ag)/\
 ∃ab:SV,br.cell? ((⟨r2,0,none⟩:Addr).add 1)=some (ab.v)/\
 ∃ae:SV,br.cell? ((⟨r2,0,none⟩:Addr).add 2)=some (ae.v)/\
 R (.returned (.tuple #[.agg #[.int .i64 ag,ab.v,ae.v],.int .i64 0])) br)))
theorem F87_p:Pl prog f87 [lS 0] F87_1:=λR=>
 lf
theorem xX3 (l0:SV) (w:World) (R:Rt) (h:F87_1 R l0 [] w):Calls prog 87 #[l0.v] w R:=
 plC F87_p func87 h
def xVa(R:Rt)(p2 p4:Option Addr)(ds:Ds)(w:World):Prop:=
 zQh p4 λa1=>
 ∃gN,w.cell? (a1.add 0)=some (.int .i64 gN)/\
 ∃cb:SV,w.cell? (a1.add 1)=some (cb.v)/\
 ∃cc:SV,w.cell? (a1.add 2)=some (cc.v)/\
 zQh p2 λa2=>
 stA prog 35 a2 #[.int .i64 gN,cb.v,cc.v] w λw3=>
 zQc prog ds w3 λw4=>
 zQh p2 λa5=>
 ∃ag,w4.cell? (a5.add 0)=some (.int .i64 ag)/\
 ∃ab:SV,w4.cell? (a5.add 1)=some (ab.v)/\
 ∃ae:SV,w4.cell? (a5.add 2)=some (ae.v)/\
 R (.returned (.tuple #[.agg #[.int .i64 ag,ab.v,ae.v],.bool true])) w4
def xW9 (R:Rt) (J1:(Int)->World->Prop) (l0:SV) (p2 p4:Option Addr) (n6 n8 yd lz:Int) (ds:Ds) (w:World):Prop:=
 Br (decide (lz<yd)) (
 dwE w λw6=>
 ∃S1:World->Prop,S1 w6/\
 zQh p4 λa7=>
 ∃tf:SV,(∀w',S1 w'->w'.cell? (a7.add 1)=some (tf.v))/\
 0<=(IntKind.i64.wrap (n6+(IntKind.i64.wrap (n8 * (IntKind.i64.wrap (lz+1))))))/\(IntKind.i64.wrap (n6+(IntKind.i64.wrap (n8 * (IntKind.i64.wrap (lz+1)))))).toNat<=l0.cap/\0<=(IntKind.i64.wrap (n6+(IntKind.i64.wrap (n8 * lz))))/\(IntKind.i64.wrap (n6+(IntKind.i64.wrap (n8 * lz)))).toNat<=(IntKind.i64.wrap (n6+(IntKind.i64.wrap (n8 * (IntKind.i64.wrap (lz+1)))))).toNat/\
 (
 Calls prog 163 #[tf.v,.slice (if l0.cap=(IntKind.i64.wrap (n6+(IntKind.i64.wrap (n8 * lz)))).toNat then l0.a else l0.a.map (λx=>x.add ((IntKind.i64.wrap (n6+(IntKind.i64.wrap (n8 * lz)))).toNat * 1))) ((IntKind.i64.wrap (n6+(IntKind.i64.wrap (n8 * (IntKind.i64.wrap (lz+1)))))).toNat - (IntKind.i64.wrap (n6+(IntKind.i64.wrap (n8 * lz)))).toNat) (l0.cap - (IntKind.i64.wrap (n6+(IntKind.i64.wrap (n8 * lz)))).toNat)] w6 λe w8=>
 ∃gO:Bool,∃ce:SV,∃kD:Bool,e=.returned (.tuple #[.agg #[.bool gO,ce.v],.bool kD])/\
 alE (.cells #[.bool false,.slice none 0 0] 67) w8 λco w9=>
 stA prog 67 (⟨co,0,none⟩:Addr) #[.bool gO,ce.v] w9 λaN=>
 Br (!kD) (
 zQh p4 λdR=>
 ∃kE,aN.cell? (dR.add 0)=some (.int .i64 kE)/\
 ∃dA:SV,aN.cell? (dR.add 1)=some (dA.v)/\
 ∃dB:SV,aN.cell? (dR.add 2)=some (dB.v)/\
 zQh p2 λkQ=>
 stA prog 35 kQ #[.int .i64 kE,dA.v,dB.v] aN λaI=>
 zQc prog ds aI λbt=>
 zQh p2 λjA=>
 ∃ag,bt.cell? (jA.add 0)=some (.int .i64 ag)/\
 ∃ab:SV,bt.cell? (jA.add 1)=some (ab.v)/\
 ∃ae:SV,bt.cell? (jA.add 2)=some (ae.v)/\
 R (.returned (.tuple #[.agg #[.int .i64 ag,ab.v,ae.v],.bool false])) bt) (
 zQh p4 λiJ=>
 ∃fE:SV,aN.cell? (iJ.add 2)=some (fE.v)/\
 ∃gP,aN.cell? ((⟨co,0,none⟩:Addr).add 0)=some (.bool gP)/\
 ∃bo:SV,aN.cell? ((⟨co,0,none⟩:Addr).add 1)=some (bo.v)/\
 alE (.cells #[.bool gP,bo.v] 67) aN λrJ bJ=>
 ∃fF:SV,∃bR,(Builtin.append_ #[33,33] 33 #[fE.v,.slice (some ⟨rJ,0,none⟩) 1 1]).run prog bJ=.ok (fF.v) bR/\
 zQh p4 λke=>
 st1 (ke.add 2) (fF.v) bR λcj=>
 J1 (IntKind.i64.wrap (lz+1)) cj))/\(
 alE (.cells #[.bool false,.slice none 0 0] 67) w6 λco cr=>
 S1 cr/\
 Calls prog 163 #[tf.v,.slice (if l0.cap=(IntKind.i64.wrap (n6+(IntKind.i64.wrap (n8 * lz)))).toNat then l0.a else l0.a.map (λx=>x.add ((IntKind.i64.wrap (n6+(IntKind.i64.wrap (n8 * lz)))).toNat * 1))) ((IntKind.i64.wrap (n6+(IntKind.i64.wrap (n8 * (IntKind.i64.wrap (lz+1)))))).toNat - (IntKind.i64.wrap (n6+(IntKind.i64.wrap (n8 * lz)))).toNat) (l0.cap - (IntKind.i64.wrap (n6+(IntKind.i64.wrap (n8 * lz)))).toNat)] cr λe dX=>
 ∃gO:Bool,∃ce:SV,∃kD:Bool,e=.returned (.tuple #[.agg #[.bool gO,ce.v],.bool kD])/\
 stA prog 67 (⟨co,0,none⟩:Addr) #[.bool gO,ce.v] dX λdQ=>
 Br (!kD) (
 zQh p4 λxi=>
 ∃kE,dQ.cell? (xi.add 0)=some (.int .i64 kE)/\
 ∃dA:SV,dQ.cell? (xi.add 1)=some (dA.v)/\
 ∃dB:SV,dQ.cell? (xi.add 2)=some (dB.v)/\
 zQh p2 λna=>
 stA prog 35 na #[.int .i64 kE,dA.v,dB.v] dQ λfm=>
 zQc prog ds fm λgS=>
 zQh p2 λa28=>
 ∃ag,gS.cell? (a28.add 0)=some (.int .i64 ag)/\
 ∃ab:SV,gS.cell? (a28.add 1)=some (ab.v)/\
 ∃ae:SV,gS.cell? (a28.add 2)=some (ae.v)/\
 R (.returned (.tuple #[.agg #[.int .i64 ag,ab.v,ae.v],.bool false])) gS) (
 zQh p4 λpN=>
 ∃fE:SV,dQ.cell? (pN.add 2)=some (fE.v)/\
 ∃gP,dQ.cell? ((⟨co,0,none⟩:Addr).add 0)=some (.bool gP)/\
 ∃bo:SV,dQ.cell? ((⟨co,0,none⟩:Addr).add 1)=some (bo.v)/\
 alE (.cells #[.bool gP,bo.v] 67) dQ λrJ gT=>
 ∃fF:SV,∃fX,(Builtin.append_ #[33,33] 33 #[fE.v,.slice (some ⟨rJ,0,none⟩) 1 1]).run prog gT=.ok (fF.v) fX/\
 zQh p4 λsL=>
 st1 (sL.add 2) (fF.v) fX λfW=>
 J1 (IntKind.i64.wrap (lz+1)) fW))) (
 xVa R p2 p4 ds w)
def xWH(R:Rt)(l0:SV)(p2 p4:Option Addr)(n6 n8 yd lz:Int)(ds:Ds)(w:World):Prop:=
 zQF (λ(J1:(Int)->World->Prop) (s:Int) (w:World)=>xW9 R J1 l0 p2 p4 n6 n8 yd s ds w) lz w
def xWB(R:Rt)(l0:SV)(p2 p4:Option Addr)(n6:Int)(ds:Ds)(w:World):Prop:=
 zQh p4 λtg=>
 ∃jV:SV,w.cell? (tg.add 1)=some (jV.v)/\
 Calls prog 141 #[jV.v] w λe iN=>
 ∃yL:Int,e=.returned (.int .i64 yL)/\
 Br (yL != 0) (
 zQh p4 λqR=>
 ∃vc,iN.cell? (qR.add 0)=some (.int .i64 vc)/\
 ∃lA:SV,iN.cell? (qR.add 1)=some (lA.v)/\
 ∃lB:SV,iN.cell? (qR.add 2)=some (lB.v)/\
 zQh p2 λa37=>
 stA prog 35 a37 #[.int .i64 vc,lA.v,lB.v] iN λkR=>
 zQc prog ds kR λkW=>
 zQh p2 λsZ=>
 ∃ag,kW.cell? (sZ.add 0)=some (.int .i64 ag)/\
 ∃ab:SV,kW.cell? (sZ.add 1)=some (ab.v)/\
 ∃ae:SV,kW.cell? (sZ.add 2)=some (ae.v)/\
 R (.returned (.tuple #[.agg #[.int .i64 ag,ab.v,ae.v],.bool false])) kW) (
 dwE iN λqw=>
 zQh p4 λta=>
 ∃nh:SV,qw.cell? (ta.add 1)=some (nh.v)/\
 0<=(6:Int)/\(6:Int).toNat<=l0.cap/\0<=(2:Int)/\(2:Int).toNat<=(6:Int).toNat/\
 Calls prog 161 #[nh.v] qw λe pC=>
 ∃th:Int,e=.returned (.int .i64 th)/\
 Calls prog 162 #[.slice (if l0.cap=(2:Int).toNat then l0.a else l0.a.map (λx=>x.add ((2:Int).toNat * 1))) ((6:Int).toNat - (2:Int).toNat) (l0.cap - (2:Int).toNat)] pC λe i9=>
 ∃n74:Int,e=.returned (.int .i64 n74)/\
 Br (decide (n74 > 300)) (
 zQh p4 λxa=>
 ∃od,i9.cell? (xa.add 0)=some (.int .i64 od)/\
 ∃fG:SV,i9.cell? (xa.add 1)=some (fG.v)/\
 ∃fH:SV,i9.cell? (xa.add 2)=some (fH.v)/\
 zQh p2 λa46=>
 stA prog 35 a46 #[.int .i64 od,fG.v,fH.v] i9 λxj=>
 zQc prog ds xj λkX=>
 zQh p2 λze=>
 ∃ag,kX.cell? (ze.add 0)=some (.int .i64 ag)/\
 ∃ab:SV,kX.cell? (ze.add 1)=some (ab.v)/\
 ∃ae:SV,kX.cell? (ze.add 2)=some (ae.v)/\
 R (.returned (.tuple #[.agg #[.int .i64 ag,ab.v,ae.v],.bool false])) kX) (
 Br ((l0.len:Int) != (IntKind.i64.wrap ((IntKind.i64.wrap (n6+(IntKind.i64.wrap (th * n74))))+1))) (
 zQh p4 λxb=>
 ∃od,i9.cell? (xb.add 0)=some (.int .i64 od)/\
 ∃fG:SV,i9.cell? (xb.add 1)=some (fG.v)/\
 ∃fH:SV,i9.cell? (xb.add 2)=some (fH.v)/\
 zQh p2 λa51=>
 stA prog 35 a51 #[.int .i64 od,fG.v,fH.v] i9 λw52=>
 zQc prog ds w52 λrq=>
 zQh p2 λzg=>
 ∃ag,rq.cell? (zg.add 0)=some (.int .i64 ag)/\
 ∃ab:SV,rq.cell? (zg.add 1)=some (ab.v)/\
 ∃ae:SV,rq.cell? (zg.add 2)=some (ae.v)/\
 R (.returned (.tuple #[.agg #[.int .i64 ag,ab.v,ae.v],.bool false])) rq) (
 xWH R l0 p2 p4 n6 th n74 0 ds i9)))
def xKo (R:Rt) (J1:(Int)->World->Prop) (l0:SV) (p2 p4:Option Addr) (n6 m8 ez:Int) (ds:Ds) (w:World):Prop:=
 Br (decide (ez<m8)) (
 dwE w λqX=>
 ∃S3:World->Prop,S3 qX/\
 zQh p4 λzh=>
 ∃ye:SV,(∀w',S3 w'->w'.cell? (zh.add 1)=some (ye.v))/\
 ∃pb:SV,∃xe,(Instr.sliceAt 22 (l0.v) (some (.int .i64 (IntKind.i64.wrap ((12:Int)+(IntKind.i64.wrap ((16:Int) * ez)))))) (some (.int .i64 (IntKind.i64.wrap ((28:Int)+(IntKind.i64.wrap ((16:Int) * ez)))))) (some (.int .i64 (IntKind.i64.wrap ((28:Int)+(IntKind.i64.wrap ((16:Int) * ez))))))).run prog qX=.ok (pb.v) xe/\
 S3 xe/\
 Calls prog 160 #[pb.v] xe λe qS=>
 ∃vd:ByteArray,∃iB:Int,∃iC:Int,∃ve:Bool,e=.returned (.agg #[.string vd,.int .i64 iB,.int .i64 iC,.bool ve])/\
 S3 qS/\
 alE (.cells #[.string vd,.int .i64 iB,.int .i64 iC,.bool ve] 129) qS λr60 nI=>
 S3 nI/\
 ∃yf:SV,∃pD,(Builtin.append_ #[32,32] 32 #[ye.v,.slice (some ⟨r60,0,none⟩) 1 1]).run prog nI=.ok (yf.v) pD/\
 zQh p4 λa61=>
 st1 (a61.add 1) (yf.v) pD λrt=>
 J1 (IntKind.i64.wrap (ez+1)) rt) (
 xWB R l0 p2 p4 n6 ds w)
def xKm(R:Rt)(l0:SV)(p2 p4:Option Addr)(n6 m8 ez:Int)(ds:Ds)(w:World):Prop:=
 zQF (λ(J1:(Int)->World->Prop) (s:Int) (w:World)=>xKo R J1 l0 p2 p4 n6 m8 s ds w) ez w
def xKg(R:Rt)(l0:SV)(ds:Ds)(w:World):Prop:=
 alE (.cells #[.int .i64 0,.slice none 0 0,.slice none 0 0] 35) w λr2 oU=>
 alE (.cells #[.int .i64 0,.slice none 0 0,.slice none 0 0] 35) oU λr4 oV=>
 Br (decide ((l0.len:Int)<14)) (
 ∃jW,oV.cell? ((⟨r4,0,none⟩:Addr).add 0)=some (.int .i64 jW)/\
 ∃cf:SV,oV.cell? ((⟨r4,0,none⟩:Addr).add 1)=some (cf.v)/\
 ∃cS:SV,oV.cell? ((⟨r4,0,none⟩:Addr).add 2)=some (cS.v)/\
 stA prog 35 (⟨r2,0,none⟩:Addr) #[.int .i64 jW,cf.v,cS.v] oV λo4=>
 zQc prog ds o4 λpE=>
 ∃ag,pE.cell? ((⟨r2,0,none⟩:Addr).add 0)=some (.int .i64 ag)/\
 ∃ab:SV,pE.cell? ((⟨r2,0,none⟩:Addr).add 1)=some (ab.v)/\
 ∃ae:SV,pE.cell? ((⟨r2,0,none⟩:Addr).add 2)=some (ae.v)/\
 R (.returned (.tuple #[.agg #[.int .i64 ag,ab.v,ae.v],.bool false])) pE) (
 ∃vg,l0.a=some vg/\0<=(0:Int)/\(0:Int)<(l0.len:Int)/\
 ∃ja,oV.cell? (vg.add ((0:Int).toNat * 1))=some (.int .u8 ja)/\
 Br (ja != 67) (
 ∃jW,oV.cell? ((⟨r4,0,none⟩:Addr).add 0)=some (.int .i64 jW)/\
 ∃cf:SV,oV.cell? ((⟨r4,0,none⟩:Addr).add 1)=some (cf.v)/\
 ∃cS:SV,oV.cell? ((⟨r4,0,none⟩:Addr).add 2)=some (cS.v)/\
 stA prog 35 (⟨r2,0,none⟩:Addr) #[.int .i64 jW,cf.v,cS.v] oV λyP=>
 zQc prog ds yP λtc=>
 ∃ag,tc.cell? ((⟨r2,0,none⟩:Addr).add 0)=some (.int .i64 ag)/\
 ∃ab:SV,tc.cell? ((⟨r2,0,none⟩:Addr).add 1)=some (ab.v)/\
 ∃ae:SV,tc.cell? ((⟨r2,0,none⟩:Addr).add 2)=some (ae.v)/\
 R (.returned (.tuple #[.agg #[.int .i64 ag,ab.v,ae.v],.bool false])) tc) (
 ∃a70,l0.a=some a70/\0<=(1:Int)/\(1:Int)<(l0.len:Int)/\
 ∃cn,oV.cell? (a70.add ((1:Int).toNat * 1))=some (.int .u8 cn)/\
 st1 (⟨r4,0,none⟩:Addr) (.int .i64 (IntKind.i64.wrap cn)) oV λqT=>
 dwE qT λyR=>
 ∃S4:World->Prop,S4 yR/\
 ∃a73,l0.a=some a73/\0<=(10:Int)/\(10:Int)<(l0.len:Int)/\
 ∃rA,(∀w',S4 w'->w'.cell? (a73.add ((10:Int).toNat * 1))=some (.int .u8 rA))/\
 ∃a74,l0.a=some a74/\0<=(10:Int)/\(10:Int)<(l0.len:Int)/\
 ∃rK,(∀w',S4 w'->w'.cell? (a74.add ((10:Int).toNat * 1))=some (.int .u8 rK))/\
 Calls prog 159 #[.int .i64 (IntKind.i64.wrap rK)] yR λe o5=>
 ∃j3:Int,e=.returned (.int .i64 j3)/\
 S4 o5/\
 Br (decide (j3 > (l0.len:Int))) (
 ∃oe,o5.cell? ((⟨r4,0,none⟩:Addr).add 0)=some (.int .i64 oe)/\
 ∃fI:SV,o5.cell? ((⟨r4,0,none⟩:Addr).add 1)=some (fI.v)/\
 ∃fJ:SV,o5.cell? ((⟨r4,0,none⟩:Addr).add 2)=some (fJ.v)/\
 stA prog 35 (⟨r2,0,none⟩:Addr) #[.int .i64 oe,fI.v,fJ.v] o5 λoY=>
 zQc prog ds oY λyg=>
 ∃ag,yg.cell? ((⟨r2,0,none⟩:Addr).add 0)=some (.int .i64 ag)/\
 ∃ab:SV,yg.cell? ((⟨r2,0,none⟩:Addr).add 1)=some (ab.v)/\
 ∃ae:SV,yg.cell? ((⟨r2,0,none⟩:Addr).add 2)=some (ae.v)/\
 R (.returned (.tuple #[.agg #[.int .i64 ag,ab.v,ae.v],.bool false])) yg) (
 xKm R l0 (some (⟨r2,0,none⟩:Addr)) (some (⟨r4,0,none⟩:Addr)) j3 (IntKind.i64.wrap rA) 0 ds o5)))
theorem F124_p:Pl prog f124 [lS 0] xKg:=λR=>
 pc 9 (rest [lS 0,pS 2,pS 4,iS 6,iS 42,iS 43] (xKm R) (bk 0 (rest [lS 0,pS 2,pS 4,iS 6] (xWB R) (pc 6 (rest [lS 0,pS 2,pS 4,iS 6,iS 8,iS 89,iS 90] (xWH R) (bk 2 (rest [pS 2,pS 4] (xVa R) lf) (lp [iS 90] [lS 0,pS 2,pS 4,iS 6,iS 8,iS 89,iS 90] (xW9 R) zXN λJ1=>lf))))) (lp [iS 43] [lS 0,pS 2,pS 4,iS 6,iS 42,iS 43] (xKo R) zXN λJ1=>lf)))
theorem yWk (l0:SV) (w:World) (R:Rt) (h:xKg R l0 [] w):Calls prog 124 #[l0.v] w R:=
 plC F124_p func124 h
def xKF(R:Rt)(p2 p3:Option Addr)(ds:Ds)(w:World):Prop:=
 zQh p3 λa1=>
 ∃vh,w.cell? (a1.add 0)=some (.string vh)/\
 ∃og,w.cell? (a1.add 1)=some (.int .i64 og)/\
 ∃vi,w.cell? (a1.add 2)=some (.int .i64 vi)/\
 ∃vj,w.cell? (a1.add 3)=some (.bool vj)/\
 zQh p2 λa2=>
 stA prog 129 a2 #[.string vh,.int .i64 og,.int .i64 vi,.bool vj] w λw3=>
 zQc prog ds w3 λw4=>
 zQh p2 λa5=>
 ∃vk,w4.cell? (a5.add 0)=some (.string vk)/\
 ∃aj,w4.cell? (a5.add 1)=some (.int .i64 aj)/\
 ∃vm,w4.cell? (a5.add 2)=some (.int .i64 vm)/\
 ∃vo,w4.cell? (a5.add 3)=some (.bool vo)/\
 R (.returned (.agg #[.string vk,.int .i64 aj,.int .i64 vm,.bool vo])) w4
def xKt (R:Rt) (J1:(Unit)->World->Prop) (l0:SV) (p2 p3 om:Option Addr) (ds:Ds) (w:World):Prop:=
 (∃w6,(Instr.next (.pointer om) false 0).run prog w=.ok (.tuple #[.bool false]) w6/\
 xKF R p2 p3 ds w6)∨(∃k21 v21:Value,∃w7,(Instr.next (.pointer om) false 0).run prog w=.ok (.tuple #[.bool true,k21,v21]) w7/\
 ∃k23 v23:Value,∃w8,(Instr.entry (.pointer om)).run prog w7=.ok (.tuple #[k23,v23]) w8/\
 yYi .i64 k23 λqu=>
 yYg v23 λq25=>
 dHd q25 λzi zj=>
 yYi .u8 zi λpI=>
 dHd zj λzk zl=>
 yYi .i64 zk λpJ=>
 dHd zl λzm zn=>
 yYi .i64 zm λzo=>
 dHd zn λzp zq=>
 dHd zq λzr zt=>
 xQF zt (
 alE (.cells #[.int .u8 0,.int .i64 0,.int .i64 0,.nilFunc,.nilFunc] 174) w8 λr5 w9=>
 stA prog 174 (⟨r5,0,none⟩:Addr) #[.int .u8 pI,.int .i64 pJ,.int .i64 zo,zp,zr] w9 λaN=>
 dwE aN λaV=>
 ∃gn,aV.cell? (⟨r5,0,none⟩:Addr)=some (.int .u8 gn)/\
 ∃kQ,l0.a=some kQ/\0<=(10:Int)/\(10:Int)<(l0.len:Int)/\
 ∃rA,aV.cell? (kQ.add ((10:Int).toNat * 1))=some (.int .u8 rA)/\
 Br (gn == rA) (
 zQh p3 λlq=>
 st1 (lq.add 1) (.int .i64 qu) aV λbt=>
 J1 () bt) (
 J1 () aV)))
def yZX(R:Rt)(l0:SV)(p2 p3 om:Option Addr)(ds:Ds)(w:World):Prop:=
 zQF (λ(J1:(Unit)->World->Prop) (_:Unit) (w:World)=>xKt R J1 l0 p2 p3 om ds w) () w
def xVz(R:Rt)(l0:SV)(ds:Ds)(w:World):Prop:=
 alE (.cells #[.string (⟨#[]⟩:ByteArray),.int .i64 0,.int .i64 0,.bool false] 129) w λr2 br=>
 dwE br λbI=>
 ∃S2:World->Prop,S2 bI/\
 0<=(10:Int)/\(10:Int).toNat<=l0.cap/\0<=(10:Int).toNat/\
 ∃rF,l0.a=some rF/\0<=(11:Int)/\(11:Int)<(l0.len:Int)/\
 ∃dy,(∀w',S2 w'->w'.cell? (rF.add ((11:Int).toNat * 1))=some (.int .u8 dy))/\
 ∃jz,l0.a=some jz/\0<=(12:Int)/\(12:Int)<(l0.len:Int)/\
 ∃n16,(∀w',S2 w'->w'.cell? (jz.add ((12:Int).toNat * 1))=some (.int .u8 n16))/\
 (
 ∃s8:ByteArray,∃cK,(convert 22 9 (.slice (if l0.cap=0 then l0.a else l0.a.map (λx=>x.add (0 * 1))) ((10:Int).toNat - 0) (l0.cap - 0))).run prog bI=.ok (.string s8) cK/\
 S2 cK/\
 (
 Calls prog 119 #[.string s8,.string (⟨#[0]⟩:ByteArray)] cK λe cj=>
 ∃s9:ByteArray,e=.returned (.string s9)/\
 S2 cj/\
 alE (.cells #[.string (⟨#[]⟩:ByteArray),.int .i64 0,.int .i64 0,.bool false] 129) cj λr3 cr=>
 S2 cr/\
 stA prog 129 (⟨r3,0,none⟩:Addr) #[.string s9,.int .i64 0,.int .i64 (IntKind.i64.wrap dy),.bool (n16 == 1)] cr λdX=>
 Calls prog 145 #[] dX λe dQ=>
 ∃rL:Option Nat,e=.returned (.map rL)/\
 ∃om:Option Addr,∃dx,(Instr.range 176 (.map rL)).run prog dQ=.ok (.pointer om) dx/\
 yZX R l0 (some (⟨r2,0,none⟩:Addr)) (some (⟨r3,0,none⟩:Addr)) om ds dx)/\(
 alE (.cells #[.string (⟨#[]⟩:ByteArray),.int .i64 0,.int .i64 0,.bool false] 129) cK λr3 gj=>
 S2 gj/\
 Calls prog 119 #[.string s8,.string (⟨#[0]⟩:ByteArray)] gj λe fm=>
 ∃s9:ByteArray,e=.returned (.string s9)/\
 S2 fm/\
 stA prog 129 (⟨r3,0,none⟩:Addr) #[.string s9,.int .i64 0,.int .i64 (IntKind.i64.wrap dy),.bool (n16 == 1)] fm λgS=>
 Calls prog 145 #[] gS λe cy=>
 ∃rL:Option Nat,e=.returned (.map rL)/\
 ∃om:Option Addr,∃gb,(Instr.range 176 (.map rL)).run prog cy=.ok (.pointer om) gb/\
 yZX R l0 (some (⟨r2,0,none⟩:Addr)) (some (⟨r3,0,none⟩:Addr)) om ds gb))/\(
 alE (.cells #[.string (⟨#[]⟩:ByteArray),.int .i64 0,.int .i64 0,.bool false] 129) bI λr3 gT=>
 S2 gT/\
 ∃s8:ByteArray,∃fX,(convert 22 9 (.slice (if l0.cap=0 then l0.a else l0.a.map (λx=>x.add (0 * 1))) ((10:Int).toNat - 0) (l0.cap - 0))).run prog gT=.ok (.string s8) fX/\
 S2 fX/\
 Calls prog 119 #[.string s8,.string (⟨#[0]⟩:ByteArray)] fX λe gz=>
 ∃s9:ByteArray,e=.returned (.string s9)/\
 S2 gz/\
 stA prog 129 (⟨r3,0,none⟩:Addr) #[.string s9,.int .i64 0,.int .i64 (IntKind.i64.wrap dy),.bool (n16 == 1)] gz λfW=>
 Calls prog 145 #[] fW λe fo=>
 ∃rL:Option Nat,e=.returned (.map rL)/\
 ∃om:Option Addr,∃iN,(Instr.range 176 (.map rL)).run prog fo=.ok (.pointer om) iN/\
 yZX R l0 (some (⟨r2,0,none⟩:Addr)) (some (⟨r3,0,none⟩:Addr)) om ds iN)
theorem F160_p:Pl prog f160 [lS 0] xVz:=λR=>
 pc 3 (rest [lS 0,pS 2,pS 3,pS 20] (yZX R) (bk 0 (rest [pS 2,pS 3] (xKF R) lf) (lp [] [lS 0,pS 2,pS 3,pS 20] (xKt R) zXN λJ1=>lf)))
theorem yWm (l0:SV) (w:World) (R:Rt) (h:xVz R l0 [] w):Calls prog 160 #[l0.v] w R:=
 plC F160_p func160 h
def xVj(R:Rt)(n3:Int)(ds:Ds)(w:World):Prop:=
 zQc prog ds w λw1=>
 R (.returned (.int .i64 n3)) w1
def xKM (R:Rt) (J1:(Int × Int)->World->Prop) (l0:SV) (n3 n4:Int) (ds:Ds) (w:World):Prop:=
 Br (decide (n4 >= 0)) (
 0<=(8:Int)/\
 ∃a2,l0.a=some a2/\0<=n4/\n4<(l0.len:Int)/\
 ∃iM,w.cell? (a2.add (n4.toNat * 1))=some (.int .u8 iM)/\
 J1 ((IntKind.i64.wrap ((BitVec.ofInt 64 (IntKind.i64.wrap (n3 * 2 ^ 8)) ||| BitVec.ofInt 64 (IntKind.i64.wrap iM)).toNat:Nat)),(IntKind.i64.wrap (n4 - 1))) w) (
 xVj R n3 ds w)
def xVm(R:Rt)(l0:SV)(n3 n4:Int)(ds:Ds)(w:World):Prop:=
 zQF (λ(J1:(Int × Int)->World->Prop) (s:Int × Int) (w:World)=>xKM R J1 l0 s.1 s.2 ds w) (n3,n4) w
def xXF(R:Rt)(l0:SV)(ds:Ds)(w:World):Prop:=
 xVm R l0 0 (IntKind.i64.wrap ((l0.len:Int) - 1)) ds w
theorem F162_p:Pl prog f162 [lS 0] xXF:=λR=>
 pc 3 (rest [lS 0,iS 3,iS 4] (xVm R) (bk 0 (rest [iS 3] (xVj R) lf) (lp [iS 3,iS 4] [lS 0,iS 3,iS 4] (xKM R) zXN λJ1=>lf)))
theorem yWW (l0:SV) (w:World) (R:Rt) (h:xXF R l0 [] w):Calls prog 162 #[l0.v] w R:=
 plC F162_p func162 h
def xWz(R:Rt)(p4 p6:Option Addr)(b9:Bool)(ds:Ds)(w:World):Prop:=
 zQh p6 λa1=>
 ∃vp,w.cell? (a1.add 0)=some (.bool vp)/\
 ∃lC:SV,w.cell? (a1.add 1)=some (lC.v)/\
 zQh p4 λa2=>
 stA prog 67 a2 #[.bool vp,lC.v] w λw3=>
 zQc prog ds w3 λw4=>
 zQh p4 λa5=>
 ∃bN,w4.cell? (a5.add 0)=some (.bool bN)/\
 ∃ab:SV,w4.cell? (a5.add 1)=some (ab.v)/\
 R (.returned (.tuple #[.agg #[.bool bN,ab.v],.bool b9])) w4
def zXa (R:Rt) (J1:(Int × Int × Bool × Int)->World->Prop) (l1:SV) (p4 p6:Option Addr) (n7 n8:Int) (b9:Bool) (bY:SV) (cn ct:Int) (ds:Ds) (w:World):Prop:=
 J1 (n7,n8,b9,(IntKind.i64.wrap (ct+1))) w
def xJQ (R:Rt) (J1:(Int × Int × Bool × Int)->World->Prop) (l1:SV) (p4 p6:Option Addr) (n7 n8:Int) (b9:Bool) (bY:SV) (cn ct:Int) (ds:Ds) (w:World):Prop:=
 ∃a6,bY.a=some a6/\0<=ct/\ct<(bY.len:Int)/\
 ∃vq,w.cell? ((a6.add (ct.toNat * 4)).add 0)=some (.string vq)/\
 ∃nV,w.cell? ((a6.add (ct.toNat * 4)).add 1)=some (.int .i64 nV)/\
 ∃vr,w.cell? ((a6.add (ct.toNat * 4)).add 2)=some (.int .i64 vr)/\
 ∃oo,w.cell? ((a6.add (ct.toNat * 4)).add 3)=some (.bool oo)/\
 alE (.cells #[.string (⟨#[]⟩:ByteArray),.int .i64 0,.int .i64 0,.bool false] 129) w λco w7=>
 stA prog 129 (⟨co,0,none⟩:Addr) #[.string vq,.int .i64 nV,.int .i64 vr,.bool oo] w7 λw8=>
 ∃rK,w8.cell? ((⟨co,0,none⟩:Addr).add 2)=some (.int .i64 rK)/\
 ∃sM,w8.cell? ((⟨co,0,none⟩:Addr).add 2)=some (.int .i64 sM)/\
 ∃bK:SV,∃w9,(Instr.sliceAt 22 (l1.v) (some (.int .i64 n7)) (some (.int .i64 (IntKind.i64.wrap (n7+rK)))) (some (.int .i64 (IntKind.i64.wrap (n7+sM))))).run prog w8=.ok (bK.v) w9/\
 ∃ez,w9.cell? ((⟨co,0,none⟩:Addr).add 2)=some (.int .i64 ez)/\
 ∃b46,w9.cell? ((⟨co,0,none⟩:Addr).add 3)=some (.bool b46)/\
 Br b46 (
 IntKind.i64=IntKind.i64/\(8:Int) ≠ 0/\
 ∃eu,l1.a=some eu/\0<=(IntKind.i64.wrap ((1:Int)+(IntKind.i64.wrap (n8.tdiv 8))))/\(IntKind.i64.wrap ((1:Int)+(IntKind.i64.wrap (n8.tdiv 8))))<(l1.len:Int)/\
 ∃tT,w9.cell? (eu.add ((IntKind.i64.wrap ((1:Int)+(IntKind.i64.wrap (n8.tdiv 8)))).toNat * 1))=some (.int .u8 tT)/\
 IntKind.i64=IntKind.i64/\(8:Int) ≠ 0/\
 0<=(n8.tmod 8)/\
 Br ((IntKind.u8.wrap ((BitVec.ofInt 8 (tT.fdiv (2 ^ (min (n8.tmod 8).toNat 8))) &&& BitVec.ofInt 8 1).toNat:Nat)) == 1) (
 zQh p6 λdR=>
 ∃jS:SV,w9.cell? (dR.add 1)=some (jS.v)/\
 alE (.cells #[.int .i64 0,.int .i64 0,.string (⟨#[]⟩:ByteArray)] 73) w9 λr64 aO=>
 ∃jV:SV,∃aI,(Builtin.append_ #[38,38] 38 #[jS.v,.slice (some ⟨r64,0,none⟩) 1 1]).run prog aO=.ok (jV.v) aI/\
 zQh p6 λga=>
 st1 (ga.add 1) (jV.v) aI λbr=>
 zXa R J1 l1 p4 p6 (IntKind.i64.wrap (n7+ez)) (IntKind.i64.wrap (n8+1)) b9 bY cn ct ds br) (
 dwE w9 λbI=>
 ∃S1:World->Prop,S1 bI/\
 ∃lD,(∀w',S1 w'->w'.cell? ((⟨co,0,none⟩:Addr).add 1)=some (.int .i64 lD))/\
 (
 Calls prog 145 #[] bI λe bJ=>
 ∃eX:Option Nat,e=.returned (.map eX)/\
 ∃S2:World->Prop,S2 bJ/\(∀u,S2 u->S1 u)/\
 ∃bG:Int,∃bH:Int,∃bO:Int,∃bP:Value,∃aU:Value,(∀w',S2 w'->(Instr.lookup 176 (.map eX) (.int .i64 lD) false).run prog w'=.ok (.agg #[.int .u8 bG,.int .i64 bH,.int .i64 bO,bP,aU]) w')/\
 (
 ∃dH:ByteArray,∃bR,(convert 22 9 (bK.v)).run prog bJ=.ok (.string dH) bR/\
 ∃S3:World->Prop,S3 bR/\(∀u,S3 u->S2 u)/\
 (
 fnE aU λf75 first75 bg=>
 zQ6 prog f75=true/\Calls prog f75 (first75.toList ++ (([.string dH]:List Value) ++ bg.toList)).toArray bR λe cK=>
 ∃am:Int,∃ao:Int,∃ap:ByteArray,∃aF:Bool,e=.returned (.tuple #[.agg #[.int .i64 am,.int .i64 ao,.string ap],.bool aF])/\
 alE (.cells #[.int .i64 0,.int .i64 0,.string (⟨#[]⟩:ByteArray)] 73) cK λaL cj=>
 stA prog 73 (⟨aL,0,none⟩:Addr) #[.int .i64 am,.int .i64 ao,.string ap] cj λcr=>
 Br b9 (
 zQh p6 λo2=>
 ∃aD:SV,cr.cell? (o2.add 1)=some (aD.v)/\
 ∃ay,cr.cell? ((⟨aL,0,none⟩:Addr).add 0)=some (.int .i64 ay)/\
 ∃az,cr.cell? ((⟨aL,0,none⟩:Addr).add 1)=some (.int .i64 az)/\
 ∃aA,cr.cell? ((⟨aL,0,none⟩:Addr).add 2)=some (.string aA)/\
 alE (.cells #[.int .i64 ay,.int .i64 az,.string aA] 73) cr λcv dQ=>
 ∃aE:SV,∃dx,(Builtin.append_ #[38,38] 38 #[aD.v,.slice (some ⟨cv,0,none⟩) 1 1]).run prog dQ=.ok (aE.v) dx/\
 zQh p6 λna=>
 st1 (na.add 1) (aE.v) dx λfm=>
 zXa R J1 l1 p4 p6 (IntKind.i64.wrap (n7+ez)) (IntKind.i64.wrap (n8+1)) aF bY cn ct ds fm) (
 zQh p6 λa27=>
 ∃aD:SV,cr.cell? (a27.add 1)=some (aD.v)/\
 ∃ay,cr.cell? ((⟨aL,0,none⟩:Addr).add 0)=some (.int .i64 ay)/\
 ∃az,cr.cell? ((⟨aL,0,none⟩:Addr).add 1)=some (.int .i64 az)/\
 ∃aA,cr.cell? ((⟨aL,0,none⟩:Addr).add 2)=some (.string aA)/\
 alE (.cells #[.int .i64 ay,.int .i64 az,.string aA] 73) cr λcv cy=>
 ∃aE:SV,∃gb,(Builtin.append_ #[38,38] 38 #[aD.v,.slice (some ⟨cv,0,none⟩) 1 1]).run prog cy=.ok (aE.v) gb/\
 zQh p6 λo3=>
 st1 (o3.add 1) (aE.v) gb λfX=>
 zXa R J1 l1 p4 p6 (IntKind.i64.wrap (n7+ez)) (IntKind.i64.wrap (n8+1)) false bY cn ct ds fX))/\(
 alE (.cells #[.int .i64 0,.int .i64 0,.string (⟨#[]⟩:ByteArray)] 73) bR λaL gz=>
 ∃S4:World->Prop,S4 gz/\(∀u,S4 u->S3 u)/\
 fnE aU λf75 first75 bg=>
 zQ6 prog f75=true/\Calls prog f75 (first75.toList ++ (([.string dH]:List Value) ++ bg.toList)).toArray gz λe fW=>
 ∃am:Int,∃ao:Int,∃ap:ByteArray,∃aF:Bool,e=.returned (.tuple #[.agg #[.int .i64 am,.int .i64 ao,.string ap],.bool aF])/\
 stA prog 73 (⟨aL,0,none⟩:Addr) #[.int .i64 am,.int .i64 ao,.string ap] fW λfo=>
 Br b9 (
 zQh p6 λsY=>
 ∃aD:SV,fo.cell? (sY.add 1)=some (aD.v)/\
 ∃ay,fo.cell? ((⟨aL,0,none⟩:Addr).add 0)=some (.int .i64 ay)/\
 ∃az,fo.cell? ((⟨aL,0,none⟩:Addr).add 1)=some (.int .i64 az)/\
 ∃aA,fo.cell? ((⟨aL,0,none⟩:Addr).add 2)=some (.string aA)/\
 alE (.cells #[.int .i64 ay,.int .i64 az,.string aA] 73) fo λcv qU=>
 ∃aE:SV,∃nc,(Builtin.append_ #[38,38] 38 #[aD.v,.slice (some ⟨cv,0,none⟩) 1 1]).run prog qU=.ok (aE.v) nc/\
 zQh p6 λa38=>
 st1 (a38.add 1) (aE.v) nc λkW=>
 zXa R J1 l1 p4 p6 (IntKind.i64.wrap (n7+ez)) (IntKind.i64.wrap (n8+1)) aF bY cn ct ds kW) (
 zQh p6 λsZ=>
 ∃aD:SV,fo.cell? (sZ.add 1)=some (aD.v)/\
 ∃ay,fo.cell? ((⟨aL,0,none⟩:Addr).add 0)=some (.int .i64 ay)/\
 ∃az,fo.cell? ((⟨aL,0,none⟩:Addr).add 1)=some (.int .i64 az)/\
 ∃aA,fo.cell? ((⟨aL,0,none⟩:Addr).add 2)=some (.string aA)/\
 alE (.cells #[.int .i64 ay,.int .i64 az,.string aA] 73) fo λcv qw=>
 ∃aE:SV,∃td,(Builtin.append_ #[38,38] 38 #[aD.v,.slice (some ⟨cv,0,none⟩) 1 1]).run prog qw=.ok (aE.v) td/\
 zQh p6 λa43=>
 st1 (a43.add 1) (aE.v) td λi9=>
 zXa R J1 l1 p4 p6 (IntKind.i64.wrap (n7+ez)) (IntKind.i64.wrap (n8+1)) false bY cn ct ds i9)))/\(
 alE (.cells #[.int .i64 0,.int .i64 0,.string (⟨#[]⟩:ByteArray)] 73) bJ λaL oZ=>
 ∃S5:World->Prop,S5 oZ/\(∀u,S5 u->S2 u)/\
 ∃dH:ByteArray,∃gm,(convert 22 9 (bK.v)).run prog oZ=.ok (.string dH) gm/\
 ∃S6:World->Prop,S6 gm/\(∀u,S6 u->S5 u)/\
 fnE aU λf75 first75 bg=>
 zQ6 prog f75=true/\Calls prog f75 (first75.toList ++ (([.string dH]:List Value) ++ bg.toList)).toArray gm λe xj=>
 ∃am:Int,∃ao:Int,∃ap:ByteArray,∃aF:Bool,e=.returned (.tuple #[.agg #[.int .i64 am,.int .i64 ao,.string ap],.bool aF])/\
 stA prog 73 (⟨aL,0,none⟩:Addr) #[.int .i64 am,.int .i64 ao,.string ap] xj λkX=>
 Br b9 (
 zQh p6 λze=>
 ∃aD:SV,kX.cell? (ze.add 1)=some (aD.v)/\
 ∃ay,kX.cell? ((⟨aL,0,none⟩:Addr).add 0)=some (.int .i64 ay)/\
 ∃az,kX.cell? ((⟨aL,0,none⟩:Addr).add 1)=some (.int .i64 az)/\
 ∃aA,kX.cell? ((⟨aL,0,none⟩:Addr).add 2)=some (.string aA)/\
 alE (.cells #[.int .i64 ay,.int .i64 az,.string aA] 73) kX λcv vt=>
 ∃aE:SV,∃w51,(Builtin.append_ #[38,38] 38 #[aD.v,.slice (some ⟨cv,0,none⟩) 1 1]).run prog vt=.ok (aE.v) w51/\
 zQh p6 λxc=>
 st1 (xc.add 1) (aE.v) w51 λrq=>
 zXa R J1 l1 p4 p6 (IntKind.i64.wrap (n7+ez)) (IntKind.i64.wrap (n8+1)) aF bY cn ct ds rq) (
 zQh p6 λzg=>
 ∃aD:SV,kX.cell? (zg.add 1)=some (aD.v)/\
 ∃ay,kX.cell? ((⟨aL,0,none⟩:Addr).add 0)=some (.int .i64 ay)/\
 ∃az,kX.cell? ((⟨aL,0,none⟩:Addr).add 1)=some (.int .i64 az)/\
 ∃aA,kX.cell? ((⟨aL,0,none⟩:Addr).add 2)=some (.string aA)/\
 alE (.cells #[.int .i64 ay,.int .i64 az,.string aA] 73) kX λcv qX=>
 ∃aE:SV,∃xd,(Builtin.append_ #[38,38] 38 #[aD.v,.slice (some ⟨cv,0,none⟩) 1 1]).run prog qX=.ok (aE.v) xd/\
 zQh p6 λa57=>
 st1 (a57.add 1) (aE.v) xd λqS=>
 zXa R J1 l1 p4 p6 (IntKind.i64.wrap (n7+ez)) (IntKind.i64.wrap (n8+1)) false bY cn ct ds qS)))/\(
 (
 ∃dH:ByteArray,∃nI,(convert 22 9 (bK.v)).run prog bI=.ok (.string dH) nI/\
 ∃S7:World->Prop,S7 nI/\(∀u,S7 u->S1 u)/\
 (
 Calls prog 145 #[] nI λe pD=>
 ∃eX:Option Nat,e=.returned (.map eX)/\
 ∃S8:World->Prop,S8 pD/\(∀u,S8 u->S7 u)/\
 ∃bG:Int,∃bH:Int,∃bO:Int,∃bP:Value,∃aU:Value,(∀w',S8 w'->(Instr.lookup 176 (.map eX) (.int .i64 lD) false).run prog w'=.ok (.agg #[.int .u8 bG,.int .i64 bH,.int .i64 bO,bP,aU]) w')/\
 (
 fnE aU λf75 first75 bg=>
 zQ6 prog f75=true/\Calls prog f75 (first75.toList ++ (([.string dH]:List Value) ++ bg.toList)).toArray pD λe qp=>
 ∃am:Int,∃ao:Int,∃ap:ByteArray,∃aF:Bool,e=.returned (.tuple #[.agg #[.int .i64 am,.int .i64 ao,.string ap],.bool aF])/\
 alE (.cells #[.int .i64 0,.int .i64 0,.string (⟨#[]⟩:ByteArray)] 73) qp λaL rt=>
 stA prog 73 (⟨aL,0,none⟩:Addr) #[.int .i64 am,.int .i64 ao,.string ap] rt λoU=>
 Br b9 (
 zQh p6 λa64=>
 ∃aD:SV,oU.cell? (a64.add 1)=some (aD.v)/\
 ∃ay,oU.cell? ((⟨aL,0,none⟩:Addr).add 0)=some (.int .i64 ay)/\
 ∃az,oU.cell? ((⟨aL,0,none⟩:Addr).add 1)=some (.int .i64 az)/\
 ∃aA,oU.cell? ((⟨aL,0,none⟩:Addr).add 2)=some (.string aA)/\
 alE (.cells #[.int .i64 ay,.int .i64 az,.string aA] 73) oU λcv o4=>
 ∃aE:SV,∃pE,(Builtin.append_ #[38,38] 38 #[aD.v,.slice (some ⟨cv,0,none⟩) 1 1]).run prog o4=.ok (aE.v) pE/\
 zQh p6 λvg=>
 st1 (vg.add 1) (aE.v) pE λyP=>
 zXa R J1 l1 p4 p6 (IntKind.i64.wrap (n7+ez)) (IntKind.i64.wrap (n8+1)) aF bY cn ct ds yP) (
 zQh p6 λa69=>
 ∃aD:SV,oU.cell? (a69.add 1)=some (aD.v)/\
 ∃ay,oU.cell? ((⟨aL,0,none⟩:Addr).add 0)=some (.int .i64 ay)/\
 ∃az,oU.cell? ((⟨aL,0,none⟩:Addr).add 1)=some (.int .i64 az)/\
 ∃aA,oU.cell? ((⟨aL,0,none⟩:Addr).add 2)=some (.string aA)/\
 alE (.cells #[.int .i64 ay,.int .i64 az,.string aA] 73) oU λcv yQ=>
 ∃aE:SV,∃qT,(Builtin.append_ #[38,38] 38 #[aD.v,.slice (some ⟨cv,0,none⟩) 1 1]).run prog yQ=.ok (aE.v) qT/\
 zQh p6 λa72=>
 st1 (a72.add 1) (aE.v) qT λt7=>
 zXa R J1 l1 p4 p6 (IntKind.i64.wrap (n7+ez)) (IntKind.i64.wrap (n8+1)) false bY cn ct ds t7))/\(
 alE (.cells #[.int .i64 0,.int .i64 0,.string (⟨#[]⟩:ByteArray)] 73) pD λaL xf=>
 ∃S9:World->Prop,S9 xf/\(∀u,S9 u->S8 u)/\
 fnE aU λf75 first75 bg=>
 zQ6 prog f75=true/\Calls prog f75 (first75.toList ++ (([.string dH]:List Value) ++ bg.toList)).toArray xf λe o5=>
 ∃am:Int,∃ao:Int,∃ap:ByteArray,∃aF:Bool,e=.returned (.tuple #[.agg #[.int .i64 am,.int .i64 ao,.string ap],.bool aF])/\
 stA prog 73 (⟨aL,0,none⟩:Addr) #[.int .i64 am,.int .i64 ao,.string ap] o5 λoY=>
 Br b9 (
 zQh p6 λa77=>
 ∃aD:SV,oY.cell? (a77.add 1)=some (aD.v)/\
 ∃ay,oY.cell? ((⟨aL,0,none⟩:Addr).add 0)=some (.int .i64 ay)/\
 ∃az,oY.cell? ((⟨aL,0,none⟩:Addr).add 1)=some (.int .i64 az)/\
 ∃aA,oY.cell? ((⟨aL,0,none⟩:Addr).add 2)=some (.string aA)/\
 alE (.cells #[.int .i64 ay,.int .i64 az,.string aA] 73) oY λcv w78=>
 ∃aE:SV,∃qY,(Builtin.append_ #[38,38] 38 #[aD.v,.slice (some ⟨cv,0,none⟩) 1 1]).run prog w78=.ok (aE.v) qY/\
 zQh p6 λa80=>
 st1 (a80.add 1) (aE.v) qY λyh=>
 zXa R J1 l1 p4 p6 (IntKind.i64.wrap (n7+ez)) (IntKind.i64.wrap (n8+1)) aF bY cn ct ds yh) (
 zQh p6 λa82=>
 ∃aD:SV,oY.cell? (a82.add 1)=some (aD.v)/\
 ∃ay,oY.cell? ((⟨aL,0,none⟩:Addr).add 0)=some (.int .i64 ay)/\
 ∃az,oY.cell? ((⟨aL,0,none⟩:Addr).add 1)=some (.int .i64 az)/\
 ∃aA,oY.cell? ((⟨aL,0,none⟩:Addr).add 2)=some (.string aA)/\
 alE (.cells #[.int .i64 ay,.int .i64 az,.string aA] 73) oY λcv yi=>
 ∃aE:SV,∃w84,(Builtin.append_ #[38,38] 38 #[aD.v,.slice (some ⟨cv,0,none⟩) 1 1]).run prog yi=.ok (aE.v) w84/\
 zQh p6 λa85=>
 st1 (a85.add 1) (aE.v) w84 λw86=>
 zXa R J1 l1 p4 p6 (IntKind.i64.wrap (n7+ez)) (IntKind.i64.wrap (n8+1)) false bY cn ct ds w86)))/\(
 alE (.cells #[.int .i64 0,.int .i64 0,.string (⟨#[]⟩:ByteArray)] 73) nI λaL zu=>
 ∃S10:World->Prop,S10 zu/\(∀u,S10 u->S7 u)/\
 Calls prog 145 #[] zu λe zv=>
 ∃eX:Option Nat,e=.returned (.map eX)/\
 ∃S11:World->Prop,S11 zv/\(∀u,S11 u->S10 u)/\
 ∃bG:Int,∃bH:Int,∃bO:Int,∃bP:Value,∃aU:Value,(∀w',S11 w'->(Instr.lookup 176 (.map eX) (.int .i64 lD) false).run prog w'=.ok (.agg #[.int .u8 bG,.int .i64 bH,.int .i64 bO,bP,aU]) w')/\
 fnE aU λf75 first75 bg=>
 zQ6 prog f75=true/\Calls prog f75 (first75.toList ++ (([.string dH]:List Value) ++ bg.toList)).toArray zv λe w89=>
 ∃am:Int,∃ao:Int,∃ap:ByteArray,∃aF:Bool,e=.returned (.tuple #[.agg #[.int .i64 am,.int .i64 ao,.string ap],.bool aF])/\
 stA prog 73 (⟨aL,0,none⟩:Addr) #[.int .i64 am,.int .i64 ao,.string ap] w89 λqZ=>
 Br b9 (
 zQh p6 λa91=>
 ∃aD:SV,qZ.cell? (a91.add 1)=some (aD.v)/\
 ∃ay,qZ.cell? ((⟨aL,0,none⟩:Addr).add 0)=some (.int .i64 ay)/\
 ∃az,qZ.cell? ((⟨aL,0,none⟩:Addr).add 1)=some (.int .i64 az)/\
 ∃aA,qZ.cell? ((⟨aL,0,none⟩:Addr).add 2)=some (.string aA)/\
 alE (.cells #[.int .i64 ay,.int .i64 az,.string aA] 73) qZ λcv w92=>
 ∃aE:SV,∃w93,(Builtin.append_ #[38,38] 38 #[aD.v,.slice (some ⟨cv,0,none⟩) 1 1]).run prog w92=.ok (aE.v) w93/\
 zQh p6 λa94=>
 st1 (a94.add 1) (aE.v) w93 λw95=>
 zXa R J1 l1 p4 p6 (IntKind.i64.wrap (n7+ez)) (IntKind.i64.wrap (n8+1)) aF bY cn ct ds w95) (
 zQh p6 λa96=>
 ∃aD:SV,qZ.cell? (a96.add 1)=some (aD.v)/\
 ∃ay,qZ.cell? ((⟨aL,0,none⟩:Addr).add 0)=some (.int .i64 ay)/\
 ∃az,qZ.cell? ((⟨aL,0,none⟩:Addr).add 1)=some (.int .i64 az)/\
 ∃aA,qZ.cell? ((⟨aL,0,none⟩:Addr).add 2)=some (.string aA)/\
 alE (.cells #[.int .i64 ay,.int .i64 az,.string aA] 73) qZ λcv w97=>
 ∃aE:SV,∃w98,(Builtin.append_ #[38,38] 38 #[aD.v,.slice (some ⟨cv,0,none⟩) 1 1]).run prog w97=.ok (aE.v) w98/\
 zQh p6 λa99=>
 st1 (a99.add 1) (aE.v) w98 λw100=>
 zXa R J1 l1 p4 p6 (IntKind.i64.wrap (n7+ez)) (IntKind.i64.wrap (n8+1)) false bY cn ct ds w100)))/\(
 alE (.cells #[.int .i64 0,.int .i64 0,.string (⟨#[]⟩:ByteArray)] 73) bI λaL pd=>
 ∃S12:World->Prop,S12 pd/\(∀u,S12 u->S1 u)/\
 (
 Calls prog 145 #[] pd λe rM=>
 ∃eX:Option Nat,e=.returned (.map eX)/\
 ∃S13:World->Prop,S13 rM/\(∀u,S13 u->S12 u)/\
 ∃bG:Int,∃bH:Int,∃bO:Int,∃bP:Value,∃aU:Value,(∀w',S13 w'->(Instr.lookup 176 (.map eX) (.int .i64 lD) false).run prog w'=.ok (.agg #[.int .u8 bG,.int .i64 bH,.int .i64 bO,bP,aU]) w')/\
 ∃dH:ByteArray,∃pe,(convert 22 9 (bK.v)).run prog rM=.ok (.string dH) pe/\
 ∃S14:World->Prop,S14 pe/\(∀u,S14 u->S13 u)/\
 fnE aU λf75 first75 bg=>
 zQ6 prog f75=true/\Calls prog f75 (first75.toList ++ (([.string dH]:List Value) ++ bg.toList)).toArray pe λe xk=>
 ∃am:Int,∃ao:Int,∃ap:ByteArray,∃aF:Bool,e=.returned (.tuple #[.agg #[.int .i64 am,.int .i64 ao,.string ap],.bool aF])/\
 stA prog 73 (⟨aL,0,none⟩:Addr) #[.int .i64 am,.int .i64 ao,.string ap] xk λj6=>
 Br b9 (
 zQh p6 λa106=>
 ∃aD:SV,j6.cell? (a106.add 1)=some (aD.v)/\
 ∃ay,j6.cell? ((⟨aL,0,none⟩:Addr).add 0)=some (.int .i64 ay)/\
 ∃az,j6.cell? ((⟨aL,0,none⟩:Addr).add 1)=some (.int .i64 az)/\
 ∃aA,j6.cell? ((⟨aL,0,none⟩:Addr).add 2)=some (.string aA)/\
 alE (.cells #[.int .i64 ay,.int .i64 az,.string aA] 73) j6 λcv w107=>
 ∃aE:SV,∃zw,(Builtin.append_ #[38,38] 38 #[aD.v,.slice (some ⟨cv,0,none⟩) 1 1]).run prog w107=.ok (aE.v) zw/\
 zQh p6 λa109=>
 st1 (a109.add 1) (aE.v) zw λw110=>
 zXa R J1 l1 p4 p6 (IntKind.i64.wrap (n7+ez)) (IntKind.i64.wrap (n8+1)) aF bY cn ct ds w110) (
 zQh p6 λa111=>
 ∃aD:SV,j6.cell? (a111.add 1)=some (aD.v)/\
 ∃ay,j6.cell? ((⟨aL,0,none⟩:Addr).add 0)=some (.int .i64 ay)/\
 ∃az,j6.cell? ((⟨aL,0,none⟩:Addr).add 1)=some (.int .i64 az)/\
 ∃aA,j6.cell? ((⟨aL,0,none⟩:Addr).add 2)=some (.string aA)/\
 alE (.cells #[.int .i64 ay,.int .i64 az,.string aA] 73) j6 λcv w112=>
 ∃aE:SV,∃zy,(Builtin.append_ #[38,38] 38 #[aD.v,.slice (some ⟨cv,0,none⟩) 1 1]).run prog w112=.ok (aE.v) zy/\
 zQh p6 λa114=>
 st1 (a114.add 1) (aE.v) zy λw115=>
 zXa R J1 l1 p4 p6 (IntKind.i64.wrap (n7+ez)) (IntKind.i64.wrap (n8+1)) false bY cn ct ds w115))/\(
 ∃dH:ByteArray,∃pf,(convert 22 9 (bK.v)).run prog pd=.ok (.string dH) pf/\
 ∃S15:World->Prop,S15 pf/\(∀u,S15 u->S12 u)/\
 Calls prog 145 #[] pf λe rN=>
 ∃eX:Option Nat,e=.returned (.map eX)/\
 ∃S16:World->Prop,S16 rN/\(∀u,S16 u->S15 u)/\
 ∃bG:Int,∃bH:Int,∃bO:Int,∃bP:Value,∃aU:Value,(∀w',S16 w'->(Instr.lookup 176 (.map eX) (.int .i64 lD) false).run prog w'=.ok (.agg #[.int .u8 bG,.int .i64 bH,.int .i64 bO,bP,aU]) w')/\
 fnE aU λf75 first75 bg=>
 zQ6 prog f75=true/\Calls prog f75 (first75.toList ++ (([.string dH]:List Value) ++ bg.toList)).toArray rN λe xm=>
 ∃am:Int,∃ao:Int,∃ap:ByteArray,∃aF:Bool,e=.returned (.tuple #[.agg #[.int .i64 am,.int .i64 ao,.string ap],.bool aF])/\
 stA prog 73 (⟨aL,0,none⟩:Addr) #[.int .i64 am,.int .i64 ao,.string ap] xm λj7=>
 Br b9 (
 zQh p6 λa120=>
 ∃aD:SV,j7.cell? (a120.add 1)=some (aD.v)/\
 ∃ay,j7.cell? ((⟨aL,0,none⟩:Addr).add 0)=some (.int .i64 ay)/\
 ∃az,j7.cell? ((⟨aL,0,none⟩:Addr).add 1)=some (.int .i64 az)/\
 ∃aA,j7.cell? ((⟨aL,0,none⟩:Addr).add 2)=some (.string aA)/\
 alE (.cells #[.int .i64 ay,.int .i64 az,.string aA] 73) j7 λcv w121=>
 ∃aE:SV,∃zA,(Builtin.append_ #[38,38] 38 #[aD.v,.slice (some ⟨cv,0,none⟩) 1 1]).run prog w121=.ok (aE.v) zA/\
 zQh p6 λa123=>
 st1 (a123.add 1) (aE.v) zA λw124=>
 zXa R J1 l1 p4 p6 (IntKind.i64.wrap (n7+ez)) (IntKind.i64.wrap (n8+1)) aF bY cn ct ds w124) (
 zQh p6 λa125=>
 ∃aD:SV,j7.cell? (a125.add 1)=some (aD.v)/\
 ∃ay,j7.cell? ((⟨aL,0,none⟩:Addr).add 0)=some (.int .i64 ay)/\
 ∃az,j7.cell? ((⟨aL,0,none⟩:Addr).add 1)=some (.int .i64 az)/\
 ∃aA,j7.cell? ((⟨aL,0,none⟩:Addr).add 2)=some (.string aA)/\
 alE (.cells #[.int .i64 ay,.int .i64 az,.string aA] 73) j7 λcv w126=>
 ∃aE:SV,∃zB,(Builtin.append_ #[38,38] 38 #[aD.v,.slice (some ⟨cv,0,none⟩) 1 1]).run prog w126=.ok (aE.v) zB/\
 zQh p6 λa128=>
 st1 (a128.add 1) (aE.v) zB λw129=>
 zXa R J1 l1 p4 p6 (IntKind.i64.wrap (n7+ez)) (IntKind.i64.wrap (n8+1)) false bY cn ct ds w129)))))) (
 dwE w9 λtj=>
 ∃S17:World->Prop,S17 tj/\
 ∃lD,(∀w',S17 w'->w'.cell? ((⟨co,0,none⟩:Addr).add 1)=some (.int .i64 lD))/\
 (
 Calls prog 145 #[] tj λe xn=>
 ∃eX:Option Nat,e=.returned (.map eX)/\
 ∃S18:World->Prop,S18 xn/\(∀u,S18 u->S17 u)/\
 ∃bG:Int,∃bH:Int,∃bO:Int,∃bP:Value,∃aU:Value,(∀w',S18 w'->(Instr.lookup 176 (.map eX) (.int .i64 lD) false).run prog w'=.ok (.agg #[.int .u8 bG,.int .i64 bH,.int .i64 bO,bP,aU]) w')/\
 (
 ∃dH:ByteArray,∃tk,(convert 22 9 (bK.v)).run prog xn=.ok (.string dH) tk/\
 ∃S19:World->Prop,S19 tk/\(∀u,S19 u->S18 u)/\
 (
 fnE aU λf75 first75 bg=>
 zQ6 prog f75=true/\Calls prog f75 (first75.toList ++ (([.string dH]:List Value) ++ bg.toList)).toArray tk λe w133=>
 ∃am:Int,∃ao:Int,∃ap:ByteArray,∃aF:Bool,e=.returned (.tuple #[.agg #[.int .i64 am,.int .i64 ao,.string ap],.bool aF])/\
 alE (.cells #[.int .i64 0,.int .i64 0,.string (⟨#[]⟩:ByteArray)] 73) w133 λaL w134=>
 stA prog 73 (⟨aL,0,none⟩:Addr) #[.int .i64 am,.int .i64 ao,.string ap] w134 λkY=>
 Br b9 (
 zQh p6 λa136=>
 ∃aD:SV,kY.cell? (a136.add 1)=some (aD.v)/\
 ∃ay,kY.cell? ((⟨aL,0,none⟩:Addr).add 0)=some (.int .i64 ay)/\
 ∃az,kY.cell? ((⟨aL,0,none⟩:Addr).add 1)=some (.int .i64 az)/\
 ∃aA,kY.cell? ((⟨aL,0,none⟩:Addr).add 2)=some (.string aA)/\
 alE (.cells #[.int .i64 ay,.int .i64 az,.string aA] 73) kY λcv w137=>
 ∃aE:SV,∃zC,(Builtin.append_ #[38,38] 38 #[aD.v,.slice (some ⟨cv,0,none⟩) 1 1]).run prog w137=.ok (aE.v) zC/\
 zQh p6 λa139=>
 st1 (a139.add 1) (aE.v) zC λw140=>
 zXa R J1 l1 p4 p6 (IntKind.i64.wrap (n7+ez)) n8 aF bY cn ct ds w140) (
 zQh p6 λa141=>
 ∃aD:SV,kY.cell? (a141.add 1)=some (aD.v)/\
 ∃ay,kY.cell? ((⟨aL,0,none⟩:Addr).add 0)=some (.int .i64 ay)/\
 ∃az,kY.cell? ((⟨aL,0,none⟩:Addr).add 1)=some (.int .i64 az)/\
 ∃aA,kY.cell? ((⟨aL,0,none⟩:Addr).add 2)=some (.string aA)/\
 alE (.cells #[.int .i64 ay,.int .i64 az,.string aA] 73) kY λcv w142=>
 ∃aE:SV,∃zD,(Builtin.append_ #[38,38] 38 #[aD.v,.slice (some ⟨cv,0,none⟩) 1 1]).run prog w142=.ok (aE.v) zD/\
 zQh p6 λa144=>
 st1 (a144.add 1) (aE.v) zD λw145=>
 zXa R J1 l1 p4 p6 (IntKind.i64.wrap (n7+ez)) n8 false bY cn ct ds w145))/\(
 alE (.cells #[.int .i64 0,.int .i64 0,.string (⟨#[]⟩:ByteArray)] 73) tk λaL zE=>
 ∃S20:World->Prop,S20 zE/\(∀u,S20 u->S19 u)/\
 fnE aU λf75 first75 bg=>
 zQ6 prog f75=true/\Calls prog f75 (first75.toList ++ (([.string dH]:List Value) ++ bg.toList)).toArray zE λe w147=>
 ∃am:Int,∃ao:Int,∃ap:ByteArray,∃aF:Bool,e=.returned (.tuple #[.agg #[.int .i64 am,.int .i64 ao,.string ap],.bool aF])/\
 stA prog 73 (⟨aL,0,none⟩:Addr) #[.int .i64 am,.int .i64 ao,.string ap] w147 λkZ=>
 Br b9 (
 zQh p6 λa149=>
 ∃aD:SV,kZ.cell? (a149.add 1)=some (aD.v)/\
 ∃ay,kZ.cell? ((⟨aL,0,none⟩:Addr).add 0)=some (.int .i64 ay)/\
 ∃az,kZ.cell? ((⟨aL,0,none⟩:Addr).add 1)=some (.int .i64 az)/\
 ∃aA,kZ.cell? ((⟨aL,0,none⟩:Addr).add 2)=some (.string aA)/\
 alE (.cells #[.int .i64 ay,.int .i64 az,.string aA] 73) kZ λcv w150=>
 ∃aE:SV,∃zF,(Builtin.append_ #[38,38] 38 #[aD.v,.slice (some ⟨cv,0,none⟩) 1 1]).run prog w150=.ok (aE.v) zF/\
 zQh p6 λa152=>
 st1 (a152.add 1) (aE.v) zF λw153=>
 zXa R J1 l1 p4 p6 (IntKind.i64.wrap (n7+ez)) n8 aF bY cn ct ds w153) (
 zQh p6 λa154=>
 ∃aD:SV,kZ.cell? (a154.add 1)=some (aD.v)/\
 ∃ay,kZ.cell? ((⟨aL,0,none⟩:Addr).add 0)=some (.int .i64 ay)/\
 ∃az,kZ.cell? ((⟨aL,0,none⟩:Addr).add 1)=some (.int .i64 az)/\
 ∃aA,kZ.cell? ((⟨aL,0,none⟩:Addr).add 2)=some (.string aA)/\
 alE (.cells #[.int .i64 ay,.int .i64 az,.string aA] 73) kZ λcv w155=>
 ∃aE:SV,∃zG,(Builtin.append_ #[38,38] 38 #[aD.v,.slice (some ⟨cv,0,none⟩) 1 1]).run prog w155=.ok (aE.v) zG/\
 zQh p6 λa157=>
 st1 (a157.add 1) (aE.v) zG λw158=>
 zXa R J1 l1 p4 p6 (IntKind.i64.wrap (n7+ez)) n8 false bY cn ct ds w158)))/\(
 alE (.cells #[.int .i64 0,.int .i64 0,.string (⟨#[]⟩:ByteArray)] 73) xn λaL zH=>
 ∃S21:World->Prop,S21 zH/\(∀u,S21 u->S18 u)/\
 ∃dH:ByteArray,∃xo,(convert 22 9 (bK.v)).run prog zH=.ok (.string dH) xo/\
 ∃S22:World->Prop,S22 xo/\(∀u,S22 u->S21 u)/\
 fnE aU λf75 first75 bg=>
 zQ6 prog f75=true/\Calls prog f75 (first75.toList ++ (([.string dH]:List Value) ++ bg.toList)).toArray xo λe w161=>
 ∃am:Int,∃ao:Int,∃ap:ByteArray,∃aF:Bool,e=.returned (.tuple #[.agg #[.int .i64 am,.int .i64 ao,.string ap],.bool aF])/\
 stA prog 73 (⟨aL,0,none⟩:Addr) #[.int .i64 am,.int .i64 ao,.string ap] w161 λk7=>
 Br b9 (
 zQh p6 λa163=>
 ∃aD:SV,k7.cell? (a163.add 1)=some (aD.v)/\
 ∃ay,k7.cell? ((⟨aL,0,none⟩:Addr).add 0)=some (.int .i64 ay)/\
 ∃az,k7.cell? ((⟨aL,0,none⟩:Addr).add 1)=some (.int .i64 az)/\
 ∃aA,k7.cell? ((⟨aL,0,none⟩:Addr).add 2)=some (.string aA)/\
 alE (.cells #[.int .i64 ay,.int .i64 az,.string aA] 73) k7 λcv w164=>
 ∃aE:SV,∃zI,(Builtin.append_ #[38,38] 38 #[aD.v,.slice (some ⟨cv,0,none⟩) 1 1]).run prog w164=.ok (aE.v) zI/\
 zQh p6 λa166=>
 st1 (a166.add 1) (aE.v) zI λw167=>
 zXa R J1 l1 p4 p6 (IntKind.i64.wrap (n7+ez)) n8 aF bY cn ct ds w167) (
 zQh p6 λa168=>
 ∃aD:SV,k7.cell? (a168.add 1)=some (aD.v)/\
 ∃ay,k7.cell? ((⟨aL,0,none⟩:Addr).add 0)=some (.int .i64 ay)/\
 ∃az,k7.cell? ((⟨aL,0,none⟩:Addr).add 1)=some (.int .i64 az)/\
 ∃aA,k7.cell? ((⟨aL,0,none⟩:Addr).add 2)=some (.string aA)/\
 alE (.cells #[.int .i64 ay,.int .i64 az,.string aA] 73) k7 λcv w169=>
 ∃aE:SV,∃zJ,(Builtin.append_ #[38,38] 38 #[aD.v,.slice (some ⟨cv,0,none⟩) 1 1]).run prog w169=.ok (aE.v) zJ/\
 zQh p6 λa171=>
 st1 (a171.add 1) (aE.v) zJ λw172=>
 zXa R J1 l1 p4 p6 (IntKind.i64.wrap (n7+ez)) n8 false bY cn ct ds w172)))/\(
 (
 ∃dH:ByteArray,∃tm,(convert 22 9 (bK.v)).run prog tj=.ok (.string dH) tm/\
 ∃S23:World->Prop,S23 tm/\(∀u,S23 u->S17 u)/\
 (
 Calls prog 145 #[] tm λe xp=>
 ∃eX:Option Nat,e=.returned (.map eX)/\
 ∃S24:World->Prop,S24 xp/\(∀u,S24 u->S23 u)/\
 ∃bG:Int,∃bH:Int,∃bO:Int,∃bP:Value,∃aU:Value,(∀w',S24 w'->(Instr.lookup 176 (.map eX) (.int .i64 lD) false).run prog w'=.ok (.agg #[.int .u8 bG,.int .i64 bH,.int .i64 bO,bP,aU]) w')/\
 (
 fnE aU λf75 first75 bg=>
 zQ6 prog f75=true/\Calls prog f75 (first75.toList ++ (([.string dH]:List Value) ++ bg.toList)).toArray xp λe w175=>
 ∃am:Int,∃ao:Int,∃ap:ByteArray,∃aF:Bool,e=.returned (.tuple #[.agg #[.int .i64 am,.int .i64 ao,.string ap],.bool aF])/\
 alE (.cells #[.int .i64 0,.int .i64 0,.string (⟨#[]⟩:ByteArray)] 73) w175 λaL w176=>
 stA prog 73 (⟨aL,0,none⟩:Addr) #[.int .i64 am,.int .i64 ao,.string ap] w176 λk8=>
 Br b9 (
 zQh p6 λa178=>
 ∃aD:SV,k8.cell? (a178.add 1)=some (aD.v)/\
 ∃ay,k8.cell? ((⟨aL,0,none⟩:Addr).add 0)=some (.int .i64 ay)/\
 ∃az,k8.cell? ((⟨aL,0,none⟩:Addr).add 1)=some (.int .i64 az)/\
 ∃aA,k8.cell? ((⟨aL,0,none⟩:Addr).add 2)=some (.string aA)/\
 alE (.cells #[.int .i64 ay,.int .i64 az,.string aA] 73) k8 λcv w179=>
 ∃aE:SV,∃zK,(Builtin.append_ #[38,38] 38 #[aD.v,.slice (some ⟨cv,0,none⟩) 1 1]).run prog w179=.ok (aE.v) zK/\
 zQh p6 λa181=>
 st1 (a181.add 1) (aE.v) zK λw182=>
 zXa R J1 l1 p4 p6 (IntKind.i64.wrap (n7+ez)) n8 aF bY cn ct ds w182) (
 zQh p6 λa183=>
 ∃aD:SV,k8.cell? (a183.add 1)=some (aD.v)/\
 ∃ay,k8.cell? ((⟨aL,0,none⟩:Addr).add 0)=some (.int .i64 ay)/\
 ∃az,k8.cell? ((⟨aL,0,none⟩:Addr).add 1)=some (.int .i64 az)/\
 ∃aA,k8.cell? ((⟨aL,0,none⟩:Addr).add 2)=some (.string aA)/\
 alE (.cells #[.int .i64 ay,.int .i64 az,.string aA] 73) k8 λcv w184=>
 ∃aE:SV,∃zL,(Builtin.append_ #[38,38] 38 #[aD.v,.slice (some ⟨cv,0,none⟩) 1 1]).run prog w184=.ok (aE.v) zL/\
 zQh p6 λa186=>
 st1 (a186.add 1) (aE.v) zL λw187=>
 zXa R J1 l1 p4 p6 (IntKind.i64.wrap (n7+ez)) n8 false bY cn ct ds w187))/\(
 alE (.cells #[.int .i64 0,.int .i64 0,.string (⟨#[]⟩:ByteArray)] 73) xp λaL zM=>
 ∃S25:World->Prop,S25 zM/\(∀u,S25 u->S24 u)/\
 fnE aU λf75 first75 bg=>
 zQ6 prog f75=true/\Calls prog f75 (first75.toList ++ (([.string dH]:List Value) ++ bg.toList)).toArray zM λe w189=>
 ∃am:Int,∃ao:Int,∃ap:ByteArray,∃aF:Bool,e=.returned (.tuple #[.agg #[.int .i64 am,.int .i64 ao,.string ap],.bool aF])/\
 stA prog 73 (⟨aL,0,none⟩:Addr) #[.int .i64 am,.int .i64 ao,.string ap] w189 λk9=>
 Br b9 (
 zQh p6 λa191=>
 ∃aD:SV,k9.cell? (a191.add 1)=some (aD.v)/\
 ∃ay,k9.cell? ((⟨aL,0,none⟩:Addr).add 0)=some (.int .i64 ay)/\
 ∃az,k9.cell? ((⟨aL,0,none⟩:Addr).add 1)=some (.int .i64 az)/\
 ∃aA,k9.cell? ((⟨aL,0,none⟩:Addr).add 2)=some (.string aA)/\
 alE (.cells #[.int .i64 ay,.int .i64 az,.string aA] 73) k9 λcv w192=>
 ∃aE:SV,∃zN,(Builtin.append_ #[38,38] 38 #[aD.v,.slice (some ⟨cv,0,none⟩) 1 1]).run prog w192=.ok (aE.v) zN/\
 zQh p6 λa194=>
 st1 (a194.add 1) (aE.v) zN λw195=>
 zXa R J1 l1 p4 p6 (IntKind.i64.wrap (n7+ez)) n8 aF bY cn ct ds w195) (
 zQh p6 λa196=>
 ∃aD:SV,k9.cell? (a196.add 1)=some (aD.v)/\
 ∃ay,k9.cell? ((⟨aL,0,none⟩:Addr).add 0)=some (.int .i64 ay)/\
 ∃az,k9.cell? ((⟨aL,0,none⟩:Addr).add 1)=some (.int .i64 az)/\
 ∃aA,k9.cell? ((⟨aL,0,none⟩:Addr).add 2)=some (.string aA)/\
 alE (.cells #[.int .i64 ay,.int .i64 az,.string aA] 73) k9 λcv w197=>
 ∃aE:SV,∃zO,(Builtin.append_ #[38,38] 38 #[aD.v,.slice (some ⟨cv,0,none⟩) 1 1]).run prog w197=.ok (aE.v) zO/\
 zQh p6 λa199=>
 st1 (a199.add 1) (aE.v) zO λw200=>
 zXa R J1 l1 p4 p6 (IntKind.i64.wrap (n7+ez)) n8 false bY cn ct ds w200)))/\(
 alE (.cells #[.int .i64 0,.int .i64 0,.string (⟨#[]⟩:ByteArray)] 73) tm λaL zP=>
 ∃S26:World->Prop,S26 zP/\(∀u,S26 u->S23 u)/\
 Calls prog 145 #[] zP λe zQ=>
 ∃eX:Option Nat,e=.returned (.map eX)/\
 ∃S27:World->Prop,S27 zQ/\(∀u,S27 u->S26 u)/\
 ∃bG:Int,∃bH:Int,∃bO:Int,∃bP:Value,∃aU:Value,(∀w',S27 w'->(Instr.lookup 176 (.map eX) (.int .i64 lD) false).run prog w'=.ok (.agg #[.int .u8 bG,.int .i64 bH,.int .i64 bO,bP,aU]) w')/\
 fnE aU λf75 first75 bg=>
 zQ6 prog f75=true/\Calls prog f75 (first75.toList ++ (([.string dH]:List Value) ++ bg.toList)).toArray zQ λe w203=>
 ∃am:Int,∃ao:Int,∃ap:ByteArray,∃aF:Bool,e=.returned (.tuple #[.agg #[.int .i64 am,.int .i64 ao,.string ap],.bool aF])/\
 stA prog 73 (⟨aL,0,none⟩:Addr) #[.int .i64 am,.int .i64 ao,.string ap] w203 λlc=>
 Br b9 (
 zQh p6 λa205=>
 ∃aD:SV,lc.cell? (a205.add 1)=some (aD.v)/\
 ∃ay,lc.cell? ((⟨aL,0,none⟩:Addr).add 0)=some (.int .i64 ay)/\
 ∃az,lc.cell? ((⟨aL,0,none⟩:Addr).add 1)=some (.int .i64 az)/\
 ∃aA,lc.cell? ((⟨aL,0,none⟩:Addr).add 2)=some (.string aA)/\
 alE (.cells #[.int .i64 ay,.int .i64 az,.string aA] 73) lc λcv w206=>
 ∃aE:SV,∃zR,(Builtin.append_ #[38,38] 38 #[aD.v,.slice (some ⟨cv,0,none⟩) 1 1]).run prog w206=.ok (aE.v) zR/\
 zQh p6 λa208=>
 st1 (a208.add 1) (aE.v) zR λw209=>
 zXa R J1 l1 p4 p6 (IntKind.i64.wrap (n7+ez)) n8 aF bY cn ct ds w209) (
 zQh p6 λa210=>
 ∃aD:SV,lc.cell? (a210.add 1)=some (aD.v)/\
 ∃ay,lc.cell? ((⟨aL,0,none⟩:Addr).add 0)=some (.int .i64 ay)/\
 ∃az,lc.cell? ((⟨aL,0,none⟩:Addr).add 1)=some (.int .i64 az)/\
 ∃aA,lc.cell? ((⟨aL,0,none⟩:Addr).add 2)=some (.string aA)/\
 alE (.cells #[.int .i64 ay,.int .i64 az,.string aA] 73) lc λcv w211=>
 ∃aE:SV,∃zS,(Builtin.append_ #[38,38] 38 #[aD.v,.slice (some ⟨cv,0,none⟩) 1 1]).run prog w211=.ok (aE.v) zS/\
 zQh p6 λa213=>
 st1 (a213.add 1) (aE.v) zS λw214=>
 zXa R J1 l1 p4 p6 (IntKind.i64.wrap (n7+ez)) n8 false bY cn ct ds w214)))/\(
 alE (.cells #[.int .i64 0,.int .i64 0,.string (⟨#[]⟩:ByteArray)] 73) tj λaL xq=>
 ∃S28:World->Prop,S28 xq/\(∀u,S28 u->S17 u)/\
 (
 Calls prog 145 #[] xq λe zT=>
 ∃eX:Option Nat,e=.returned (.map eX)/\
 ∃S29:World->Prop,S29 zT/\(∀u,S29 u->S28 u)/\
 ∃bG:Int,∃bH:Int,∃bO:Int,∃bP:Value,∃aU:Value,(∀w',S29 w'->(Instr.lookup 176 (.map eX) (.int .i64 lD) false).run prog w'=.ok (.agg #[.int .u8 bG,.int .i64 bH,.int .i64 bO,bP,aU]) w')/\
 ∃dH:ByteArray,∃xr,(convert 22 9 (bK.v)).run prog zT=.ok (.string dH) xr/\
 ∃S30:World->Prop,S30 xr/\(∀u,S30 u->S29 u)/\
 fnE aU λf75 first75 bg=>
 zQ6 prog f75=true/\Calls prog f75 (first75.toList ++ (([.string dH]:List Value) ++ bg.toList)).toArray xr λe w218=>
 ∃am:Int,∃ao:Int,∃ap:ByteArray,∃aF:Bool,e=.returned (.tuple #[.agg #[.int .i64 am,.int .i64 ao,.string ap],.bool aF])/\
 stA prog 73 (⟨aL,0,none⟩:Addr) #[.int .i64 am,.int .i64 ao,.string ap] w218 λlg=>
 Br b9 (
 zQh p6 λa220=>
 ∃aD:SV,lg.cell? (a220.add 1)=some (aD.v)/\
 ∃ay,lg.cell? ((⟨aL,0,none⟩:Addr).add 0)=some (.int .i64 ay)/\
 ∃az,lg.cell? ((⟨aL,0,none⟩:Addr).add 1)=some (.int .i64 az)/\
 ∃aA,lg.cell? ((⟨aL,0,none⟩:Addr).add 2)=some (.string aA)/\
 alE (.cells #[.int .i64 ay,.int .i64 az,.string aA] 73) lg λcv w221=>
 ∃aE:SV,∃zU,(Builtin.append_ #[38,38] 38 #[aD.v,.slice (some ⟨cv,0,none⟩) 1 1]).run prog w221=.ok (aE.v) zU/\
 zQh p6 λa223=>
 st1 (a223.add 1) (aE.v) zU λw224=>
 zXa R J1 l1 p4 p6 (IntKind.i64.wrap (n7+ez)) n8 aF bY cn ct ds w224) (
 zQh p6 λa225=>
 ∃aD:SV,lg.cell? (a225.add 1)=some (aD.v)/\
 ∃ay,lg.cell? ((⟨aL,0,none⟩:Addr).add 0)=some (.int .i64 ay)/\
 ∃az,lg.cell? ((⟨aL,0,none⟩:Addr).add 1)=some (.int .i64 az)/\
 ∃aA,lg.cell? ((⟨aL,0,none⟩:Addr).add 2)=some (.string aA)/\
 alE (.cells #[.int .i64 ay,.int .i64 az,.string aA] 73) lg λcv w226=>
 ∃aE:SV,∃zV,(Builtin.append_ #[38,38] 38 #[aD.v,.slice (some ⟨cv,0,none⟩) 1 1]).run prog w226=.ok (aE.v) zV/\
 zQh p6 λa228=>
 st1 (a228.add 1) (aE.v) zV λw229=>
 zXa R J1 l1 p4 p6 (IntKind.i64.wrap (n7+ez)) n8 false bY cn ct ds w229))/\(
 ∃dH:ByteArray,∃xt,(convert 22 9 (bK.v)).run prog xq=.ok (.string dH) xt/\
 ∃S31:World->Prop,S31 xt/\(∀u,S31 u->S28 u)/\
 Calls prog 145 #[] xt λe zW=>
 ∃eX:Option Nat,e=.returned (.map eX)/\
 ∃S32:World->Prop,S32 zW/\(∀u,S32 u->S31 u)/\
 ∃bG:Int,∃bH:Int,∃bO:Int,∃bP:Value,∃aU:Value,(∀w',S32 w'->(Instr.lookup 176 (.map eX) (.int .i64 lD) false).run prog w'=.ok (.agg #[.int .u8 bG,.int .i64 bH,.int .i64 bO,bP,aU]) w')/\
 fnE aU λf75 first75 bg=>
 zQ6 prog f75=true/\Calls prog f75 (first75.toList ++ (([.string dH]:List Value) ++ bg.toList)).toArray zW λe w232=>
 ∃am:Int,∃ao:Int,∃ap:ByteArray,∃aF:Bool,e=.returned (.tuple #[.agg #[.int .i64 am,.int .i64 ao,.string ap],.bool aF])/\
 stA prog 73 (⟨aL,0,none⟩:Addr) #[.int .i64 am,.int .i64 ao,.string ap] w232 λli=>
 Br b9 (
 zQh p6 λa234=>
 ∃aD:SV,li.cell? (a234.add 1)=some (aD.v)/\
 ∃ay,li.cell? ((⟨aL,0,none⟩:Addr).add 0)=some (.int .i64 ay)/\
 ∃az,li.cell? ((⟨aL,0,none⟩:Addr).add 1)=some (.int .i64 az)/\
 ∃aA,li.cell? ((⟨aL,0,none⟩:Addr).add 2)=some (.string aA)/\
 alE (.cells #[.int .i64 ay,.int .i64 az,.string aA] 73) li λcv w235=>
 ∃aE:SV,∃zX,(Builtin.append_ #[38,38] 38 #[aD.v,.slice (some ⟨cv,0,none⟩) 1 1]).run prog w235=.ok (aE.v) zX/\
 zQh p6 λa237=>
 st1 (a237.add 1) (aE.v) zX λw238=>
 zXa R J1 l1 p4 p6 (IntKind.i64.wrap (n7+ez)) n8 aF bY cn ct ds w238) (
 zQh p6 λa239=>
 ∃aD:SV,li.cell? (a239.add 1)=some (aD.v)/\
 ∃ay,li.cell? ((⟨aL,0,none⟩:Addr).add 0)=some (.int .i64 ay)/\
 ∃az,li.cell? ((⟨aL,0,none⟩:Addr).add 1)=some (.int .i64 az)/\
 ∃aA,li.cell? ((⟨aL,0,none⟩:Addr).add 2)=some (.string aA)/\
 alE (.cells #[.int .i64 ay,.int .i64 az,.string aA] 73) li λcv w240=>
 ∃aE:SV,∃zY,(Builtin.append_ #[38,38] 38 #[aD.v,.slice (some ⟨cv,0,none⟩) 1 1]).run prog w240=.ok (aE.v) zY/\
 zQh p6 λa242=>
 st1 (a242.add 1) (aE.v) zY λw243=>
 zXa R J1 l1 p4 p6 (IntKind.i64.wrap (n7+ez)) n8 false bY cn ct ds w243)))))
def xVu (R:Rt) (J1:(Int × Int × Bool × Int)->World->Prop) (l1:SV) (p4 p6:Option Addr) (n7 n8:Int) (b9:Bool) (bY:SV) (cn ct:Int) (ds:Ds) (w:World):Prop:=
 Br (decide (ct<cn)) (
 xJQ R J1 l1 p4 p6 n7 n8 b9 bY cn ct ds w) (
 xWz R p4 p6 b9 ds w)
def xKY(R:Rt)(l1:SV)(p4 p6:Option Addr)(n7 n8:Int)(b9:Bool)(bY:SV)(cn ct:Int)(ds:Ds)(w:World):Prop:=
 zQF (λ(J1:(Int × Int × Bool × Int)->World->Prop) (s:Int × Int × Bool × Int) (w:World)=>xVu R J1 l1 p4 p6 s.1 s.2.1 s.2.2.1 bY cn s.2.2.2 ds w) (n7,n8,b9,ct) w
def xVX(R:Rt)(l0 l1:SV)(ds:Ds)(w:World):Prop:=
 alE (.cells #[.bool false,.slice none 0 0] 67) w λr4 zZ=>
 ∃z7,l1.a=some z7/\0<=(0:Int)/\(0:Int)<(l1.len:Int)/\
 ∃iI,zZ.cell? (z7.add ((0:Int).toNat * 1))=some (.int .u8 iI)/\
 alE (.cells #[.bool false,.slice none 0 0] 67) zZ λr6 w246=>
 stA prog 67 (⟨r6,0,none⟩:Addr) #[.bool (iI == 42),.slice none 0 0] w246 λw247=>
 Calls prog 203 #[l0.v] w247 λe w248=>
 ∃df:Int,e=.returned (.int .i64 df)/\
 xKY R l1 (some (⟨r4,0,none⟩:Addr)) (some (⟨r6,0,none⟩:Addr)) (IntKind.i64.wrap ((1:Int)+df)) 0 true l0 (l0.len:Int) 0 ds w248
theorem F163_p:Pl prog f163 [lS 0,lS 1] xVX:=λR=>
 pc 4 (rest [lS 1,pS 4,pS 6,iS 7,iS 8,bS 9,lS 24,iS 25,iS 26] (xKY R) (bk 0 (rest [pS 4,pS 6,bS 9] (xWz R) lf) (lp [iS 7,iS 8,bS 9,iS 26] [lS 1,pS 4,pS 6,iS 7,iS 8,bS 9,lS 24,iS 25,iS 26] (xVu R) zXN λJ1=>pc 2 (rest [lS 1,pS 4,pS 6,iS 7,iS 8,bS 9,lS 24,iS 25,iS 26] (xJQ R J1) (pc 1 (rest [lS 1,pS 4,pS 6,iS 7,iS 8,bS 9,lS 24,iS 25,iS 26] (zXa R J1) lf))))))
theorem yWN (l0 l1:SV) (w:World) (R:Rt) (h:xVX R l0 l1 [] w):Calls prog 163 #[l0.v,l1.v] w R:=
 plC F163_p func163 h
def xWY(R:Rt)(l0 l1:SV)(ds:Ds)(w:World):Prop:=
 ∃s6:ByteArray,∃w1,(convert 22 9 (l0.v)).run prog w=.ok (.string s6) w1/\
 ∃s8:ByteArray,∃w2,(convert 22 9 (l1.v)).run prog w1=.ok (.string s8) w2/\
 zQc prog ds w2 λw3=>
 R (.returned (.bool (s6.toList == s8.toList))) w3
theorem F125_p:Pl prog f125 [lS 0,lS 1] xWY:=λR=>
 lf
theorem yVw (l0 l1:SV) (w:World) (R:Rt) (h:xWY R l0 l1 [] w):Calls prog 125 #[l0.v,l1.v] w R:=
 plC F125_p func125 h
end Go.Proofs.YtaeecpjhfmcliaaGreatDoor
/- Shallow texts of functions, printed by program, each checked by the kernel against the loaded code. No condition. -/
namespace Go.Proofs.YtaeecpjhfmcliaaGreatDoor
open Go.Sh Tryz
def F56_1(R:Rt)(p1 p2:Option Addr)(ds:Ds)(w:World):Prop:=
 zQh p1 λa1=>
 ∃dI,w.cell? (a1.add 0)=some (.int .i64 dI)/\
 ∃bi:SV,w.cell? (a1.add 1)=some (bi.v)/\
 ∃bj:SV,w.cell? (a1.add 2)=some (bj.v)/\
 zQh p2 λa2=>
 stA prog 35 a2 #[.int .i64 dI,bi.v,bj.v] w λw3=>
 zQc prog ds w3 λw4=>
 zQh p2 λa5=>
 ∃ag,w4.cell? (a5.add 0)=some (.int .i64 ag)/\
 ∃ab:SV,w4.cell? (a5.add 1)=some (ab.v)/\
 ∃ae:SV,w4.cell? (a5.add 2)=some (ae.v)/\
 R (.returned (.agg #[.int .i64 ag,ab.v,ae.v])) w4
def F56_2 (R:Rt) (J1:(Int)->World->Prop) (p1 p2:Option Addr) (aW:SV) (kv n16:Int) (ds:Ds) (w:World):Prop:=
 Br (decide (n16<kv)) (
 ∃a6,aW.a=some a6/\0<=n16/\n16<(aW.len:Int)/\
 ∃oq,w.cell? ((a6.add (n16.toNat * 2)).add 0)=some (.bool oq)/\
 ∃fK:SV,w.cell? ((a6.add (n16.toNat * 2)).add 1)=some (fK.v)/\
 alE (.cells #[.bool false,.slice none 0 0] 67) w λr4 w7=>
 stA prog 67 (⟨r4,0,none⟩:Addr) #[.bool oq,fK.v] w7 λw8=>
 dwE w8 λw9=>
 ∃S1:World->Prop,S1 w9/\
 zQh p1 λeu=>
 ∃dv:SV,(∀w',S1 w'->w'.cell? (eu.add 2)=some (dv.v))/\
 ∃dZ:SV,(∀w',S1 w'->w'.cell? ((⟨r4,0,none⟩:Addr).add 1)=some (dZ.v))/\
 Calls prog 78 #[dZ.v] w9 λe aV=>
 ∃dP:SV,e=.returned (dP.v)/\
 S1 aV/\
 ∃kQ,dv.a=some kQ/\0<=n16/\n16<(dv.len:Int)/\
 st1 ((kQ.add (n16.toNat * 2)).add 1) (dP.v) aV λaI=>
 J1 (IntKind.i64.wrap (n16+1)) aI) (
 F56_1 R p1 p2 ds w)
def F56_3(R:Rt)(p1 p2:Option Addr)(aW:SV)(kv n16:Int)(ds:Ds)(w:World):Prop:=
 zQF (λ(J1:(Int)->World->Prop) (s:Int) (w:World)=>F56_2 R J1 p1 p2 aW kv s ds w) n16 w
def F56_5(R:Rt)(aw:Int)(ah ai:SV)(ds:Ds)(w:World):Prop:=
 alE (.cells #[.int .i64 aw,ah.v,ai.v] 35) w λr1 bt=>
 alE (.cells #[.int .i64 0,.slice none 0 0,.slice none 0 0] 35) bt λr2 br=>
 ∃l6:SV,br.cell? ((⟨r1,0,none⟩:Addr).add 1)=some (l6.v)/\
 Calls prog 97 #[l6.v] br λe bI=>
 ∃l7:SV,e=.returned (l7.v)/\
 st1 ((⟨r1,0,none⟩:Addr).add 1) (l7.v) bI λbJ=>
 ∃cL:SV,bJ.cell? ((⟨r1,0,none⟩:Addr).add 2)=some (cL.v)/\
 Calls prog 98 #[cL.v] bJ λe bR=>
 ∃bW:SV,e=.returned (bW.v)/\
 st1 ((⟨r1,0,none⟩:Addr).add 2) (bW.v) bR λcK=>
 ∃aW:SV,cK.cell? ((⟨r1,0,none⟩:Addr).add 2)=some (aW.v)/\
 F56_3 R (some (⟨r1,0,none⟩:Addr)) (some (⟨r2,0,none⟩:Addr)) aW (aW.len:Int) 0 ds cK
theorem F56_p:Pl prog f56 [aS 0 [.int .i64,.slice,.slice]] F56_5:=λR=>
 pc 4 (rest [pS 1,pS 2,lS 14,iS 15,iS 16] (F56_3 R) (bk 0 (rest [pS 1,pS 2] (F56_1 R) lf) (lp [iS 16] [pS 1,pS 2,lS 14,iS 15,iS 16] (F56_2 R) zXN λJ1=>lf)))
theorem xXU (aw:Int) (ah ai:SV) (w:World) (R:Rt) (h:F56_5 R aw ah ai [] w):Calls prog 56 #[.agg #[.int .i64 aw,ah.v,ai.v]] w R:=
 plC F56_p func56 h
def F97_1(R:Rt)(l0:SV)(ds:Ds)(w:World):Prop:=
 ∃b4:Bool,∃w1,(eqS .eql 32 (.tmp 3) (.const (.slice none 0 0)) (l0.v) (.slice none 0 0)).run prog w=.ok (.bool b4) w1/\
 Br b4 (
 zQc prog ds w1 λw2=>
 R (.returned (.slice none 0 0)) w2) (
 alE (.cells #[] 129) w1 λr5 w3=>
 ∃l7:SV,∃w4,(Builtin.append_ #[32,32] 32 #[.slice (some ⟨r5,0,none⟩) 0 0,l0.v]).run prog w3=.ok (l7.v) w4/\
 zQc prog ds w4 λw5=>
 R (.returned (l7.v)) w5)
theorem F97_p:Pl prog f97 [lS 0] F97_1:=λR=>
 lf
theorem xXi (l0:SV) (w:World) (R:Rt) (h:F97_1 R l0 [] w):Calls prog 97 #[l0.v] w R:=
 plC F97_p func97 h
def F98_1(R:Rt)(l0:SV)(ds:Ds)(w:World):Prop:=
 ∃b4:Bool,∃w1,(eqS .eql 33 (.tmp 3) (.const (.slice none 0 0)) (l0.v) (.slice none 0 0)).run prog w=.ok (.bool b4) w1/\
 Br b4 (
 zQc prog ds w1 λw2=>
 R (.returned (.slice none 0 0)) w2) (
 alE (.cells #[] 67) w1 λr5 w3=>
 ∃l7:SV,∃w4,(Builtin.append_ #[33,33] 33 #[.slice (some ⟨r5,0,none⟩) 0 0,l0.v]).run prog w3=.ok (l7.v) w4/\
 zQc prog ds w4 λw5=>
 R (.returned (l7.v)) w5)
theorem F98_p:Pl prog f98 [lS 0] F98_1:=λR=>
 lf
theorem xQP (l0:SV) (w:World) (R:Rt) (h:F98_1 R l0 [] w):Calls prog 98 #[l0.v] w R:=
 plC F98_p func98 h
def F78_1(R:Rt)(l0:SV)(ds:Ds)(w:World):Prop:=
 ∃b4:Bool,∃w1,(eqS .eql 38 (.tmp 3) (.const (.slice none 0 0)) (l0.v) (.slice none 0 0)).run prog w=.ok (.bool b4) w1/\
 Br b4 (
 zQc prog ds w1 λw2=>
 R (.returned (.slice none 0 0)) w2) (
 alE (.cells #[] 73) w1 λr5 w3=>
 ∃l7:SV,∃w4,(Builtin.append_ #[38,38] 38 #[.slice (some ⟨r5,0,none⟩) 0 0,l0.v]).run prog w3=.ok (l7.v) w4/\
 zQc prog ds w4 λw5=>
 R (.returned (l7.v)) w5)
theorem F78_p:Pl prog f78 [lS 0] F78_1:=λR=>
 lf
theorem xZj (l0:SV) (w:World) (R:Rt) (h:F78_1 R l0 [] w):Calls prog 78 #[l0.v] w R:=
 plC F78_p func78 h
end Go.Proofs.YtaeecpjhfmcliaaGreatDoor
/- Shallow texts of functions, printed by program, each checked by the kernel against the loaded code. No condition. -/
namespace Go.Proofs.YtaeecpjhfmcliaaGreatDoor
open Go.Sh Tryz
def F76_1(R:Rt)(aw aJ:Int)(ai l1:SV)(n2:Int)(ds:Ds)(w:World):Prop:=
 alE (.cells #[.int .i64 aw,.int .i64 aJ,ai.v] 90) w λr3 w1=>
 Calls prog 109 #[l1.v] w1 λe w2=>
 ∃cL:SV,e=.returned (cL.v)/\
 Br (decide (n2<=0)) (
 zQc prog ds w2 λw3=>
 R (.returned (cL.v)) w3) (
 dwE w2 λw4=>
 ∃S1:World->Prop,S1 w4/\
 ∃n16,(∀w',S1 w'->w'.cell? (⟨r3,0,none⟩:Addr)=some (.int .i64 n16))/\
 ∃a5,cL.a=some a5/\0<=n16/\n16<(cL.len:Int)/\
 ∃dr:SV,(∀w',S1 w'->w'.cell? (a5.add (n16.toNat * 1))=some (dr.v))/\
 ∃kj,(∀w',S1 w'->w'.cell? ((⟨r3,0,none⟩:Addr).add 1)=some (.int .i64 kj))/\
 ∃i5,(∀w',S1 w'->w'.cell? (⟨r3,0,none⟩:Addr)=some (.int .i64 i5))/\
 ∃a6,cL.a=some a6/\0<=i5/\i5<(cL.len:Int)/\
 ∃dZ:SV,(∀w',S1 w'->w'.cell? (a6.add (i5.toNat * 1))=some (dZ.v))/\
 ∃gn:Int,∃w7,(Builtin.min_ #[3,3] 3 #[.int .i64 kj,.int .i64 (dZ.len:Int)]).run prog w4=.ok (.int .i64 gn) w7/\
 S1 w7/\
 0<=gn/\gn.toNat<=dr.cap/\0<=gn.toNat/\
 Calls prog 110 #[.slice (if dr.cap=0 then dr.a else dr.a.map (λx=>x.add (0 * 1))) (gn.toNat - 0) (dr.cap - 0)] w7 λe w8=>
 ∃i6:SV,e=.returned (i6.v)/\
 ∃gD:SV,w8.cell? ((⟨r3,0,none⟩:Addr).add 2)=some (gD.v)/\
 Br (decide ((gD.len:Int) > 0)) (
 ∃iF:SV,w8.cell? ((⟨r3,0,none⟩:Addr).add 2)=some (iF.v)/\
 ∃gk:SV,w8.cell? ((⟨r3,0,none⟩:Addr).add 2)=some (gk.v)/\
 ∃ln:Int,∃w9,(Builtin.min_ #[3,3] 3 #[.int .i64 n2,.int .i64 (gk.len:Int)]).run prog w8=.ok (.int .i64 ln) w9/\
 0<=ln/\ln.toNat<=iF.cap/\0<=ln.toNat/\
 ∃nE:SV,∃aN,(Builtin.append_ #[22,22] 22 #[i6.v,.slice (if iF.cap=0 then iF.a else iF.a.map (λx=>x.add (0 * 1))) (ln.toNat - 0) (iF.cap - 0)]).run prog w9=.ok (nE.v) aN/\
 ∃kN,aN.cell? (⟨r3,0,none⟩:Addr)=some (.int .i64 kN)/\
 ∃dR,cL.a=some dR/\0<=kN/\kN<(cL.len:Int)/\
 st1 (dR.add (kN.toNat * 1)) (nE.v) aN λaO=>
 zQc prog ds aO λaI=>
 R (.returned (cL.v)) aI) (
 ∃kN,w8.cell? (⟨r3,0,none⟩:Addr)=some (.int .i64 kN)/\
 ∃ga,cL.a=some ga/\0<=kN/\kN<(cL.len:Int)/\
 st1 (ga.add (kN.toNat * 1)) (i6.v) w8 λbr=>
 zQc prog ds br λbI=>
 R (.returned (cL.v)) bI))
theorem F76_p:Pl prog f76 [aS 0 [.int .i64,.int .i64,.slice],lS 1,iS 2] F76_1:=λR=>
 lf
theorem yY2 (aw aJ:Int) (ai l1:SV) (n2:Int) (w:World) (R:Rt) (h:F76_1 R aw aJ ai l1 n2 [] w):Calls prog 76 #[.agg #[.int .i64 aw,.int .i64 aJ,ai.v],l1.v,.int .i64 n2] w R:=
 plC F76_p func76 h
def F90_1(R:Rt)(aw aJ:Int)(ai:SV)(ds:Ds)(w:World):Prop:=
 alE (.cells #[.int .i64 aw,.int .i64 aJ,ai.v] 90) w λr1 w1=>
 ∃l4:SV,w1.cell? ((⟨r1,0,none⟩:Addr).add 2)=some (l4.v)/\
 zQc prog ds w1 λw2=>
 R (.returned (.int .i64 (IntKind.i64.wrap ((l4.len:Int)+1)))) w2
theorem F90_p:Pl prog f90 [aS 0 [.int .i64,.int .i64,.slice]] F90_1:=λR=>
 lf
theorem xQv (aw aJ:Int) (ai:SV) (w:World) (R:Rt) (h:F90_1 R aw aJ ai [] w):Calls prog 90 #[.agg #[.int .i64 aw,.int .i64 aJ,ai.v]] w R:=
 plC F90_p func90 h
def xWy(R:Rt)(l0:SV)(ds:Ds)(w:World):Prop:=
 ∃b4:Bool,∃w1,(eqS .eql 82 (.tmp 3) (.const (.slice none 0 0)) (l0.v) (.slice none 0 0)).run prog w=.ok (.bool b4) w1/\
 Br b4 (
 zQc prog ds w1 λw2=>
 R (.returned (.slice none 0 0)) w2) (
 alE (.cells #[] 22) w1 λr5 w3=>
 ∃l7:SV,∃w4,(Builtin.append_ #[82,82] 82 #[.slice (some ⟨r5,0,none⟩) 0 0,l0.v]).run prog w3=.ok (l7.v) w4/\
 zQc prog ds w4 λw5=>
 R (.returned (l7.v)) w5)
theorem F109_p:Pl prog f109 [lS 0] xWy:=λR=>
 lf
theorem yWs (l0:SV) (w:World) (R:Rt) (h:xWy R l0 [] w):Calls prog 109 #[l0.v] w R:=
 plC F109_p func109 h
def xK6(R:Rt)(l0:SV)(ds:Ds)(w:World):Prop:=
 ∃b4:Bool,∃w1,(eqS .eql 22 (.tmp 3) (.const (.slice none 0 0)) (l0.v) (.slice none 0 0)).run prog w=.ok (.bool b4) w1/\
 Br b4 (
 zQc prog ds w1 λw2=>
 R (.returned (.slice none 0 0)) w2) (
 alE (.cells #[] 5) w1 λr5 w3=>
 ∃l7:SV,∃w4,(Builtin.append_ #[22,22] 22 #[.slice (some ⟨r5,0,none⟩) 0 0,l0.v]).run prog w3=.ok (l7.v) w4/\
 zQc prog ds w4 λw5=>
 R (.returned (l7.v)) w5)
theorem F110_p:Pl prog f110 [lS 0] xK6:=λR=>
 lf
theorem yWp (l0:SV) (w:World) (R:Rt) (h:xK6 R l0 [] w):Calls prog 110 #[l0.v] w R:=
 plC F110_p func110 h
end Go.Proofs.YtaeecpjhfmcliaaGreatDoor
/- Shallow texts of functions, printed by program, each checked by the kernel against the loaded code. No condition. -/
namespace Go.Proofs.YtaeecpjhfmcliaaGreatDoor
open Go.Sh Tryz
def xJD(R:Rt)(n3:Int)(ds:Ds)(w:World):Prop:=
 zQc prog ds w λw1=>
 R (.returned (.int .i64 n3)) w1
def xK8 (R:Rt) (J1:(Int × Int)->World->Prop) (n3:Int) (l6:SV) (n7 n8:Int) (ds:Ds) (w:World):Prop:=
 Br (decide (n8<n7)) (
 ∃a2,l6.a=some a2/\0<=n8/\n8<(l6.len:Int)/\
 ∃dy,w.cell? (a2.add (n8.toNat * 1))=some (.int .u8 dy)/\
 0<=(IntKind.i64.wrap ((8:Int) * n8))/\
 J1 ((IntKind.i64.wrap ((BitVec.ofInt 64 n3 ||| BitVec.ofInt 64 (IntKind.i64.wrap ((IntKind.i64.wrap dy) * 2 ^ (min (IntKind.i64.wrap ((8:Int) * n8)).toNat 64)))).toNat:Nat)),(IntKind.i64.wrap (n8+1))) w) (
 xJD R n3 ds w)
def xK7(R:Rt)(n3:Int)(l6:SV)(n7 n8:Int)(ds:Ds)(w:World):Prop:=
 zQF (λ(J1:(Int × Int)->World->Prop) (s:Int × Int) (w:World)=>xK8 R J1 s.1 l6 n7 s.2 ds w) (n3,n8) w
def xV8(R:Rt)(l0:SV)(ds:Ds)(w:World):Prop:=
 xK7 R 0 l0 (l0.len:Int) 0 ds w
theorem F126_p:Pl prog f126 [lS 0] xV8:=λR=>
 pc 3 (rest [iS 3,lS 6,iS 7,iS 8] (xK7 R) (bk 0 (rest [iS 3] (xJD R) lf) (lp [iS 3,iS 8] [iS 3,lS 6,iS 7,iS 8] (xK8 R) zXN λJ1=>lf)))
theorem yVo (l0:SV) (w:World) (R:Rt) (h:xV8 R l0 [] w):Calls prog 126 #[l0.v] w R:=
 plC F126_p func126 h
def xVI(R:Rt)(n3:Int)(ds:Ds)(w:World):Prop:=
 zQc prog ds w λw1=>
 R (.returned (.int .i64 (IntKind.i64.wrap n3))) w1
def xYe (R:Rt) (J1:(Int × Int)->World->Prop) (n3:Int) (l6:SV) (n7 n8:Int) (ds:Ds) (w:World):Prop:=
 Br (decide (n8<n7)) (
 ∃a2,l6.a=some a2/\0<=n8/\n8<(l6.len:Int)/\
 ∃dC,w.cell? (a2.add (n8.toNat * 1))=some (.int .u8 dC)/\
 J1 ((IntKind.u32.wrap ((BitVec.ofInt 32 (IntKind.u32.wrap (n3 * 16777619)) ^^^ BitVec.ofInt 32 (IntKind.u32.wrap dC)).toNat:Nat)),(IntKind.i64.wrap (n8+1))) w) (
 xVI R n3 ds w)
def xV4(R:Rt)(n3:Int)(l6:SV)(n7 n8:Int)(ds:Ds)(w:World):Prop:=
 zQF (λ(J1:(Int × Int)->World->Prop) (s:Int × Int) (w:World)=>xYe R J1 s.1 l6 n7 s.2 ds w) (n3,n8) w
def xVe(R:Rt)(l0:SV)(ds:Ds)(w:World):Prop:=
 xV4 R 7 l0 (l0.len:Int) 0 ds w
theorem F127_p:Pl prog f127 [lS 0] xVe:=λR=>
 pc 3 (rest [kS .u32 3,lS 6,iS 7,iS 8] (xV4 R) (bk 0 (rest [kS .u32 3] (xVI R) lf) (lp [kS .u32 3,iS 8] [kS .u32 3,lS 6,iS 7,iS 8] (xYe R) zXN λJ1=>lf)))
theorem yWY (l0:SV) (w:World) (R:Rt) (h:xVe R l0 [] w):Calls prog 127 #[l0.v] w R:=
 plC F127_p func127 h
def xJU(R:Rt)(l5:SV)(ds:Ds)(w:World):Prop:=
 zQc prog ds w λw1=>
 R (.returned (l5.v)) w1
def xWl (R:Rt) (J1:(Int)->World->Prop) (n0:Int) (l5:SV) (jb dC:Int) (ds:Ds) (w:World):Prop:=
 Br (decide (dC<jb)) (
 0<=(IntKind.i64.wrap ((8:Int) * dC))/\
 ∃a2,l5.a=some a2/\0<=dC/\dC<(l5.len:Int)/\
 st1 (a2.add (dC.toNat * 1)) (.int .u8 (IntKind.u8.wrap (n0.fdiv (2 ^ (min (IntKind.i64.wrap ((8:Int) * dC)).toNat 64))))) w λw3=>
 J1 (IntKind.i64.wrap (dC+1)) w3) (
 xJU R l5 ds w)
def xWM(R:Rt)(n0:Int)(l5:SV)(jb dC:Int)(ds:Ds)(w:World):Prop:=
 zQF (λ(J1:(Int)->World->Prop) (s:Int) (w:World)=>xWl R J1 n0 l5 jb s ds w) dC w
def xWn(R:Rt)(n0 n1:Int)(ds:Ds)(w:World):Prop:=
 ∃l8:SV,∃w4,(Instr.makeSlice 22 (.int .i64 n1) (.int .i64 n1)).run prog w=.ok (l8.v) w4/\
 xWM R n0 l8 (l8.len:Int) 0 ds w4
theorem F143_p:Pl prog f143 [iS 0,iS 1] xWn:=λR=>
 pc 3 (rest [iS 0,lS 5,iS 10,iS 11] (xWM R) (bk 0 (rest [lS 5] (xJU R) lf) (lp [iS 11] [iS 0,lS 5,iS 10,iS 11] (xWl R) zXN λJ1=>lf)))
theorem yWA (n0 n1:Int) (w:World) (R:Rt) (h:xWn R n0 n1 [] w):Calls prog 143 #[.int .i64 n0,.int .i64 n1] w R:=
 plC F143_p func143 h
def F88_1(R:Rt)(l0:SV)(ds:Ds)(w:World):Prop:=
 Br (decide ((l0.len:Int)<9)) (
 zQc prog ds w λw1=>
 R (.returned (.tuple #[.int .u8 0,.slice none 0 0,.slice none 0 0,.bool false])) w1) (
 0<=(5:Int)/\(5:Int).toNat<=l0.cap/\0<=(1:Int)/\(1:Int).toNat<=(5:Int).toNat/\
 Calls prog 126 #[.slice (if l0.cap=(1:Int).toNat then l0.a else l0.a.map (λx=>x.add ((1:Int).toNat * 1))) ((5:Int).toNat - (1:Int).toNat) (l0.cap - (1:Int).toNat)] w λe w2=>
 ∃dy:Int,e=.returned (.int .i64 dy)/\
 dwE w2 λw3=>
 Br (decide (dy > (IntKind.i64.wrap ((IntKind.i64.wrap ((l0.len:Int) - 5)) - 4)))) (
 zQc prog ds w3 λw4=>
 R (.returned (.tuple #[.int .u8 0,.slice none 0 0,.slice none 0 0,.bool false])) w4) (
 0<=(IntKind.i64.wrap ((IntKind.i64.wrap ((5:Int)+dy))+4))/\(IntKind.i64.wrap ((IntKind.i64.wrap ((5:Int)+dy))+4)).toNat<=l0.cap/\0<=(IntKind.i64.wrap ((5:Int)+dy))/\(IntKind.i64.wrap ((5:Int)+dy)).toNat<=(IntKind.i64.wrap ((IntKind.i64.wrap ((5:Int)+dy))+4)).toNat/\
 0<=(IntKind.i64.wrap ((5:Int)+dy))/\(IntKind.i64.wrap ((5:Int)+dy)).toNat<=l0.cap/\0<=(IntKind.i64.wrap ((5:Int)+dy)).toNat/\
 Calls prog 126 #[.slice (if l0.cap=(IntKind.i64.wrap ((5:Int)+dy)).toNat then l0.a else l0.a.map (λx=>x.add ((IntKind.i64.wrap ((5:Int)+dy)).toNat * 1))) ((IntKind.i64.wrap ((IntKind.i64.wrap ((5:Int)+dy))+4)).toNat - (IntKind.i64.wrap ((5:Int)+dy)).toNat) (l0.cap - (IntKind.i64.wrap ((5:Int)+dy)).toNat)] w3 λe w5=>
 ∃gn:Int,e=.returned (.int .i64 gn)/\
 Calls prog 127 #[.slice (if l0.cap=0 then l0.a else l0.a.map (λx=>x.add (0 * 1))) ((IntKind.i64.wrap ((5:Int)+dy)).toNat - 0) (l0.cap - 0)] w5 λe w6=>
 ∃nD:Int,e=.returned (.int .i64 nD)/\
 Br (gn != nD) (
 zQc prog ds w6 λw7=>
 R (.returned (.tuple #[.int .u8 0,.slice none 0 0,.slice none 0 0,.bool false])) w7) (
 dwE w6 λw8=>
 ∃a9,l0.a=some a9/\0<=(0:Int)/\(0:Int)<(l0.len:Int)/\
 ∃iw,w8.cell? (a9.add ((0:Int).toNat * 1))=some (.int .u8 iw)/\
 0<=(IntKind.i64.wrap ((5:Int)+dy))/\(IntKind.i64.wrap ((5:Int)+dy)).toNat<=l0.cap/\0<=(5:Int)/\(5:Int).toNat<=(IntKind.i64.wrap ((5:Int)+dy)).toNat/\
 l0.len<=l0.cap/\0<=(IntKind.i64.wrap ((IntKind.i64.wrap ((5:Int)+dy))+4))/\(IntKind.i64.wrap ((IntKind.i64.wrap ((5:Int)+dy))+4)).toNat<=l0.len/\
 zQc prog ds w8 λaN=>
 R (.returned (.tuple #[.int .u8 iw,.slice (if l0.cap=(5:Int).toNat then l0.a else l0.a.map (λx=>x.add ((5:Int).toNat * 1))) ((IntKind.i64.wrap ((5:Int)+dy)).toNat - (5:Int).toNat) (l0.cap - (5:Int).toNat),.slice (if l0.cap=(IntKind.i64.wrap ((IntKind.i64.wrap ((5:Int)+dy))+4)).toNat then l0.a else l0.a.map (λx=>x.add ((IntKind.i64.wrap ((IntKind.i64.wrap ((5:Int)+dy))+4)).toNat * 1))) (l0.len - (IntKind.i64.wrap ((IntKind.i64.wrap ((5:Int)+dy))+4)).toNat) (l0.cap - (IntKind.i64.wrap ((IntKind.i64.wrap ((5:Int)+dy))+4)).toNat),.bool true])) aN)))
theorem F88_p:Pl prog f88 [lS 0] F88_1:=λR=>
 lf
theorem yYp (l0:SV) (w:World) (R:Rt) (h:F88_1 R l0 [] w):Calls prog 88 #[l0.v] w R:=
 plC F88_p func88 h
def xKv(R:Rt)(n0:Int)(l1:SV)(ds:Ds)(w:World):Prop:=
 ∃l9:SV,∃w1,(Instr.makeSlice 22 (.int .i64 (IntKind.i64.wrap ((5:Int)+(l1.len:Int)))) (.int .i64 (IntKind.i64.wrap ((5:Int)+(l1.len:Int))))).run prog w=.ok (l9.v) w1/\
 ∃a2,l9.a=some a2/\0<=(0:Int)/\(0:Int)<(l9.len:Int)/\
 st1 (a2.add ((0:Int).toNat * 1)) (.int .u8 n0) w1 λw3=>
 dwE w3 λw4=>
 0<=(5:Int)/\(5:Int).toNat<=l9.cap/\0<=(1:Int)/\(1:Int).toNat<=(5:Int).toNat/\
 Calls prog 143 #[.int .i64 (l1.len:Int),.int .i64 4] w4 λe w5=>
 ∃dk:SV,e=.returned (dk.v)/\
 ∃iI:Int,∃w6,(Builtin.copy_ #[22,22] 3 #[.slice (if l9.cap=(1:Int).toNat then l9.a else l9.a.map (λx=>x.add ((1:Int).toNat * 1))) ((5:Int).toNat - (1:Int).toNat) (l9.cap - (1:Int).toNat),dk.v]).run prog w5=.ok (.int .i64 iI) w6/\
 l9.len<=l9.cap/\0<=(5:Int)/\(5:Int).toNat<=l9.len/\
 ∃df:Int,∃w7,(Builtin.copy_ #[22,22] 3 #[.slice (if l9.cap=(5:Int).toNat then l9.a else l9.a.map (λx=>x.add ((5:Int).toNat * 1))) (l9.len - (5:Int).toNat) (l9.cap - (5:Int).toNat),l1.v]).run prog w6=.ok (.int .i64 df) w7/\
 Calls prog 127 #[l9.v] w7 λe w8=>
 ∃cn:Int,e=.returned (.int .i64 cn)/\
 Calls prog 143 #[.int .i64 cn,.int .i64 4] w8 λe w9=>
 ∃dP:SV,e=.returned (dP.v)/\
 ∃bV:SV,∃aN,(Builtin.append_ #[22,22] 22 #[l9.v,dP.v]).run prog w9=.ok (bV.v) aN/\
 zQc prog ds aN λaV=>
 R (.returned (bV.v)) aV
theorem F111_p:Pl prog f111 [kS .u8 0,lS 1] xKv:=λR=>
 lf
theorem yVq (n0:Int) (l1:SV) (w:World) (R:Rt) (h:xKv R n0 l1 [] w):Calls prog 111 #[.int .u8 n0,l1.v] w R:=
 plC F111_p func111 h
end Go.Proofs.YtaeecpjhfmcliaaGreatDoor
/- Shallow texts of functions, printed by program, each checked by the kernel against the loaded code. No condition. -/
namespace Go.Proofs.YtaeecpjhfmcliaaGreatDoor
open Go.Sh Tryz
def F46_1(R:Rt)(l3:SV)(ds:Ds)(w:World):Prop:=
 zQc prog ds w λw1=>
 R (.returned (l3.v)) w1
def xYf (R:Rt) (J1:(Int)->World->Prop) (l3 l7:SV) (n8 n9:Int) (ds:Ds) (w:World):Prop:=
 Br (decide (n9<n8)) (
 ∃a2,l7.a=some a2/\0<=n9/\n9<(l7.len:Int)/\
 ∃cz:SV,w.cell? (a2.add (n9.toNat * 1))=some (cz.v)/\
 ∃dr:SV,∃w3,(Instr.makeSlice 22 (.int .i64 (cz.len:Int)) (.int .i64 (cz.len:Int))).run prog w=.ok (dr.v) w3/\
 ∃a4,l3.a=some a4/\0<=n9/\n9<(l3.len:Int)/\
 st1 (a4.add (n9.toNat * 1)) (dr.v) w3 λw5=>
 ∃a6,l3.a=some a6/\0<=n9/\n9<(l3.len:Int)/\
 ∃gl:SV,w5.cell? (a6.add (n9.toNat * 1))=some (gl.v)/\
 ∃cn:Int,∃w7,(Builtin.copy_ #[22,22] 3 #[gl.v,cz.v]).run prog w5=.ok (.int .i64 cn) w7/\
 J1 (IntKind.i64.wrap (n9+1)) w7) (
 F46_1 R l3 ds w)
def F46_3(R:Rt)(l3 l7:SV)(n8 n9:Int)(ds:Ds)(w:World):Prop:=
 zQF (λ(J1:(Int)->World->Prop) (s:Int) (w:World)=>xYf R J1 l3 l7 n8 s ds w) n9 w
def F46_5(R:Rt)(l0:SV)(ds:Ds)(w:World):Prop:=
 ∃l6:SV,∃w8,(Instr.makeSlice 83 (.int .i64 2) (.int .i64 2)).run prog w=.ok (l6.v) w8/\
 F46_3 R l6 l0 (l0.len:Int) 0 ds w8
theorem F46_p:Pl prog f46 [lS 0] F46_5:=λR=>
 pc 3 (rest [lS 3,lS 7,iS 8,iS 9] (F46_3 R) (bk 0 (rest [lS 3] (F46_1 R) lf) (lp [iS 9] [lS 3,lS 7,iS 8,iS 9] (xYf R) zXN λJ1=>lf)))
theorem yYH (l0:SV) (w:World) (R:Rt) (h:F46_5 R l0 [] w):Calls prog 46 #[l0.v] w R:=
 plC F46_p func46 h
def F47_1 (R:Rt) (J1:(Bool × Bool × SV)->World->Prop) (l0:SV) (p2 p6:Option Addr) (b8 b9:Bool) (cL:SV) (ds:Ds) (w:World):Prop:=
 Calls prog 88 #[cL.v] w λe w1=>
 ∃cO:Int,∃cw:SV,∃eY:SV,∃oo:Bool,e=.returned (.tuple #[.int .u8 cO,cw.v,eY.v,.bool oo])/\
 Br (!oo) (
 dwE w1 λw2=>
 ∃S1:World->Prop,S1 w2/\
 zQh p6 λa3=>
 ∃eZ,(∀w',S1 w'->w'.cell? (a3.add 0)=some (.int .i64 eZ))/\
 ∃cg:SV,(∀w',S1 w'->w'.cell? (a3.add 1)=some (cg.v))/\
 ∃bC:SV,(∀w',S1 w'->w'.cell? (a3.add 2)=some (bC.v))/\
 ∃a4,l0.a=some a4/\0<=(1:Int)/\(1:Int)<(l0.len:Int)/\
 ∃gk:SV,(∀w',S1 w'->w'.cell? (a4.add ((1:Int).toNat * 1))=some (gk.v))/\
 zQh p2 λa5=>
 stA prog 35 a5 #[.int .i64 eZ,cg.v,bC.v] w2 λw6=>
 S1 w6/\
 zQc prog ds w6 λw7=>
 zQh p2 λa8=>
 ∃ag,w7.cell? (a8.add 0)=some (.int .i64 ag)/\
 ∃ab:SV,w7.cell? (a8.add 1)=some (ab.v)/\
 ∃ae:SV,w7.cell? (a8.add 2)=some (ae.v)/\
 R (.returned (.tuple #[.agg #[.int .i64 ag,ab.v,ae.v],.int .i64 (IntKind.i64.wrap ((gk.len:Int) - (cL.len:Int))),.bool b9,.bool b8])) w7) (
 Br (cO == 119) (
 Calls prog 87 #[cw.v] w1 λe w9=>
 ∃pO:Int,∃gU:SV,∃gV:SV,∃nS:Int,e=.returned (.tuple #[.agg #[.int .i64 pO,gU.v,gV.v],.int .i64 nS])/\
 zQh p6 λeu=>
 stA prog 35 eu #[.int .i64 pO,gU.v,gV.v] w9 λaV=>
 J1 ((nS == 0),true,eY) aV) (
 Br (cO != 99) (
 J1 (false,b9,eY) w1) (
 Br b8 (
 zQh p6 λkQ=>
 ∃dG,w1.cell? (kQ.add 0)=some (.int .i64 dG)/\
 ∃bD:SV,w1.cell? (kQ.add 1)=some (bD.v)/\
 ∃fL:SV,w1.cell? (kQ.add 2)=some (fL.v)/\
 Calls prog 89 #[.agg #[.int .i64 dG,bD.v,fL.v],cw.v] w1 λe aI=>
 ∃pP:Int,∃gW:SV,∃gX:SV,∃vu:Bool,e=.returned (.tuple #[.agg #[.int .i64 pP,gW.v,gX.v],.bool vu])/\
 zQh p6 λga=>
 stA prog 35 ga #[.int .i64 pP,gW.v,gX.v] aI λbr=>
 J1 (vu,b9,eY) br) (
 J1 (b8,b9,eY) w1))))
def F47_2(R:Rt)(l0:SV)(p2 p6:Option Addr)(b8 b9:Bool)(cL:SV)(ds:Ds)(w:World):Prop:=
 zQF (λ(J1:(Bool × Bool × SV)->World->Prop) (s:Bool × Bool × SV) (w:World)=>F47_1 R J1 l0 p2 p6 s.1 s.2.1 s.2.2 ds w) (b8,b9,cL) w
def F47_4(R:Rt)(l0:SV)(ds:Ds)(w:World):Prop:=
 alE (.cells #[.int .i64 0,.slice none 0 0,.slice none 0 0] 35) w λr2 bI=>
 ∃rF,l0.a=some rF/\0<=(0:Int)/\(0:Int)<(l0.len:Int)/\
 ∃dr:SV,bI.cell? (rF.add ((0:Int).toNat * 1))=some (dr.v)/\
 Calls prog 87 #[dr.v] bI λe bR=>
 ∃iP:Int,∃cC:SV,∃cD:SV,∃bT:Int,e=.returned (.tuple #[.agg #[.int .i64 iP,cC.v,cD.v],.int .i64 bT])/\
 alE (.cells #[.int .i64 0,.slice none 0 0,.slice none 0 0] 35) bR λr6 cK=>
 stA prog 35 (⟨r6,0,none⟩:Addr) #[.int .i64 iP,cC.v,cD.v] cK λcj=>
 ∃a21,l0.a=some a21/\0<=(1:Int)/\(1:Int)<(l0.len:Int)/\
 ∃dP:SV,cj.cell? (a21.add ((1:Int).toNat * 1))=some (dP.v)/\
 F47_2 R l0 (some (⟨r2,0,none⟩:Addr)) (some (⟨r6,0,none⟩:Addr)) (bT == 0) false dP ds cj
theorem F47_p:Pl prog f47 [lS 0] F47_4:=λR=>
 pc 4 (rest [lS 0,pS 2,pS 6,bS 8,bS 9,lS 10] (F47_2 R) (bk 0 zXN (lp [bS 8,bS 9,lS 10] [lS 0,pS 2,pS 6,bS 8,bS 9,lS 10] (F47_1 R) zXN λJ1=>lf)))
theorem yY8 (l0:SV) (w:World) (R:Rt) (h:F47_4 R l0 [] w):Calls prog 47 #[l0.v] w R:=
 plC F47_p func47 h
def F51_1(R:Rt)(l0:SV)(ds:Ds)(w:World):Prop:=
 alE (.cells #[.slice none 0 0,.slice none 0 0] 63) w λr2 w1=>
 Calls prog 46 #[l0.v] w1 λe w2=>
 ∃l5:SV,e=.returned (l5.v)/\
 dwE w2 λw3=>
 ∃a4,l5.a=some a4/\0<=(0:Int)/\(0:Int)<(l5.len:Int)/\
 ∃l8:SV,w3.cell? (a4.add ((0:Int).toNat * 1))=some (l8.v)/\
 ∃a5,l5.a=some a5/\0<=(1:Int)/\(1:Int)<(l5.len:Int)/\
 ∃bW:SV,w3.cell? (a5.add ((1:Int).toNat * 1))=some (bW.v)/\
 stA prog 63 (⟨r2,0,none⟩:Addr) #[l8.v,bW.v] w3 λw6=>
 zQc prog ds w6 λw7=>
 ∃lE:SV,w7.cell? ((⟨r2,0,none⟩:Addr).add 0)=some (lE.v)/\
 ∃ab:SV,w7.cell? ((⟨r2,0,none⟩:Addr).add 1)=some (ab.v)/\
 R (.returned (.agg #[lE.v,ab.v])) w7
theorem F51_p:Pl prog f51 [lS 0] F51_1:=λR=>
 lf
theorem yYM (l0:SV) (w:World) (R:Rt) (h:F51_1 R l0 [] w):Calls prog 51 #[l0.v] w R:=
 plC F51_p func51 h
end Go.Proofs.YtaeecpjhfmcliaaGreatDoor
/- Shallow texts of functions, printed by program, each checked by the kernel against the loaded code. No condition. -/
namespace Go.Proofs.YtaeecpjhfmcliaaGreatDoor
open Go.Sh Tryz
def F85_1(R:Rt)(aw:Int)(ah ai:SV)(ds:Ds)(w:World):Prop:=
 alE (.cells #[.int .i64 aw,ah.v,ai.v] 35) w λr1 w1=>
 ∃oa,w1.cell? ((⟨r1,0,none⟩:Addr).add 0)=some (.int .i64 oa)/\
 ∃fv:SV,w1.cell? ((⟨r1,0,none⟩:Addr).add 1)=some (fv.v)/\
 ∃fy:SV,w1.cell? ((⟨r1,0,none⟩:Addr).add 2)=some (fy.v)/\
 Calls prog 86 #[.agg #[.int .i64 oa,fv.v,fy.v]] w1 λe w2=>
 ∃qx:SV,∃eE:Int,e=.returned (.tuple #[qx.v,.int .i64 eE])/\
 Calls prog 111 #[.int .u8 119,qx.v] w2 λe w3=>
 ∃bW:SV,e=.returned (bW.v)/\
 zQc prog ds w3 λw4=>
 R (.returned (bW.v)) w4
theorem F85_p:Pl prog f85 [aS 0 [.int .i64,.slice,.slice]] F85_1:=λR=>
 lf
theorem xXD (aw:Int) (ah ai:SV) (w:World) (R:Rt) (h:F85_1 R aw ah ai [] w):Calls prog 85 #[.agg #[.int .i64 aw,ah.v,ai.v]] w R:=
 plC F85_p func85 h
def F48_1(R:Rt)(l0:SV)(ds:Ds)(w:World):Prop:=
 Calls prog 47 #[l0.v] w λe w1=>
 ∃pQ:Int,∃gY:SV,∃gZ:SV,∃d7:Int,∃ou:Bool,∃b12_3:Bool,e=.returned (.tuple #[.agg #[.int .i64 pQ,gY.v,gZ.v],.int .i64 d7,.bool ou,.bool b12_3])/\
 alE (.cells #[.int .i64 0,.slice none 0 0,.slice none 0 0] 35) w1 λr3 w2=>
 stA prog 35 (⟨r3,0,none⟩:Addr) #[.int .i64 pQ,gY.v,gZ.v] w2 λw3=>
 ∃a4,l0.a=some a4/\0<=(1:Int)/\(1:Int)<(l0.len:Int)/\
 ∃dS:SV,w3.cell? (a4.add ((1:Int).toNat * 1))=some (dS.v)/\
 Br (decide (d7<(dS.len:Int))) (
 alE (.cells #[.int .i64 1,.int .i64 d7,.slice none 0 0] 90) w3 λr26 w5=>
 ∃bV:SV,∃w6,(Builtin.append_ #[87,87] 87 #[.slice none 0 0,.slice (some ⟨r26,0,none⟩) 1 1]).run prog w5=.ok (bV.v) w6/\
 Br ou (
 ∃dI,w6.cell? ((⟨r3,0,none⟩:Addr).add 0)=some (.int .i64 dI)/\
 ∃bi:SV,w6.cell? ((⟨r3,0,none⟩:Addr).add 1)=some (bi.v)/\
 ∃bj:SV,w6.cell? ((⟨r3,0,none⟩:Addr).add 2)=some (bj.v)/\
 Calls prog 86 #[.agg #[.int .i64 dI,bi.v,bj.v]] w6 λe w7=>
 ∃cT:SV,∃gE:Int,e=.returned (.tuple #[cT.v,.int .i64 gE])/\
 alE (.cells #[.int .i64 0,.int .i64 0,.slice none 0 0,.int .i64 0,.int .i64 0,cT.v,.int .i64 1,.int .i64 0,.slice none 0 0] 90) w7 λr39 w8=>
 ∃bK:SV,∃w9,(Builtin.append_ #[87,87] 87 #[bV.v,.slice (some ⟨r39,0,none⟩) 3 3]).run prog w8=.ok (bK.v) w9/\
 zQc prog ds w9 λaN=>
 R (.returned (bK.v)) aN) (
 zQc prog ds w6 λaV=>
 R (.returned (bV.v)) aV)) (
 Br ou (
 ∃dI,w3.cell? ((⟨r3,0,none⟩:Addr).add 0)=some (.int .i64 dI)/\
 ∃bi:SV,w3.cell? ((⟨r3,0,none⟩:Addr).add 1)=some (bi.v)/\
 ∃bj:SV,w3.cell? ((⟨r3,0,none⟩:Addr).add 2)=some (bj.v)/\
 Calls prog 86 #[.agg #[.int .i64 dI,bi.v,bj.v]] w3 λe aO=>
 ∃cT:SV,∃gE:Int,e=.returned (.tuple #[cT.v,.int .i64 gE])/\
 alE (.cells #[.int .i64 0,.int .i64 0,.slice none 0 0,.int .i64 0,.int .i64 0,cT.v,.int .i64 1,.int .i64 0,.slice none 0 0] 90) aO λr39 aI=>
 ∃bK:SV,∃bt,(Builtin.append_ #[87,87] 87 #[.slice none 0 0,.slice (some ⟨r39,0,none⟩) 3 3]).run prog aI=.ok (bK.v) bt/\
 zQc prog ds bt λbr=>
 R (.returned (bK.v)) br) (
 zQc prog ds w3 λbI=>
 R (.returned (.slice none 0 0)) bI))
theorem F48_p:Pl prog f48 [lS 0] F48_1:=λR=>
 lf
theorem yYL (l0:SV) (w:World) (R:Rt) (h:F48_1 R l0 [] w):Calls prog 48 #[l0.v] w R:=
 plC F48_p func48 h
def F49_1(R:Rt)(l0:SV)(bF cp:Int)(cu:SV)(ds:Ds)(w:World):Prop:=
 alE (.cells #[.int .i64 bF,.int .i64 cp,cu.v] 90) w λr3 w1=>
 dwE w1 λw2=>
 ∃S1:World->Prop,S1 w2/\
 ∃iO,(∀w',S1 w'->w'.cell? ((⟨r3,0,none⟩:Addr).add 0)=some (.int .i64 iO))/\
 ∃n5_1,(∀w',S1 w'->w'.cell? ((⟨r3,0,none⟩:Addr).add 1)=some (.int .i64 n5_1))/\
 ∃cA:SV,(∀w',S1 w'->w'.cell? ((⟨r3,0,none⟩:Addr).add 2)=some (cA.v))/\
 ∃eD,(∀w',S1 w'->w'.cell? ((⟨r3,0,none⟩:Addr).add 0)=some (.int .i64 eD))/\
 ∃eE,(∀w',S1 w'->w'.cell? ((⟨r3,0,none⟩:Addr).add 1)=some (.int .i64 eE))/\
 ∃bX:SV,(∀w',S1 w'->w'.cell? ((⟨r3,0,none⟩:Addr).add 2)=some (bX.v))/\
 Calls prog 90 #[.agg #[.int .i64 eD,.int .i64 eE,bX.v]] w2 λe w3=>
 ∃n8:Int,e=.returned (.int .i64 n8)/\
 S1 w3/\
 Calls prog 76 #[.agg #[.int .i64 iO,.int .i64 n5_1,cA.v],l0.v,.int .i64 n8] w3 λe w4=>
 ∃l9:SV,e=.returned (l9.v)/\
 zQc prog ds w4 λw5=>
 R (.returned (l9.v)) w5
theorem F49_p:Pl prog f49 [lS 0,aS 1 [.int .i64,.int .i64,.slice]] F49_1:=λR=>
 lf
theorem yYW (l0:SV) (bF cp:Int) (cu:SV) (w:World) (R:Rt) (h:F49_1 R l0 bF cp cu [] w):Calls prog 49 #[l0.v,.agg #[.int .i64 bF,.int .i64 cp,cu.v]] w R:=
 plC F49_p func49 h
end Go.Proofs.YtaeecpjhfmcliaaGreatDoor
/- Shallow texts of functions, printed by program, each checked by the kernel against the loaded code. No condition. -/
namespace Go.Proofs.YtaeecpjhfmcliaaGreatDoor
open Go.Sh Tryz
def xWh(R:Rt)(aw:Int)(ah ai l1:SV)(ds:Ds)(w:World):Prop:=
 alE (.cells #[.int .i64 aw,ah.v,ai.v] 35) w λr2 w1=>
 alE (.cells #[.bool false,.slice none 0 0] 67) w1 λr4 w2=>
 ∃aW:SV,w2.cell? ((⟨r2,0,none⟩:Addr).add 1)=some (aW.v)/\
 Calls prog 164 #[aW.v] w2 λe w3=>
 ∃pR:Bool,∃hH:SV,∃gC:Int,e=.returned (.tuple #[.agg #[.bool pR,hH.v],.int .i64 gC])/\
 alE (.cells #[.bool false,.slice none 0 0] 67) w3 λr6 w4=>
 stA prog 67 (⟨r6,0,none⟩:Addr) #[.bool pR,hH.v] w4 λw5=>
 ∃kj,w5.cell? (⟨r2,0,none⟩:Addr)=some (.int .i64 kj)/\
 ∃dv:SV,w5.cell? ((⟨r2,0,none⟩:Addr).add 1)=some (dv.v)/\
 ∃vv,w5.cell? ((⟨r6,0,none⟩:Addr).add 0)=some (.bool vv)/\
 ∃lF:SV,w5.cell? ((⟨r6,0,none⟩:Addr).add 1)=some (lF.v)/\
 alE (.cells #[.bool vv,lF.v] 67) w5 λr24 w6=>
 Calls prog 165 #[.agg #[.int .i64 kj,dv.v,.slice (some ⟨r24,0,none⟩) 1 1]] w6 λe w7=>
 ∃lG:SV,∃fp:Int,e=.returned (.tuple #[lG.v,.int .i64 fp])/\
 ∃im:SV,∃w8,(Builtin.append_ #[22,22] 22 #[lG.v,l1.v]).run prog w7=.ok (im.v) w8/\
 alE (.cells #[.int .u8 26] 5) w8 λr33 w9=>
 ∃kg:SV,∃aN,(Builtin.append_ #[22,22] 22 #[im.v,.slice (some ⟨r33,0,none⟩) 1 1]).run prog w9=.ok (kg.v) aN/\
 Calls prog 87 #[kg.v] aN λe aV=>
 ∃pT:Int,∃hZ:SV,∃ia:SV,∃ov:Int,e=.returned (.tuple #[.agg #[.int .i64 pT,hZ.v,ia.v],.int .i64 ov])/\
 alE (.cells #[.int .i64 0,.slice none 0 0,.slice none 0 0] 35) aV λdF aO=>
 stA prog 35 (⟨dF,0,none⟩:Addr) #[.int .i64 pT,hZ.v,ia.v] aO λaI=>
 Br (ov != 0) (
 stA prog 67 (⟨r4,0,none⟩:Addr) #[.bool false,.slice none 0 0] aI λbt=>
 zQc prog ds bt λbr=>
 ∃bN,br.cell? ((⟨r4,0,none⟩:Addr).add 0)=some (.bool bN)/\
 ∃ab:SV,br.cell? ((⟨r4,0,none⟩:Addr).add 1)=some (ab.v)/\
 R (.returned (.tuple #[.agg #[.bool bN,ab.v],.bool false])) br) (
 ∃kF:SV,aI.cell? ((⟨dF,0,none⟩:Addr).add 2)=some (kF.v)/\
 ∃iJ,kF.a=some iJ/\0<=(0:Int)/\(0:Int)<(kF.len:Int)/\
 ∃ob,aI.cell? ((iJ.add ((0:Int).toNat * 2)).add 0)=some (.bool ob)/\
 ∃fA:SV,aI.cell? ((iJ.add ((0:Int).toNat * 2)).add 1)=some (fA.v)/\
 stA prog 67 (⟨r4,0,none⟩:Addr) #[.bool ob,fA.v] aI λbJ=>
 zQc prog ds bJ λbR=>
 ∃bN,bR.cell? ((⟨r4,0,none⟩:Addr).add 0)=some (.bool bN)/\
 ∃ab:SV,bR.cell? ((⟨r4,0,none⟩:Addr).add 1)=some (ab.v)/\
 R (.returned (.tuple #[.agg #[.bool bN,ab.v],.bool true])) bR)
theorem F129_p:Pl prog f129 [aS 0 [.int .i64,.slice,.slice],lS 1] xWh:=λR=>
 lf
theorem yWn (aw:Int) (ah ai l1:SV) (w:World) (R:Rt) (h:xWh R aw ah ai l1 [] w):Calls prog 129 #[.agg #[.int .i64 aw,ah.v,ai.v],l1.v] w R:=
 plC F129_p func129 h
def xVy(R:Rt)(l5:SV)(ds:Ds)(w:World):Prop:=
 zQc prog ds w λw1=>
 R (.returned (l5.v)) w1
def xJM (R:Rt) (J1:(SV × Int)->World->Prop) (p2:Option Addr) (l5 aW:SV) (kv n16:Int) (ds:Ds) (w:World):Prop:=
 Br (decide (n16<kv)) (
 ∃a2,aW.a=some a2/\0<=n16/\n16<(aW.len:Int)/\
 ∃ja,w.cell? (a2.add (n16.toNat * 1))=some (.int .i64 ja)/\
 zQh p2 λa3=>
 ∃dv:SV,w.cell? (a3.add 2)=some (dv.v)/\
 Br (decide (ja > (dv.len:Int))) (
 J1 (l5,(IntKind.i64.wrap (n16+1))) w) (
 zQh p2 λa4=>
 ∃eM,w.cell? (a4.add 0)=some (.int .i64 eM)/\
 ∃bB:SV,w.cell? (a4.add 1)=some (bB.v)/\
 ∃cR:SV,w.cell? (a4.add 2)=some (cR.v)/\
 Calls prog 144 #[.agg #[.int .i64 eM,bB.v,cR.v],.int .i64 ja] w λe w5=>
 ∃fM:SV,∃n28_1:Int,e=.returned (.tuple #[fM.v,.int .i64 n28_1])/\
 Calls prog 143 #[.int .i64 ja,.int .i64 2] w5 λe w6=>
 ∃iK:SV,e=.returned (iK.v)/\
 ∃kg:SV,∃w7,(Builtin.append_ #[22,22] 22 #[l5.v,iK.v]).run prog w6=.ok (kg.v) w7/\
 ∃iF:SV,∃w8,(Builtin.append_ #[22,22] 22 #[kg.v,fM.v]).run prog w7=.ok (iF.v) w8/\
 J1 (iF,(IntKind.i64.wrap (n16+1))) w8)) (
 xVy R l5 ds w)
def xJT(R:Rt)(p2:Option Addr)(l5 aW:SV)(kv n16:Int)(ds:Ds)(w:World):Prop:=
 zQF (λ(J1:(SV × Int)->World->Prop) (s:SV × Int) (w:World)=>xJM R J1 p2 s.1 aW kv s.2 ds w) (l5,n16) w
def xWw(R:Rt)(aw:Int)(ah ai l1:SV)(ds:Ds)(w:World):Prop:=
 alE (.cells #[.int .i64 aw,ah.v,ai.v] 35) w λr2 w9=>
 ∃bW:SV,w9.cell? ((⟨r2,0,none⟩:Addr).add 2)=some (bW.v)/\
 Calls prog 143 #[.int .i64 (bW.len:Int),.int .i64 2] w9 λe aN=>
 ∃cz:SV,e=.returned (cz.v)/\
 xJT R (some (⟨r2,0,none⟩:Addr)) cz l1 (l1.len:Int) 0 ds aN
theorem F112_p:Pl prog f112 [aS 0 [.int .i64,.slice,.slice],lS 1] xWw:=λR=>
 pc 3 (rest [pS 2,lS 5,lS 14,iS 15,iS 16] (xJT R) (bk 0 (rest [lS 5] (xVy R) lf) (lp [lS 5,iS 16] [pS 2,lS 5,lS 14,iS 15,iS 16] (xJM R) zXN λJ1=>lf)))
theorem yWP (aw:Int) (ah ai l1:SV) (w:World) (R:Rt) (h:xWw R aw ah ai l1 [] w):Calls prog 112 #[.agg #[.int .i64 aw,ah.v,ai.v],l1.v] w R:=
 plC F112_p func112 h
end Go.Proofs.YtaeecpjhfmcliaaGreatDoor
/- Shallow texts of functions, printed by program, each checked by the kernel against the loaded code. No condition. -/
namespace Go.Proofs.YtaeecpjhfmcliaaGreatDoor
open Go.Sh Tryz
def F89_1(R:Rt)(p2 p4:Option Addr)(n8:Int)(ds:Ds)(w:World):Prop:=
 dwE w λw1=>
 ∃S1:World->Prop,S1 w1/\
 zQh p2 λa2=>
 ∃vw,(∀w',S1 w'->w'.cell? (a2.add 0)=some (.int .i64 vw))/\
 ∃lH:SV,(∀w',S1 w'->w'.cell? (a2.add 1)=some (lH.v))/\
 ∃lI:SV,(∀w',S1 w'->w'.cell? (a2.add 2)=some (lI.v))/\
 zQh p2 λa3=>
 ∃l96:SV,(∀w',S1 w'->w'.cell? (a3.add 2)=some (l96.v))/\
 zQh p4 λa4=>
 stA prog 35 a4 #[.int .i64 vw,lH.v,lI.v] w1 λw5=>
 S1 w5/\
 zQc prog ds w5 λw6=>
 zQh p4 λa7=>
 ∃ag,w6.cell? (a7.add 0)=some (.int .i64 ag)/\
 ∃ab:SV,w6.cell? (a7.add 1)=some (ab.v)/\
 ∃ae:SV,w6.cell? (a7.add 2)=some (ae.v)/\
 R (.returned (.tuple #[.agg #[.int .i64 ag,ab.v,ae.v],.bool ((l96.len:Int) == n8)])) w6
def zYx (R:Rt) (J1:(SV)->World->Prop) (p2 p4:Option Addr) (n6 n8:Int) (l9:SV) (ds:Ds) (w:World):Prop:=
 l9.len<=l9.cap/\0<=(IntKind.i64.wrap (n6+2))/\(IntKind.i64.wrap (n6+2)).toNat<=l9.len/\
 J1 ⟨(if l9.cap=(IntKind.i64.wrap (n6+2)).toNat then l9.a else l9.a.map (λx=>x.add ((IntKind.i64.wrap (n6+2)).toNat * 1))),(l9.len - (IntKind.i64.wrap (n6+2)).toNat),(l9.cap - (IntKind.i64.wrap (n6+2)).toNat)⟩ w
def F89_3 (R:Rt) (J1:(SV)->World->Prop) (p2 p4:Option Addr) (n6 n8:Int) (l9:SV) (ds:Ds) (w:World):Prop:=
 0<=(2:Int)/\(2:Int).toNat<=l9.cap/\0<=(2:Int).toNat/\
 Calls prog 126 #[.slice (if l9.cap=0 then l9.a else l9.a.map (λx=>x.add (0 * 1))) ((2:Int).toNat - 0) (l9.cap - 0)] w λe w8=>
 ∃dp:Int,e=.returned (.int .i64 dp)/\
 dwE w8 λw9=>
 ∃S2:World->Prop,S2 w9/\
 zQh p2 λeu=>
 ∃ls,(∀w',S2 w'->w'.cell? (eu.add 0)=some (.int .i64 ls))/\
 ∃iQ:SV,(∀w',S2 w'->w'.cell? (eu.add 1)=some (iQ.v))/\
 ∃iR:SV,(∀w',S2 w'->w'.cell? (eu.add 2)=some (iR.v))/\
 0<=(IntKind.i64.wrap (n6+2))/\(IntKind.i64.wrap (n6+2)).toNat<=l9.cap/\0<=(2:Int)/\(2:Int).toNat<=(IntKind.i64.wrap (n6+2)).toNat/\
 (
 Calls prog 129 #[.agg #[.int .i64 ls,iQ.v,iR.v],.slice (if l9.cap=(2:Int).toNat then l9.a else l9.a.map (λx=>x.add ((2:Int).toNat * 1))) ((IntKind.i64.wrap (n6+2)).toNat - (2:Int).toNat) (l9.cap - (2:Int).toNat)] w9 λe aV=>
 ∃iT:Bool,∃cE:SV,∃kG:Bool,e=.returned (.tuple #[.agg #[.bool iT,cE.v],.bool kG])/\
 alE (.cells #[.bool false,.slice none 0 0] 67) aV λco aO=>
 stA prog 67 (⟨co,0,none⟩:Addr) #[.bool iT,cE.v] aO λaI=>
 Br (!kG) (
 zQh p2 λga=>
 ∃bm,aI.cell? (ga.add 0)=some (.int .i64 bm)/\
 ∃au:SV,aI.cell? (ga.add 1)=some (au.v)/\
 ∃aC:SV,aI.cell? (ga.add 2)=some (aC.v)/\
 zQh p4 λjA=>
 stA prog 35 jA #[.int .i64 bm,au.v,aC.v] aI λbI=>
 zQc prog ds bI λbJ=>
 zQh p4 λjz=>
 ∃ag,bJ.cell? (jz.add 0)=some (.int .i64 ag)/\
 ∃ab:SV,bJ.cell? (jz.add 1)=some (ab.v)/\
 ∃ae:SV,bJ.cell? (jz.add 2)=some (ae.v)/\
 R (.returned (.tuple #[.agg #[.int .i64 ag,ab.v,ae.v],.bool false])) bJ) (
 Br (decide (dp<1)) (
 zQh p2 λke=>
 ∃bm,aI.cell? (ke.add 0)=some (.int .i64 bm)/\
 ∃au:SV,aI.cell? (ke.add 1)=some (au.v)/\
 ∃aC:SV,aI.cell? (ke.add 2)=some (aC.v)/\
 zQh p4 λa20=>
 stA prog 35 a20 #[.int .i64 bm,au.v,aC.v] aI λcr=>
 zQc prog ds cr λdX=>
 zQh p4 λph=>
 ∃ag,dX.cell? (ph.add 0)=some (.int .i64 ag)/\
 ∃ab:SV,dX.cell? (ph.add 1)=some (ab.v)/\
 ∃ae:SV,dX.cell? (ph.add 2)=some (ae.v)/\
 R (.returned (.tuple #[.agg #[.int .i64 ag,ab.v,ae.v],.bool false])) dX) (
 zQh p2 λxi=>
 ∃pU:SV,aI.cell? (xi.add 2)=some (pU.v)/\
 Br (decide (dp > (IntKind.i64.wrap ((pU.len:Int)+1)))) (
 zQh p2 λna=>
 ∃bm,aI.cell? (na.add 0)=some (.int .i64 bm)/\
 ∃au:SV,aI.cell? (na.add 1)=some (au.v)/\
 ∃aC:SV,aI.cell? (na.add 2)=some (aC.v)/\
 zQh p4 λxu=>
 stA prog 35 xu #[.int .i64 bm,au.v,aC.v] aI λgS=>
 zQc prog ds gS λcy=>
 zQh p4 λpN=>
 ∃ag,cy.cell? (pN.add 0)=some (.int .i64 ag)/\
 ∃ab:SV,cy.cell? (pN.add 1)=some (ab.v)/\
 ∃ae:SV,cy.cell? (pN.add 2)=some (ae.v)/\
 R (.returned (.tuple #[.agg #[.int .i64 ag,ab.v,ae.v],.bool false])) cy) (
 Br (decide (dp > 300)) (
 zQh p2 λo3=>
 ∃bm,aI.cell? (o3.add 0)=some (.int .i64 bm)/\
 ∃au:SV,aI.cell? (o3.add 1)=some (au.v)/\
 ∃aC:SV,aI.cell? (o3.add 2)=some (aC.v)/\
 zQh p4 λsX=>
 stA prog 35 sX #[.int .i64 bm,au.v,aC.v] aI λgz=>
 zQc prog ds gz λfW=>
 zQh p4 λtg=>
 ∃ag,fW.cell? (tg.add 0)=some (.int .i64 ag)/\
 ∃ab:SV,fW.cell? (tg.add 1)=some (ab.v)/\
 ∃ae:SV,fW.cell? (tg.add 2)=some (ae.v)/\
 R (.returned (.tuple #[.agg #[.int .i64 ag,ab.v,ae.v],.bool false])) fW) (
 zQh p2 λsY=>
 ∃i7:SV,aI.cell? (sY.add 2)=some (i7.v)/\
 Br (decide (dp > (i7.len:Int))) (
 zQh p2 λqR=>
 ∃aD:SV,aI.cell? (qR.add 2)=some (aD.v)/\
 ∃jX,aI.cell? ((⟨co,0,none⟩:Addr).add 0)=some (.bool jX)/\
 ∃cU:SV,aI.cell? ((⟨co,0,none⟩:Addr).add 1)=some (cU.v)/\
 alE (.cells #[.bool jX,cU.v] 67) aI λcv nc=>
 ∃aE:SV,∃kR,(Builtin.append_ #[33,33] 33 #[aD.v,.slice (some ⟨cv,0,none⟩) 1 1]).run prog nc=.ok (aE.v) kR/\
 zQh p2 λyj=>
 st1 (yj.add 2) (aE.v) kR λqV=>
 zYx R J1 p2 p4 n6 n8 l9 ds qV) (
 zQh p2 λyN=>
 ∃ow:SV,aI.cell? (yN.add 2)=some (ow.v)/\
 ∃jY,aI.cell? ((⟨co,0,none⟩:Addr).add 0)=some (.bool jY)/\
 ∃cV:SV,aI.cell? ((⟨co,0,none⟩:Addr).add 1)=some (cV.v)/\
 ∃ta,ow.a=some ta/\0<=(IntKind.i64.wrap (dp - 1))/\(IntKind.i64.wrap (dp - 1))<(ow.len:Int)/\
 stA prog 67 (ta.add ((IntKind.i64.wrap (dp - 1)).toNat * 2)) #[.bool jY,cV.v] aI λpC=>
 zYx R J1 p2 p4 n6 n8 l9 ds pC))))))/\(
 alE (.cells #[.bool false,.slice none 0 0] 67) w9 λco i9=>
 S2 i9/\
 Calls prog 129 #[.agg #[.int .i64 ls,iQ.v,iR.v],.slice (if l9.cap=(2:Int).toNat then l9.a else l9.a.map (λx=>x.add ((2:Int).toNat * 1))) ((IntKind.i64.wrap (n6+2)).toNat - (2:Int).toNat) (l9.cap - (2:Int).toNat)] i9 λe oZ=>
 ∃iT:Bool,∃cE:SV,∃kG:Bool,e=.returned (.tuple #[.agg #[.bool iT,cE.v],.bool kG])/\
 stA prog 67 (⟨co,0,none⟩:Addr) #[.bool iT,cE.v] oZ λgm=>
 Br (!kG) (
 zQh p2 λyO=>
 ∃bm,gm.cell? (yO.add 0)=some (.int .i64 bm)/\
 ∃au:SV,gm.cell? (yO.add 1)=some (au.v)/\
 ∃aC:SV,gm.cell? (yO.add 2)=some (aC.v)/\
 zQh p4 λa48=>
 stA prog 35 a48 #[.int .i64 bm,au.v,aC.v] gm λrp=>
 zQc prog ds rp λvt=>
 zQh p4 λa51=>
 ∃ag,vt.cell? (a51.add 0)=some (.int .i64 ag)/\
 ∃ab:SV,vt.cell? (a51.add 1)=some (ab.v)/\
 ∃ae:SV,vt.cell? (a51.add 2)=some (ae.v)/\
 R (.returned (.tuple #[.agg #[.int .i64 ag,ab.v,ae.v],.bool false])) vt) (
 Br (decide (dp<1)) (
 zQh p2 λxc=>
 ∃bm,gm.cell? (xc.add 0)=some (.int .i64 bm)/\
 ∃au:SV,gm.cell? (xc.add 1)=some (au.v)/\
 ∃aC:SV,gm.cell? (xc.add 2)=some (aC.v)/\
 zQh p4 λa53=>
 stA prog 35 a53 #[.int .i64 bm,au.v,aC.v] gm λtW=>
 zQc prog ds tW λqX=>
 zQh p4 λzh=>
 ∃ag,qX.cell? (zh.add 0)=some (.int .i64 ag)/\
 ∃ab:SV,qX.cell? (zh.add 1)=some (ab.v)/\
 ∃ae:SV,qX.cell? (zh.add 2)=some (ae.v)/\
 R (.returned (.tuple #[.agg #[.int .i64 ag,ab.v,ae.v],.bool false])) qX) (
 zQh p2 λa57=>
 ∃pU:SV,gm.cell? (a57.add 2)=some (pU.v)/\
 Br (decide (dp > (IntKind.i64.wrap ((pU.len:Int)+1)))) (
 zQh p2 λa58=>
 ∃bm,gm.cell? (a58.add 0)=some (.int .i64 bm)/\
 ∃au:SV,gm.cell? (a58.add 1)=some (au.v)/\
 ∃aC:SV,gm.cell? (a58.add 2)=some (aC.v)/\
 zQh p4 λa59=>
 stA prog 35 a59 #[.int .i64 bm,au.v,aC.v] gm λpD=>
 zQc prog ds pD λqp=>
 zQh p4 λa62=>
 ∃ag,qp.cell? (a62.add 0)=some (.int .i64 ag)/\
 ∃ab:SV,qp.cell? (a62.add 1)=some (ab.v)/\
 ∃ae:SV,qp.cell? (a62.add 2)=some (ae.v)/\
 R (.returned (.tuple #[.agg #[.int .i64 ag,ab.v,ae.v],.bool false])) qp) (
 Br (decide (dp > 300)) (
 zQh p2 λa63=>
 ∃bm,gm.cell? (a63.add 0)=some (.int .i64 bm)/\
 ∃au:SV,gm.cell? (a63.add 1)=some (au.v)/\
 ∃aC:SV,gm.cell? (a63.add 2)=some (aC.v)/\
 zQh p4 λa64=>
 stA prog 35 a64 #[.int .i64 bm,au.v,aC.v] gm λo4=>
 zQc prog ds o4 λpE=>
 zQh p4 λvg=>
 ∃ag,pE.cell? (vg.add 0)=some (.int .i64 ag)/\
 ∃ab:SV,pE.cell? (vg.add 1)=some (ab.v)/\
 ∃ae:SV,pE.cell? (vg.add 2)=some (ae.v)/\
 R (.returned (.tuple #[.agg #[.int .i64 ag,ab.v,ae.v],.bool false])) pE) (
 zQh p2 λa68=>
 ∃i7:SV,gm.cell? (a68.add 2)=some (i7.v)/\
 Br (decide (dp > (i7.len:Int))) (
 zQh p2 λa69=>
 ∃aD:SV,gm.cell? (a69.add 2)=some (aD.v)/\
 ∃jX,gm.cell? ((⟨co,0,none⟩:Addr).add 0)=some (.bool jX)/\
 ∃cU:SV,gm.cell? ((⟨co,0,none⟩:Addr).add 1)=some (cU.v)/\
 alE (.cells #[.bool jX,cU.v] 67) gm λcv yQ=>
 ∃aE:SV,∃qT,(Builtin.append_ #[33,33] 33 #[aD.v,.slice (some ⟨cv,0,none⟩) 1 1]).run prog yQ=.ok (aE.v) qT/\
 zQh p2 λa72=>
 st1 (a72.add 2) (aE.v) qT λt7=>
 zYx R J1 p2 p4 n6 n8 l9 ds t7) (
 zQh p2 λa74=>
 ∃ow:SV,gm.cell? (a74.add 2)=some (ow.v)/\
 ∃jY,gm.cell? ((⟨co,0,none⟩:Addr).add 0)=some (.bool jY)/\
 ∃cV:SV,gm.cell? ((⟨co,0,none⟩:Addr).add 1)=some (cV.v)/\
 ∃a75,ow.a=some a75/\0<=(IntKind.i64.wrap (dp - 1))/\(IntKind.i64.wrap (dp - 1))<(ow.len:Int)/\
 stA prog 67 (a75.add ((IntKind.i64.wrap (dp - 1)).toNat * 2)) #[.bool jY,cV.v] gm λoY=>
 zYx R J1 p2 p4 n6 n8 l9 ds oY))))))
def F89_4 (R:Rt) (J1:(SV)->World->Prop) (p2 p4:Option Addr) (n6 n8:Int) (l9:SV) (ds:Ds) (w:World):Prop:=
 Br (decide ((l9.len:Int) > 0)) (
 F89_3 R J1 p2 p4 n6 n8 l9 ds w) (
 F89_1 R p2 p4 n8 ds w)
def F89_5(R:Rt)(p2 p4:Option Addr)(n6 n8:Int)(l9:SV)(ds:Ds)(w:World):Prop:=
 zQF (λ(J1:(SV)->World->Prop) (s:SV) (w:World)=>F89_4 R J1 p2 p4 n6 n8 s ds w) l9 w
def F89_7(R:Rt)(aw:Int)(ah ai l1:SV)(ds:Ds)(w:World):Prop:=
 alE (.cells #[.int .i64 aw,ah.v,ai.v] 35) w λr2 yg=>
 alE (.cells #[.int .i64 0,.slice none 0 0,.slice none 0 0] 35) yg λr4 w78=>
 ∃fe:SV,w78.cell? ((⟨r2,0,none⟩:Addr).add 1)=some (fe.v)/\
 Calls prog 128 #[fe.v] w78 λe qY=>
 ∃kH:Int,∃n16_1:Int,e=.returned (.tuple #[.int .i64 kH,.int .i64 n16_1])/\
 Br (decide ((l1.len:Int)<2)) (
 ∃bM,qY.cell? ((⟨r2,0,none⟩:Addr).add 0)=some (.int .i64 bM)/\
 ∃aQ:SV,qY.cell? ((⟨r2,0,none⟩:Addr).add 1)=some (aQ.v)/\
 ∃aR:SV,qY.cell? ((⟨r2,0,none⟩:Addr).add 2)=some (aR.v)/\
 stA prog 35 (⟨r4,0,none⟩:Addr) #[.int .i64 bM,aQ.v,aR.v] qY λyk=>
 zQc prog ds yk λyh=>
 ∃ag,yh.cell? ((⟨r4,0,none⟩:Addr).add 0)=some (.int .i64 ag)/\
 ∃ab:SV,yh.cell? ((⟨r4,0,none⟩:Addr).add 1)=some (ab.v)/\
 ∃ae:SV,yh.cell? ((⟨r4,0,none⟩:Addr).add 2)=some (ae.v)/\
 R (.returned (.tuple #[.agg #[.int .i64 ag,ab.v,ae.v],.bool false])) yh) (
 IntKind.i64=IntKind.i64/\((IntKind.i64.wrap (kH+2)):Int) ≠ 0/\
 Br (((IntKind.i64.wrap ((l1.len:Int) - 2)).tmod (IntKind.i64.wrap (kH+2))) != 0) (
 ∃bM,qY.cell? ((⟨r2,0,none⟩:Addr).add 0)=some (.int .i64 bM)/\
 ∃aQ:SV,qY.cell? ((⟨r2,0,none⟩:Addr).add 1)=some (aQ.v)/\
 ∃aR:SV,qY.cell? ((⟨r2,0,none⟩:Addr).add 2)=some (aR.v)/\
 stA prog 35 (⟨r4,0,none⟩:Addr) #[.int .i64 bM,aQ.v,aR.v] qY λw82=>
 zQc prog ds w82 λyi=>
 ∃ag,yi.cell? ((⟨r4,0,none⟩:Addr).add 0)=some (.int .i64 ag)/\
 ∃ab:SV,yi.cell? ((⟨r4,0,none⟩:Addr).add 1)=some (ab.v)/\
 ∃ae:SV,yi.cell? ((⟨r4,0,none⟩:Addr).add 2)=some (ae.v)/\
 R (.returned (.tuple #[.agg #[.int .i64 ag,ab.v,ae.v],.bool false])) yi) (
 0<=(2:Int)/\(2:Int).toNat<=l1.cap/\0<=(2:Int).toNat/\
 Calls prog 126 #[.slice (if l1.cap=0 then l1.a else l1.a.map (λx=>x.add (0 * 1))) ((2:Int).toNat - 0) (l1.cap - 0)] qY λe w84=>
 ∃rK:Int,e=.returned (.int .i64 rK)/\
 ∃oy,w84.cell? ((⟨r2,0,none⟩:Addr).add 0)=some (.int .i64 oy)/\
 ∃fq:SV,w84.cell? ((⟨r2,0,none⟩:Addr).add 1)=some (fq.v)/\
 ∃lJ:SV,w84.cell? ((⟨r2,0,none⟩:Addr).add 2)=some (lJ.v)/\
 Calls prog 56 #[.agg #[.int .i64 oy,fq.v,lJ.v]] w84 λe w85=>
 ∃eZ:Int,∃cg:SV,∃bC:SV,e=.returned (.agg #[.int .i64 eZ,cg.v,bC.v])/\
 stA prog 35 (⟨r2,0,none⟩:Addr) #[.int .i64 eZ,cg.v,bC.v] w85 λw86=>
 l1.len<=l1.cap/\0<=(2:Int)/\(2:Int).toNat<=l1.len/\
 F89_5 R (some (⟨r2,0,none⟩:Addr)) (some (⟨r4,0,none⟩:Addr)) kH rK ⟨(if l1.cap=(2:Int).toNat then l1.a else l1.a.map (λx=>x.add ((2:Int).toNat * 1))),(l1.len - (2:Int).toNat),(l1.cap - (2:Int).toNat)⟩ ds w86))
theorem F89_p:Pl prog f89 [aS 0 [.int .i64,.slice,.slice],lS 1] F89_7:=λR=>
 pc 7 (rest [pS 2,pS 4,iS 6,iS 8,lS 9] (F89_5 R) (bk 0 (rest [pS 2,pS 4,iS 8] (F89_1 R) lf) (lp [lS 9] [pS 2,pS 4,iS 6,iS 8,lS 9] (F89_4 R) zXN λJ1=>pc 2 (rest [pS 2,pS 4,iS 6,iS 8,lS 9] (F89_3 R J1) (pc 1 (rest [pS 2,pS 4,iS 6,iS 8,lS 9] (zYx R J1) lf))))))
theorem xXq (aw:Int) (ah ai l1:SV) (w:World) (R:Rt) (h:F89_7 R aw ah ai l1 [] w):Calls prog 89 #[.agg #[.int .i64 aw,ah.v,ai.v],l1.v] w R:=
 plC F89_p func89 h
end Go.Proofs.YtaeecpjhfmcliaaGreatDoor
/- Shallow texts of functions, printed by program, each checked by the kernel against the loaded code. No condition. -/
namespace Go.Proofs.YtaeecpjhfmcliaaGreatDoor
open Go.Sh Tryz
def F71_1(R:Rt)(p2 p3:Option Addr)(ds:Ds)(w:World):Prop:=
 zQh p3 λa1=>
 ∃cO,w.cell? (a1.add 0)=some (.int .i64 cO)/\
 ∃cw:SV,w.cell? (a1.add 1)=some (cw.v)/\
 ∃eY:SV,w.cell? (a1.add 2)=some (eY.v)/\
 zQh p2 λa2=>
 stA prog 35 a2 #[.int .i64 cO,cw.v,eY.v] w λw3=>
 zQc prog ds w3 λw4=>
 zQh p2 λa5=>
 ∃ag,w4.cell? (a5.add 0)=some (.int .i64 ag)/\
 ∃ab:SV,w4.cell? (a5.add 1)=some (ab.v)/\
 ∃ae:SV,w4.cell? (a5.add 2)=some (ae.v)/\
 R (.returned (.agg #[.int .i64 ag,ab.v,ae.v])) w4
def F71_2 (R:Rt) (J1:(Int)->World->Prop) (p1 p2 p3:Option Addr) (n4:Int) (ds:Ds) (w:World):Prop:=
 zQh p1 λa6=>
 ∃cz:SV,w.cell? (a6.add 2)=some (cz.v)/\
 Br (decide (n4<(cz.len:Int))) (
 dwE w λw7=>
 ∃S1:World->Prop,S1 w7/\
 zQh p3 λa8=>
 ∃dg:SV,(∀w',S1 w'->w'.cell? (a8.add 2)=some (dg.v))/\
 zQh p1 λa9=>
 ∃cH:SV,(∀w',S1 w'->w'.cell? (a9.add 2)=some (cH.v))/\
 ∃eu,cH.a=some eu/\0<=n4/\n4<(cH.len:Int)/\
 ∃oz,(∀w',S1 w'->w'.cell? ((eu.add (n4.toNat * 2)).add 0)=some (.bool oz))/\
 ∃bE:SV,(∀w',S1 w'->w'.cell? ((eu.add (n4.toNat * 2)).add 1)=some (bE.v))/\
 Calls prog 102 #[.agg #[.bool oz,bE.v]] w7 λe aV=>
 ∃vA:Bool,∃lK:SV,e=.returned (.agg #[.bool vA,lK.v])/\
 S1 aV/\
 alE (.cells #[.bool vA,lK.v] 67) aV λr26 aO=>
 S1 aO/\
 ∃bV:SV,∃aI,(Builtin.append_ #[33,33] 33 #[dg.v,.slice (some ⟨r26,0,none⟩) 1 1]).run prog aO=.ok (bV.v) aI/\
 zQh p3 λga=>
 st1 (ga.add 2) (bV.v) aI λbr=>
 J1 (IntKind.i64.wrap (n4+1)) br) (
 F71_1 R p2 p3 ds w)
def xJt(R:Rt)(p1 p2 p3:Option Addr)(n4:Int)(ds:Ds)(w:World):Prop:=
 zQF (λ(J1:(Int)->World->Prop) (s:Int) (w:World)=>F71_2 R J1 p1 p2 p3 s ds w) n4 w
def F71_5(R:Rt)(aw:Int)(ah ai:SV)(ds:Ds)(w:World):Prop:=
 alE (.cells #[.int .i64 aw,ah.v,ai.v] 35) w λr1 bI=>
 alE (.cells #[.int .i64 0,.slice none 0 0,.slice none 0 0] 35) bI λr2 bJ=>
 dwE bJ λbR=>
 ∃S2:World->Prop,S2 bR/\
 ∃n6,(∀w',S2 w'->w'.cell? (⟨r1,0,none⟩:Addr)=some (.int .i64 n6))/\
 ∃l8:SV,(∀w',S2 w'->w'.cell? ((⟨r1,0,none⟩:Addr).add 1)=some (l8.v))/\
 (
 ∃l9:SV,∃cK,(Builtin.append_ #[32,32] 32 #[.slice none 0 0,l8.v]).run prog bR=.ok (l9.v) cK/\
 S2 cK/\
 alE (.cells #[.int .i64 0,.slice none 0 0,.slice none 0 0] 35) cK λr3 cj=>
 S2 cj/\
 stA prog 35 (⟨r3,0,none⟩:Addr) #[.int .i64 n6,l9.v,.slice none 0 0] cj λcr=>
 xJt R (some (⟨r1,0,none⟩:Addr)) (some (⟨r2,0,none⟩:Addr)) (some (⟨r3,0,none⟩:Addr)) 0 ds cr)/\(
 alE (.cells #[.int .i64 0,.slice none 0 0,.slice none 0 0] 35) bR λr3 dX=>
 S2 dX/\
 ∃l9:SV,∃dQ,(Builtin.append_ #[32,32] 32 #[.slice none 0 0,l8.v]).run prog dX=.ok (l9.v) dQ/\
 S2 dQ/\
 stA prog 35 (⟨r3,0,none⟩:Addr) #[.int .i64 n6,l9.v,.slice none 0 0] dQ λdx=>
 xJt R (some (⟨r1,0,none⟩:Addr)) (some (⟨r2,0,none⟩:Addr)) (some (⟨r3,0,none⟩:Addr)) 0 ds dx)
theorem F71_p:Pl prog f71 [aS 0 [.int .i64,.slice,.slice]] F71_5:=λR=>
 pc 3 (rest [pS 1,pS 2,pS 3,iS 4] (xJt R) (bk 0 (rest [pS 2,pS 3] (F71_1 R) lf) (lp [iS 4] [pS 1,pS 2,pS 3,iS 4] (F71_2 R) zXN λJ1=>lf)))
theorem xXy (aw:Int) (ah ai:SV) (w:World) (R:Rt) (h:F71_5 R aw ah ai [] w):Calls prog 71 #[.agg #[.int .i64 aw,ah.v,ai.v]] w R:=
 plC F71_p func71 h
def xWu(R:Rt)(ni:Bool)(ah:SV)(ds:Ds)(w:World):Prop:=
 alE (.cells #[.bool ni,ah.v] 67) w λr1 w1=>
 alE (.cells #[.bool false,.slice none 0 0] 67) w1 λr2 w2=>
 dwE w2 λw3=>
 ∃S1:World->Prop,S1 w3/\
 ∃b4,(∀w',S1 w'->w'.cell? (⟨r1,0,none⟩:Addr)=some (.bool b4))/\
 ∃l6:SV,(∀w',S1 w'->w'.cell? ((⟨r1,0,none⟩:Addr).add 1)=some (l6.v))/\
 ∃l7:SV,∃w4,(Builtin.append_ #[38,38] 38 #[.slice none 0 0,l6.v]).run prog w3=.ok (l7.v) w4/\
 S1 w4/\
 stA prog 67 (⟨r2,0,none⟩:Addr) #[.bool b4,l7.v] w4 λw5=>
 zQc prog ds w5 λw6=>
 ∃bN,w6.cell? ((⟨r2,0,none⟩:Addr).add 0)=some (.bool bN)/\
 ∃ab:SV,w6.cell? ((⟨r2,0,none⟩:Addr).add 1)=some (ab.v)/\
 R (.returned (.agg #[.bool bN,ab.v])) w6
theorem F102_p:Pl prog f102 [aS 0 [.bool,.slice]] xWu:=λR=>
 lf
theorem yWz (ni:Bool) (ah:SV) (w:World) (R:Rt) (h:xWu R ni ah [] w):Calls prog 102 #[.agg #[.bool ni,ah.v]] w R:=
 plC F102_p func102 h
end Go.Proofs.YtaeecpjhfmcliaaGreatDoor
/- Shallow texts of functions, printed by program, each checked by the kernel against the loaded code. No condition. -/
namespace Go.Proofs.YtaeecpjhfmcliaaGreatDoor
open Go.Sh Tryz
def F95_1(R:Rt)(p0:Option Addr)(ds:Ds)(w:World):Prop:=
 zQh p0 λa1=>
 Calls prog 137 #[.pointer (some a1)] w λe w2=>
 e=.returned (.tuple #[])/\
 zQc prog ds w2 λw3=>
 R (.returned (.tuple #[])) w3
theorem F95_p:Pl prog f95 [pS 0] F95_1:=λR=>
 lf
theorem xQg (p0:Option Addr) (w:World) (R:Rt) (h:F95_1 R p0 [] w):Calls prog 95 #[.pointer p0] w R:=
 plC F95_p func95 h
def F96_1(R:Rt)(p0:Option Addr)(ds:Ds)(w:World):Prop:=
 zQh p0 λa1=>
 Calls prog 138 #[.pointer (some a1)] w λe w2=>
 e=.returned (.tuple #[])/\
 zQc prog ds w2 λw3=>
 R (.returned (.tuple #[])) w3
theorem F96_p:Pl prog f96 [pS 0] F96_1:=λR=>
 lf
theorem yYb (p0:Option Addr) (w:World) (R:Rt) (u:FrameMode) (h:F96_1 R p0 [] w):CallsD prog 96 #[.pointer p0] u w λe u' w'=>u'=u/\R e w':=
 plD F96_p func96 u h
def xWc(R:Rt)(p0:Option Addr)(ds:Ds)(w:World):Prop:=
 ∃w1,(callFunc 169 #[]).run prog w=.ok (.value (.tuple #[])) w1/\
 zQh p0 λa2=>
 ∃b6:Bool,∃w3,(callFunc 170 #[.pointer (some a2),.int .i32 0,.int .i32 1]).run prog w1=.ok (.value (.bool b6)) w3/\
 Br b6 (
 ∃w4,(callFunc 171 #[]).run prog w3=.ok (.value (.tuple #[])) w4/\
 ∃v9:Value,∃w5,(convert 197 201 (.pointer p0)).run prog w4=.ok (v9) w5/\
 ∃w6,(callFunc 172 #[v9]).run prog w5=.ok (.value (.tuple #[])) w6/\
 zQc prog ds w6 λw7=>
 R (.returned (.tuple #[])) w7) (
 Calls prog 173 #[.pointer p0] w3 λe w8=>
 e=.returned (.tuple #[])/\
 zQc prog ds w8 λw9=>
 R (.returned (.tuple #[])) w9)
theorem F137_p:Pl prog f137 [pS 0] xWc:=λR=>
 lf
theorem yVd (p0:Option Addr) (w:World) (R:Rt) (h:xWc R p0 [] w):Calls prog 137 #[.pointer p0] w R:=
 plC F137_p func137 h
def xKs(R:Rt)(p0:Option Addr)(ds:Ds)(w:World):Prop:=
 zQh p0 λa1=>
 ∃n6,w.cell? a1=some (.int .i32 n6)/\
 ∃v8:Value,∃w2,(convert 197 201 (.pointer p0)).run prog w=.ok (v8) w2/\
 ∃w3,(callFunc 174 #[v8]).run prog w2=.ok (.value (.tuple #[])) w3/\
 ∃w4,(callFunc 169 #[]).run prog w3=.ok (.value (.tuple #[])) w4/\
 zQh p0 λa5=>
 ∃ng:Int,∃w6,(callFunc 175 #[.pointer (some a5),.int .i32 (-1)]).run prog w4=.ok (.value (.int .i32 ng)) w6/\
 Br (ng != 0) (
 Calls prog 176 #[.pointer p0,.int .i32 ng] w6 λe w7=>
 e=.returned (.tuple #[])/\
 ∃w8,(callFunc 171 #[]).run prog w7=.ok (.value (.tuple #[])) w8/\
 zQc prog ds w8 λw9=>
 R (.returned (.tuple #[])) w9) (
 ∃aN,(callFunc 171 #[]).run prog w6=.ok (.value (.tuple #[])) aN/\
 zQc prog ds aN λaV=>
 R (.returned (.tuple #[])) aV)
theorem F138_p:Pl prog f138 [pS 0] xKs:=λR=>
 lf
theorem yWe (p0:Option Addr) (w:World) (R:Rt) (h:xKs R p0 [] w):Calls prog 138 #[.pointer p0] w R:=
 plC F138_p func138 h
def F55_1(R:Rt)(p0:Option Addr)(ds:Ds)(w:World):Prop:=
 ∃b5:Bool,∃w1,(eqS .eql 24 (.tmp 4) (.const (.pointer none)) (.pointer p0) (.pointer none)).run prog w=.ok (.bool b5) w1/\
 Br b5 (
 zQc prog ds w1 λw2=>
 R (.returned (.tuple #[.func (.func 94) #[] #[],.int .i64 9])) w2) (
 zQh p0 λa3=>
 Calls prog 95 #[.pointer (some a3)] w1 λe w4=>
 e=.returned (.tuple #[])/\
 zQh p0 λa5=>
 zQc prog ds w4 λw6=>
 R (.returned (.tuple #[.func (.func 96) #[.pointer (some a5)] #[],.int .i64 0])) w6)
theorem F55_p:Pl prog f55 [pS 0] F55_1:=λR=>
 lf
theorem xQ5 (p0:Option Addr) (w:World) (R:Rt) (h:F55_1 R p0 [] w):Calls prog 55 #[.pointer p0] w R:=
 plC F55_p func55 h
end Go.Proofs.YtaeecpjhfmcliaaGreatDoor
/- Shallow texts of functions, printed by program, each checked by the kernel against the loaded code. No condition. -/
namespace Go.Proofs.YtaeecpjhfmcliaaGreatDoor
open Go.Sh Tryz
def F11_1(R:Rt)(l6:SV)(p7:Option Addr)(ds:Ds)(w:World):Prop:=
 zQh p7 λa1=>
 ∃gv,w.cell? (a1.add 0)=some (.int .i64 gv)/\
 ∃cW:SV,w.cell? (a1.add 1)=some (cW.v)/\
 ∃cX:SV,w.cell? (a1.add 2)=some (cX.v)/\
 Calls prog 50 #[.agg #[.int .i64 gv,cW.v,cX.v],l6.v] w λe w2=>
 ∃p39:Option Addr,e=.returned (.pointer p39)/\
 zQc prog ds w2 λw3=>
 R (.returned (.tuple #[.pointer p39,.int .i64 0])) w3
def F11_2 (R:Rt) (J1:(SV × Int)->World->Prop) (l6:SV) (p7:Option Addr) (bV:SV) (kO o0:Int) (ds:Ds) (w:World):Prop:=
 Br (decide (o0<kO)) (
 ∃a4,bV.a=some a4/\0<=o0/\o0<(bV.len:Int)/\
 ∃jR,w.cell? ((a4.add (o0.toNat * 3)).add 0)=some (.int .i64 jR)/\
 ∃nU,w.cell? ((a4.add (o0.toNat * 3)).add 1)=some (.int .i64 nU)/\
 ∃fN:SV,w.cell? ((a4.add (o0.toNat * 3)).add 2)=some (fN.v)/\
 alE (.cells #[.int .i64 0,.int .i64 0,.slice none 0 0] 90) w λnC w5=>
 stA prog 90 (⟨nC,0,none⟩:Addr) #[.int .i64 jR,.int .i64 nU,fN.v] w5 λw6=>
 ∃vB,w6.cell? ((⟨nC,0,none⟩:Addr).add 0)=some (.int .i64 vB)/\
 ∃og,w6.cell? ((⟨nC,0,none⟩:Addr).add 1)=some (.int .i64 og)/\
 ∃lL:SV,w6.cell? ((⟨nC,0,none⟩:Addr).add 2)=some (lL.v)/\
 Calls prog 49 #[l6.v,.agg #[.int .i64 vB,.int .i64 og,lL.v]] w6 λe w7=>
 ∃iz:SV,e=.returned (iz.v)/\
 J1 (iz,(IntKind.i64.wrap (o0+1))) w7) (
 F11_1 R l6 p7 ds w)
def F11_3(R:Rt)(l6:SV)(p7:Option Addr)(bV:SV)(kO o0:Int)(ds:Ds)(w:World):Prop:=
 zQF (λ(J1:(SV × Int)->World->Prop) (s:SV × Int) (w:World)=>F11_2 R J1 s.1 p7 bV kO s.2 ds w) (l6,o0) w
def F11_5(R:Rt)(l0 l1:SV)(ds:Ds)(w:World):Prop:=
 alE (.cells #[l0.v,l1.v] 22) w λr15 w8=>
 Calls prog 46 #[.slice (some ⟨r15,0,none⟩) 2 2] w8 λe w9=>
 ∃dT:SV,e=.returned (dT.v)/\
 Calls prog 47 #[dT.v] w9 λe aN=>
 ∃iP:Int,∃cC:SV,∃cD:SV,∃bT:Int,∃b19_2:Bool,∃gA:Bool,e=.returned (.tuple #[.agg #[.int .i64 iP,cC.v,cD.v],.int .i64 bT,.bool b19_2,.bool gA])/\
 alE (.cells #[.int .i64 0,.slice none 0 0,.slice none 0 0] 35) aN λr7 aV=>
 stA prog 35 (⟨r7,0,none⟩:Addr) #[.int .i64 iP,cC.v,cD.v] aV λaO=>
 Br (!gA) (
 zQc prog ds aO λaI=>
 R (.returned (.tuple #[.pointer none,.int .i64 11])) aI) (
 Calls prog 48 #[dT.v] aO λe bt=>
 ∃bV:SV,e=.returned (bV.v)/\
 F11_3 R dT (some (⟨r7,0,none⟩:Addr)) bV (bV.len:Int) 0 ds bt)
theorem F11_p:Pl prog f11 [lS 0,lS 1] F11_5:=λR=>
 pc 6 (rest [lS 6,pS 7,lS 27,iS 28,iS 29] (F11_3 R) (bk 0 (rest [lS 6,pS 7] (F11_1 R) lf) (lp [lS 6,iS 29] [lS 6,pS 7,lS 27,iS 28,iS 29] (F11_2 R) zXN λJ1=>lf)))
theorem yYX (l0 l1:SV) (w:World) (R:Rt) (h:F11_5 R l0 l1 [] w):Calls prog 11 #[l0.v,l1.v] w R:=
 plC F11_p func11 h
def F12_1(R:Rt)(bW:SV)(ds:Ds)(w:World):Prop:=
 zQc prog ds w λw1=>
 R (.returned (.tuple #[bW.v,.int .i64 0])) w1
def F12_2 (R:Rt) (J1:(SV × SV × Int)->World->Prop) (l6 bW gD:SV) (nD kV:Int) (ds:Ds) (w:World):Prop:=
 Br (decide (kV<nD)) (
 ∃a2,gD.a=some a2/\0<=kV/\kV<(gD.len:Int)/\
 ∃eZ,w.cell? ((a2.add (kV.toNat * 3)).add 0)=some (.int .i64 eZ)/\
 ∃nM,w.cell? ((a2.add (kV.toNat * 3)).add 1)=some (.int .i64 nM)/\
 ∃bC:SV,w.cell? ((a2.add (kV.toNat * 3)).add 2)=some (bC.v)/\
 alE (.cells #[.int .i64 0,.int .i64 0,.slice none 0 0] 90) w λkT w3=>
 stA prog 90 (⟨kT,0,none⟩:Addr) #[.int .i64 eZ,.int .i64 nM,bC.v] w3 λw4=>
 ∃vC,w4.cell? ((⟨kT,0,none⟩:Addr).add 0)=some (.int .i64 vC)/\
 ∃vD,w4.cell? ((⟨kT,0,none⟩:Addr).add 1)=some (.int .i64 vD)/\
 ∃lM:SV,w4.cell? ((⟨kT,0,none⟩:Addr).add 2)=some (lM.v)/\
 Calls prog 49 #[l6.v,.agg #[.int .i64 vC,.int .i64 vD,lM.v]] w4 λe w5=>
 ∃gk:SV,e=.returned (gk.v)/\
 Calls prog 51 #[gk.v] w5 λe w6=>
 ∃lN:SV,∃lO:SV,e=.returned (.agg #[lN.v,lO.v])/\
 alE (.cells #[lN.v,lO.v] 63) w6 λr43 w7=>
 ∃rO:SV,∃w8,(Builtin.append_ #[28,28] 28 #[bW.v,.slice (some ⟨r43,0,none⟩) 1 1]).run prog w7=.ok (rO.v) w8/\
 J1 (gk,rO,(IntKind.i64.wrap (kV+1))) w8) (
 F12_1 R bW ds w)
def F12_3(R:Rt)(l6 bW gD:SV)(nD kV:Int)(ds:Ds)(w:World):Prop:=
 zQF (λ(J1:(SV × SV × Int)->World->Prop) (s:SV × SV × Int) (w:World)=>F12_2 R J1 s.1 s.2.1 gD nD s.2.2 ds w) (l6,bW,kV) w
def F12_5(R:Rt)(l0 l1:SV)(ds:Ds)(w:World):Prop:=
 alE (.cells #[l0.v,l1.v] 22) w λxv w9=>
 Calls prog 46 #[.slice (some ⟨xv,0,none⟩) 2 2] w9 λe aN=>
 ∃dk:SV,e=.returned (dk.v)/\
 Calls prog 47 #[dk.v] aN λe aV=>
 ∃pV:Int,∃ib:SV,∃ic:SV,∃dW:Int,∃b20_2:Bool,∃nZ:Bool,e=.returned (.tuple #[.agg #[.int .i64 pV,ib.v,ic.v],.int .i64 dW,.bool b20_2,.bool nZ])/\
 alE (.cells #[.int .i64 0,.slice none 0 0,.slice none 0 0] 35) aV λr7 aO=>
 stA prog 35 (⟨r7,0,none⟩:Addr) #[.int .i64 pV,ib.v,ic.v] aO λaI=>
 Br (!nZ) (
 zQc prog ds aI λbt=>
 R (.returned (.tuple #[.slice none 0 0,.int .i64 11])) bt) (
 Calls prog 51 #[dk.v] aI λe br=>
 ∃fM:SV,∃aP:SV,e=.returned (.agg #[fM.v,aP.v])/\
 alE (.cells #[fM.v,aP.v] 63) br λr29 bI=>
 Calls prog 48 #[dk.v] bI λe bJ=>
 ∃gD:SV,e=.returned (gD.v)/\
 F12_3 R dk ⟨(some ⟨r29,0,none⟩),1,1⟩ gD (gD.len:Int) 0 ds bJ)
theorem F12_p:Pl prog f12 [lS 0,lS 1] F12_5:=λR=>
 pc 7 (rest [lS 6,lS 11,lS 31,iS 32,iS 33] (F12_3 R) (bk 0 (rest [lS 11] (F12_1 R) lf) (lp [lS 6,lS 11,iS 33] [lS 6,lS 11,lS 31,iS 32,iS 33] (F12_2 R) zXN λJ1=>lf)))
theorem xXw (l0 l1:SV) (w:World) (R:Rt) (h:F12_5 R l0 l1 [] w):Calls prog 12 #[l0.v,l1.v] w R:=
 plC F12_p func12 h
def F50_1(R:Rt)(aw:Int)(ah ai l1:SV)(ds:Ds)(w:World):Prop:=
 alE (.cells #[.int .i64 aw,ah.v,ai.v] 35) w λr2 w1=>
 dwE w1 λw2=>
 ∃S1:World->Prop,S1 w2/\
 ∃iO,(∀w',S1 w'->w'.cell? ((⟨r2,0,none⟩:Addr).add 0)=some (.int .i64 iO))/\
 ∃dz:SV,(∀w',S1 w'->w'.cell? ((⟨r2,0,none⟩:Addr).add 1)=some (dz.v))/\
 ∃cA:SV,(∀w',S1 w'->w'.cell? ((⟨r2,0,none⟩:Addr).add 2)=some (cA.v))/\
 ∃eD,(∀w',S1 w'->w'.cell? ((⟨r2,0,none⟩:Addr).add 0)=some (.int .i64 eD))/\
 ∃cB:SV,(∀w',S1 w'->w'.cell? ((⟨r2,0,none⟩:Addr).add 1)=some (cB.v))/\
 ∃bX:SV,(∀w',S1 w'->w'.cell? ((⟨r2,0,none⟩:Addr).add 2)=some (bX.v))/\
 Calls prog 56 #[.agg #[.int .i64 iO,dz.v,cA.v]] w2 λe w3=>
 ∃oa:Int,∃fv:SV,∃fy:SV,e=.returned (.agg #[.int .i64 oa,fv.v,fy.v])/\
 S1 w3/\
 Calls prog 56 #[.agg #[.int .i64 eD,cB.v,bX.v]] w3 λe w4=>
 ∃rG:Int,∃qy:SV,∃qz:SV,e=.returned (.agg #[.int .i64 rG,qy.v,qz.v])/\
 alE (.cells #[.int .i64 rG,qy.v,qz.v] 35) w4 λr9 w5=>
 alE (.cells #[.int .i32 0,.int .u32 0,.int .i64 oa,fv.v,fy.v,.slice none 0 0,.slice (some ⟨r9,0,none⟩) 1 1,l1.v,l1.v,.slice none 0 0,.slice none 0 0] 108) w5 λkT w6=>
 zQc prog ds w6 λw7=>
 R (.returned (.pointer (some (⟨kT,0,none⟩:Addr)))) w7
theorem F50_p:Pl prog f50 [aS 0 [.int .i64,.slice,.slice],lS 1] F50_1:=λR=>
 lf
theorem xQX (aw:Int) (ah ai l1:SV) (w:World) (R:Rt) (h:F50_1 R aw ah ai l1 [] w):Calls prog 50 #[.agg #[.int .i64 aw,ah.v,ai.v],l1.v] w R:=
 plC F50_p func50 h
end Go.Proofs.YtaeecpjhfmcliaaGreatDoor
/- Shallow texts of functions, printed by program, each checked by the kernel against the loaded code. No condition. -/
namespace Go.Proofs.YtaeecpjhfmcliaaGreatDoor
open Go.Sh Tryz
def F43_1(R:Rt)(aw:Int)(ah ai:SV)(ds:Ds)(w:World):Prop:=
 alE (.cells #[.int .i64 aw,ah.v,ai.v] 35) w λr1 w1=>
 ∃eD,w1.cell? ((⟨r1,0,none⟩:Addr).add 0)=some (.int .i64 eD)/\
 ∃cB:SV,w1.cell? ((⟨r1,0,none⟩:Addr).add 1)=some (cB.v)/\
 ∃bX:SV,w1.cell? ((⟨r1,0,none⟩:Addr).add 2)=some (bX.v)/\
 Calls prog 86 #[.agg #[.int .i64 eD,cB.v,bX.v]] w1 λe w2=>
 ∃qA:SV,∃lj:Int,e=.returned (.tuple #[qA.v,.int .i64 lj])/\
 Br (lj != 0) (
 zQc prog ds w2 λw3=>
 R (.returned (.tuple #[.pointer none,.int .i64 lj])) w3) (
 ∃oc,w2.cell? ((⟨r1,0,none⟩:Addr).add 0)=some (.int .i64 oc)/\
 ∃cP:SV,w2.cell? ((⟨r1,0,none⟩:Addr).add 1)=some (cP.v)/\
 ∃fC:SV,w2.cell? ((⟨r1,0,none⟩:Addr).add 2)=some (fC.v)/\
 alE (.cells #[qA.v,.slice none 0 0] 22) w2 λxv w4=>
 Calls prog 50 #[.agg #[.int .i64 oc,cP.v,fC.v],.slice (some ⟨xv,0,none⟩) 2 2] w4 λe w5=>
 ∃p17:Option Addr,e=.returned (.pointer p17)/\
 zQc prog ds w5 λw6=>
 R (.returned (.tuple #[.pointer p17,.int .i64 0])) w6)
theorem F43_p:Pl prog f43 [aS 0 [.int .i64,.slice,.slice]] F43_1:=λR=>
 lf
theorem xZi (aw:Int) (ah ai:SV) (w:World) (R:Rt) (h:F43_1 R aw ah ai [] w):Calls prog 43 #[.agg #[.int .i64 aw,ah.v,ai.v]] w R:=
 plC F43_p func43 h
end Go.Proofs.YtaeecpjhfmcliaaGreatDoor
/- Shallow texts of functions, printed by program, each checked by the kernel against the loaded code. No condition. -/
namespace Go.Proofs.YtaeecpjhfmcliaaGreatDoor
open Go.Sh Tryz
def F14_1(R:Rt)(p0:Option Addr)(ds:Ds)(w:World):Prop:=
 alE (.cells #[.int .i64 0,.slice none 0 0,.slice none 0 0] 35) w λr2 w1=>
 Calls prog 55 #[.pointer p0] w1 λe w2=>
 ∃kI:Value,∃eE:Int,e=.returned (.tuple #[kI,.int .i64 eE])/\
 fnE kI λfx firstx capx=>
 Br (eE != 0) (
 stA prog 35 (⟨r2,0,none⟩:Addr) #[.int .i64 0,.slice none 0 0,.slice none 0 0] w2 λw3=>
 zQc prog ({ target:=.fn (.func fx) capx,args:=(firstx.toList ++ ([]:List Value)).toArray } :: ds) w3 λw4=>
 ∃ag,w4.cell? ((⟨r2,0,none⟩:Addr).add 0)=some (.int .i64 ag)/\
 ∃ab:SV,w4.cell? ((⟨r2,0,none⟩:Addr).add 1)=some (ab.v)/\
 ∃ae:SV,w4.cell? ((⟨r2,0,none⟩:Addr).add 2)=some (ae.v)/\
 R (.returned (.agg #[.int .i64 ag,ab.v,ae.v])) w4) (
 zQh p0 λa5=>
 ∃gx,w2.cell? ((a5.add 2).add 0)=some (.int .i64 gx)/\
 ∃cY:SV,w2.cell? ((a5.add 2).add 1)=some (cY.v)/\
 ∃cZ:SV,w2.cell? ((a5.add 2).add 2)=some (cZ.v)/\
 Calls prog 56 #[.agg #[.int .i64 gx,cY.v,cZ.v]] w2 λe w6=>
 ∃gw:Int,∃bZ:SV,∃c8:SV,e=.returned (.agg #[.int .i64 gw,bZ.v,c8.v])/\
 stA prog 35 (⟨r2,0,none⟩:Addr) #[.int .i64 gw,bZ.v,c8.v] w6 λw7=>
 zQc prog ({ target:=.fn (.func fx) capx,args:=(firstx.toList ++ ([]:List Value)).toArray } :: ds) w7 λw8=>
 ∃ag,w8.cell? ((⟨r2,0,none⟩:Addr).add 0)=some (.int .i64 ag)/\
 ∃ab:SV,w8.cell? ((⟨r2,0,none⟩:Addr).add 1)=some (ab.v)/\
 ∃ae:SV,w8.cell? ((⟨r2,0,none⟩:Addr).add 2)=some (ae.v)/\
 R (.returned (.agg #[.int .i64 ag,ab.v,ae.v])) w8)
theorem F14_p:Pl prog f14 [pS 0] F14_1:=λR=>
 lf
theorem xXS (p0:Option Addr) (w:World) (R:Rt) (h:F14_1 R p0 [] w):Calls prog 14 #[.pointer p0] w R:=
 plC F14_p func14 h
def F27_1(R:Rt)(p0:Option Addr)(n1:Int)(ds:Ds)(w:World):Prop:=
 alE (.cells #[.int .i64 0,.slice none 0 0,.slice none 0 0] 35) w λr4 w1=>
 Calls prog 55 #[.pointer p0] w1 λe w2=>
 ∃vE:Value,∃jy:Int,e=.returned (.tuple #[vE,.int .i64 jy])/\
 fnE vE λfx firstx capx=>
 Br (jy != 0) (
 stA prog 35 (⟨r4,0,none⟩:Addr) #[.int .i64 0,.slice none 0 0,.slice none 0 0] w2 λw3=>
 zQc prog ({ target:=.fn (.func fx) capx,args:=(firstx.toList ++ ([]:List Value)).toArray } :: ds) w3 λw4=>
 ∃ag,w4.cell? ((⟨r4,0,none⟩:Addr).add 0)=some (.int .i64 ag)/\
 ∃ab:SV,w4.cell? ((⟨r4,0,none⟩:Addr).add 1)=some (ab.v)/\
 ∃ae:SV,w4.cell? ((⟨r4,0,none⟩:Addr).add 2)=some (ae.v)/\
 R (.returned (.tuple #[.agg #[.int .i64 ag,ab.v,ae.v],.int .i64 jy])) w4) (
 Br (decide (n1<0)) (
 stA prog 35 (⟨r4,0,none⟩:Addr) #[.int .i64 0,.slice none 0 0,.slice none 0 0] w2 λw5=>
 zQc prog ({ target:=.fn (.func fx) capx,args:=(firstx.toList ++ ([]:List Value)).toArray } :: ds) w5 λw6=>
 ∃ag,w6.cell? ((⟨r4,0,none⟩:Addr).add 0)=some (.int .i64 ag)/\
 ∃ab:SV,w6.cell? ((⟨r4,0,none⟩:Addr).add 1)=some (ab.v)/\
 ∃ae:SV,w6.cell? ((⟨r4,0,none⟩:Addr).add 2)=some (ae.v)/\
 R (.returned (.tuple #[.agg #[.int .i64 ag,ab.v,ae.v],.int .i64 1])) w6) (
 zQh p0 λa7=>
 ∃dZ:SV,w2.cell? (a7.add 6)=some (dZ.v)/\
 Br (decide (n1 >= (dZ.len:Int))) (
 stA prog 35 (⟨r4,0,none⟩:Addr) #[.int .i64 0,.slice none 0 0,.slice none 0 0] w2 λw8=>
 zQc prog ({ target:=.fn (.func fx) capx,args:=(firstx.toList ++ ([]:List Value)).toArray } :: ds) w8 λw9=>
 ∃ag,w9.cell? ((⟨r4,0,none⟩:Addr).add 0)=some (.int .i64 ag)/\
 ∃ab:SV,w9.cell? ((⟨r4,0,none⟩:Addr).add 1)=some (ab.v)/\
 ∃ae:SV,w9.cell? ((⟨r4,0,none⟩:Addr).add 2)=some (ae.v)/\
 R (.returned (.tuple #[.agg #[.int .i64 ag,ab.v,ae.v],.int .i64 1])) w9) (
 zQh p0 λeu=>
 ∃iK:SV,w2.cell? (eu.add 6)=some (iK.v)/\
 ∃dR,iK.a=some dR/\0<=n1/\n1<(iK.len:Int)/\
 ∃eZ,w2.cell? ((dR.add (n1.toNat * 3)).add 0)=some (.int .i64 eZ)/\
 ∃cg:SV,w2.cell? ((dR.add (n1.toNat * 3)).add 1)=some (cg.v)/\
 ∃bC:SV,w2.cell? ((dR.add (n1.toNat * 3)).add 2)=some (bC.v)/\
 Calls prog 56 #[.agg #[.int .i64 eZ,cg.v,bC.v]] w2 λe aO=>
 ∃gv:Int,∃cW:SV,∃cX:SV,e=.returned (.agg #[.int .i64 gv,cW.v,cX.v])/\
 stA prog 35 (⟨r4,0,none⟩:Addr) #[.int .i64 gv,cW.v,cX.v] aO λaI=>
 zQc prog ({ target:=.fn (.func fx) capx,args:=(firstx.toList ++ ([]:List Value)).toArray } :: ds) aI λbt=>
 ∃ag,bt.cell? ((⟨r4,0,none⟩:Addr).add 0)=some (.int .i64 ag)/\
 ∃ab:SV,bt.cell? ((⟨r4,0,none⟩:Addr).add 1)=some (ab.v)/\
 ∃ae:SV,bt.cell? ((⟨r4,0,none⟩:Addr).add 2)=some (ae.v)/\
 R (.returned (.tuple #[.agg #[.int .i64 ag,ab.v,ae.v],.int .i64 0])) bt)))
theorem F27_p:Pl prog f27 [pS 0,iS 1] F27_1:=λR=>
 lf
theorem xQt (p0:Option Addr) (n1:Int) (w:World) (R:Rt) (h:F27_1 R p0 n1 [] w):Calls prog 27 #[.pointer p0,.int .i64 n1] w R:=
 plC F27_p func27 h
def F22_1(R:Rt)(p0:Option Addr)(ds:Ds)(w:World):Prop:=
 Calls prog 55 #[.pointer p0] w λe w1=>
 ∃kI:Value,∃eE:Int,e=.returned (.tuple #[kI,.int .i64 eE])/\
 fnE kI λfx firstx capx=>
 Br (eE != 0) (
 zQc prog ({ target:=.fn (.func fx) capx,args:=(firstx.toList ++ ([]:List Value)).toArray } :: ds) w1 λw2=>
 R (.returned (.int .i64 0)) w2) (
 zQh p0 λa3=>
 ∃dT:SV,w1.cell? (a3.add 6)=some (dT.v)/\
 zQc prog ({ target:=.fn (.func fx) capx,args:=(firstx.toList ++ ([]:List Value)).toArray } :: ds) w1 λw4=>
 R (.returned (.int .i64 (IntKind.i64.wrap ((dT.len:Int) - 1)))) w4)
theorem F22_p:Pl prog f22 [pS 0] F22_1:=λR=>
 lf
theorem xXs (p0:Option Addr) (w:World) (R:Rt) (h:F22_1 R p0 [] w):Calls prog 22 #[.pointer p0] w R:=
 plC F22_p func22 h
def F30_1(R:Rt)(p0:Option Addr)(ds:Ds)(w:World):Prop:=
 Calls prog 55 #[.pointer p0] w λe w1=>
 ∃kI:Value,∃eE:Int,e=.returned (.tuple #[kI,.int .i64 eE])/\
 fnE kI λfx firstx capx=>
 Br (eE != 0) (
 zQc prog ({ target:=.fn (.func fx) capx,args:=(firstx.toList ++ ([]:List Value)).toArray } :: ds) w1 λw2=>
 R (.returned (.int .i64 0)) w2) (
 zQh p0 λa3=>
 ∃dT:SV,w1.cell? (a3.add 9)=some (dT.v)/\
 zQc prog ({ target:=.fn (.func fx) capx,args:=(firstx.toList ++ ([]:List Value)).toArray } :: ds) w1 λw4=>
 R (.returned (.int .i64 (dT.len:Int))) w4)
theorem F30_p:Pl prog f30 [pS 0] F30_1:=λR=>
 lf
theorem xZn (p0:Option Addr) (w:World) (R:Rt) (h:F30_1 R p0 [] w):Calls prog 30 #[.pointer p0] w R:=
 plC F30_p func30 h
def F33_1(R:Rt)(p0:Option Addr)(n1 n2:Int)(bW:SV)(ds:Ds)(w:World):Prop:=
 zQh p0 λa1=>
 ∃jS:SV,w.cell? (a1.add 9)=some (jS.v)/\
 Br (decide (n1<(jS.len:Int))) (
 zQh p0 λa2=>
 ∃o8:SV,w.cell? (a2.add 9)=some (o8.v)/\
 ∃a3,o8.a=some a3/\0<=n1/\n1<(o8.len:Int)/\
 ∃bG,w.cell? ((a3.add (n1.toNat * 3)).add 0)=some (.int .i64 bG)/\
 ∃bH,w.cell? ((a3.add (n1.toNat * 3)).add 1)=some (.int .i64 bH)/\
 ∃lP:SV,w.cell? ((a3.add (n1.toNat * 3)).add 2)=some (lP.v)/\
 Calls prog 76 #[.agg #[.int .i64 bG,.int .i64 bH,lP.v],bW.v,.int .i64 n2] w λe w4=>
 ∃ym:SV,e=.returned (ym.v)/\
 Calls prog 51 #[ym.v] w4 λe w5=>
 ∃fO:SV,∃au:SV,e=.returned (.agg #[fO.v,au.v])/\
 alE (.cells #[.slice none 0 0,.slice none 0 0] 63) w5 λaL w6=>
 stA prog 63 (⟨aL,0,none⟩:Addr) #[fO.v,au.v] w6 λw7=>
 dwE w7 λw8=>
 0<=(0:Int)/\(0:Int)<(2:Int)/\
 ∃jT:SV,w8.cell? ((⟨aL,0,none⟩:Addr).add ((0:Int).toNat * 1))=some (jT.v)/\
 0<=(1:Int)/\(1:Int)<(2:Int)/\
 ∃lQ:SV,w8.cell? ((⟨aL,0,none⟩:Addr).add ((1:Int).toNat * 1))=some (lQ.v)/\
 zQc prog ds w8 λw9=>
 R (.returned (.tuple #[jT.v,lQ.v,.int .i64 0])) w9) (
 Calls prog 51 #[bW.v] w λe aN=>
 ∃fO:SV,∃au:SV,e=.returned (.agg #[fO.v,au.v])/\
 alE (.cells #[.slice none 0 0,.slice none 0 0] 63) aN λaL aV=>
 stA prog 63 (⟨aL,0,none⟩:Addr) #[fO.v,au.v] aV λaO=>
 dwE aO λaI=>
 0<=(0:Int)/\(0:Int)<(2:Int)/\
 ∃jT:SV,aI.cell? ((⟨aL,0,none⟩:Addr).add ((0:Int).toNat * 1))=some (jT.v)/\
 0<=(1:Int)/\(1:Int)<(2:Int)/\
 ∃lQ:SV,aI.cell? ((⟨aL,0,none⟩:Addr).add ((1:Int).toNat * 1))=some (lQ.v)/\
 zQc prog ds aI λbt=>
 R (.returned (.tuple #[jT.v,lQ.v,.int .i64 0])) bt)
def F33_2 (R:Rt) (J1:(SV × Int)->World->Prop) (p0:Option Addr) (n1 n2:Int) (bW nR:SV) (qQ j5:Int) (ds:Ds) (w:World):Prop:=
 Br (decide (j5<qQ)) (
 ∃jA,nR.a=some jA/\0<=j5/\j5<(nR.len:Int)/\
 ∃eO,w.cell? ((jA.add (j5.toNat * 3)).add 0)=some (.int .i64 eO)/\
 ∃eQ,w.cell? ((jA.add (j5.toNat * 3)).add 1)=some (.int .i64 eQ)/\
 ∃lR:SV,w.cell? ((jA.add (j5.toNat * 3)).add 2)=some (lR.v)/\
 alE (.cells #[.int .i64 0,.int .i64 0,.slice none 0 0] 90) w λkT bI=>
 stA prog 90 (⟨kT,0,none⟩:Addr) #[.int .i64 eO,.int .i64 eQ,lR.v] bI λbJ=>
 ∃iA,bJ.cell? ((⟨kT,0,none⟩:Addr).add 0)=some (.int .i64 iA)/\
 ∃iU,bJ.cell? ((⟨kT,0,none⟩:Addr).add 1)=some (.int .i64 iU)/\
 ∃lT:SV,bJ.cell? ((⟨kT,0,none⟩:Addr).add 2)=some (lT.v)/\
 Calls prog 49 #[bW.v,.agg #[.int .i64 iA,.int .i64 iU,lT.v]] bJ λe bR=>
 ∃l56:SV,e=.returned (l56.v)/\
 J1 (l56,(IntKind.i64.wrap (j5+1))) bR) (
 F33_1 R p0 n1 n2 bW ds w)
def F33_3(R:Rt)(p0:Option Addr)(n1 n2:Int)(bW nR:SV)(qQ j5:Int)(ds:Ds)(w:World):Prop:=
 zQF (λ(J1:(SV × Int)->World->Prop) (s:SV × Int) (w:World)=>F33_2 R J1 p0 n1 n2 s.1 nR qQ s.2 ds w) (bW,j5) w
def F33_5(R:Rt)(p0:Option Addr)(n1 n2:Int)(ds:Ds)(w:World):Prop:=
 Calls prog 55 #[.pointer p0] w λe cK=>
 ∃vF:Value,∃iy:Int,e=.returned (.tuple #[vF,.int .i64 iy])/\
 fnE vF λfx firstx capx=>
 Br (iy != 0) (
 zQc prog ({ target:=.fn (.func fx) capx,args:=(firstx.toList ++ ([]:List Value)).toArray } :: ds) cK λcj=>
 R (.returned (.tuple #[.slice none 0 0,.slice none 0 0,.int .i64 iy])) cj) (
 Br (decide (n1<0)) (
 zQc prog ({ target:=.fn (.func fx) capx,args:=(firstx.toList ++ ([]:List Value)).toArray } :: ds) cK λcr=>
 R (.returned (.tuple #[.slice none 0 0,.slice none 0 0,.int .i64 1])) cr) (
 zQh p0 λo2=>
 ∃gD:SV,cK.cell? (o2.add 9)=some (gD.v)/\
 Br (decide (n1 > (gD.len:Int))) (
 zQc prog ({ target:=.fn (.func fx) capx,args:=(firstx.toList ++ ([]:List Value)).toArray } :: ds) cK λdQ=>
 R (.returned (.tuple #[.slice none 0 0,.slice none 0 0,.int .i64 1])) dQ) (
 Br (decide (n2<0)) (
 zQc prog ({ target:=.fn (.func fx) capx,args:=(firstx.toList ++ ([]:List Value)).toArray } :: ds) cK λdx=>
 R (.returned (.tuple #[.slice none 0 0,.slice none 0 0,.int .i64 1])) dx) (
 zQh p0 λna=>
 ∃kF:SV,cK.cell? (na.add 7)=some (kF.v)/\
 zQh p0 λxu=>
 ∃vG:SV,cK.cell? (xu.add 9)=some (vG.v)/\
 0<=n1/\n1.toNat<=vG.cap/\0<=n1.toNat/\
 F33_3 R p0 n1 n2 kF ⟨(if vG.cap=0 then vG.a else vG.a.map (λx=>x.add (0 * 3))),(n1.toNat - 0),(vG.cap - 0)⟩ (((n1.toNat - 0):Nat):Int) 0 ({ target:=.fn (.func fx) capx,args:=(firstx.toList ++ ([]:List Value)).toArray } :: ds) cK))))
theorem F33_p:Pl prog f33 [pS 0,iS 1,iS 2] F33_5:=λR=>
 pc 9 (rest [pS 0,iS 1,iS 2,lS 11,lS 48,iS 49,iS 50] (F33_3 R) (bk 0 (rest [pS 0,iS 1,iS 2,lS 11] (F33_1 R) lf) (lp [lS 11,iS 50] [pS 0,iS 1,iS 2,lS 11,lS 48,iS 49,iS 50] (F33_2 R) zXN λJ1=>lf)))
theorem xXl (p0:Option Addr) (n1 n2:Int) (w:World) (R:Rt) (h:F33_5 R p0 n1 n2 [] w):Calls prog 33 #[.pointer p0,.int .i64 n1,.int .i64 n2] w R:=
 plC F33_p func33 h
end Go.Proofs.YtaeecpjhfmcliaaGreatDoor
/- Shallow texts of functions, printed by program, each checked by the kernel against the loaded code. No condition. -/
namespace Go.Proofs.YtaeecpjhfmcliaaGreatDoor
open Go.Sh Tryz
def F35_1(R:Rt)(p0:Option Addr)(ds:Ds)(w:World):Prop:=
 Calls prog 55 #[.pointer p0] w λe w1=>
 ∃kI:Value,∃eE:Int,e=.returned (.tuple #[kI,.int .i64 eE])/\
 fnE kI λfx firstx capx=>
 Br (eE != 0) (
 zQc prog ({ target:=.fn (.func fx) capx,args:=(firstx.toList ++ ([]:List Value)).toArray } :: ds) w1 λw2=>
 R (.returned (.int .i64 eE)) w2) (
 zQh p0 λa3=>
 ∃dg:SV,w1.cell? (a3.add 5)=some (dg.v)/\
 Br (decide ((dg.len:Int) >= 8)) (
 zQc prog ({ target:=.fn (.func fx) capx,args:=(firstx.toList ++ ([]:List Value)).toArray } :: ds) w1 λw4=>
 R (.returned (.int .i64 3)) w4) (
 dwE w1 λw5=>
 ∃S1:World->Prop,S1 w5/\
 zQh p0 λa6=>
 ∃dP:SV,(∀w',S1 w'->w'.cell? (a6.add 5)=some (dP.v))/\
 zQh p0 λa7=>
 ∃dI,(∀w',S1 w'->w'.cell? ((a7.add 2).add 0)=some (.int .i64 dI))/\
 ∃bi:SV,(∀w',S1 w'->w'.cell? ((a7.add 2).add 1)=some (bi.v))/\
 ∃bj:SV,(∀w',S1 w'->w'.cell? ((a7.add 2).add 2)=some (bj.v))/\
 Calls prog 56 #[.agg #[.int .i64 dI,bi.v,bj.v]] w5 λe w8=>
 ∃bM:Int,∃aQ:SV,∃aR:SV,e=.returned (.agg #[.int .i64 bM,aQ.v,aR.v])/\
 S1 w8/\
 alE (.cells #[.int .i64 bM,aQ.v,aR.v] 35) w8 λr32 w9=>
 S1 w9/\
 ∃iK:SV,∃aN,(Builtin.append_ #[106,106] 106 #[dP.v,.slice (some ⟨r32,0,none⟩) 1 1]).run prog w9=.ok (iK.v) aN/\
 zQh p0 λdR=>
 st1 (dR.add 5) (iK.v) aN λaO=>
 zQc prog ({ target:=.fn (.func fx) capx,args:=(firstx.toList ++ ([]:List Value)).toArray } :: ds) aO λaI=>
 R (.returned (.int .i64 0)) aI))
theorem F35_p:Pl prog f35 [pS 0] F35_1:=λR=>
 lf
theorem xQV (p0:Option Addr) (w:World) (R:Rt) (h:F35_1 R p0 [] w):Calls prog 35 #[.pointer p0] w R:=
 plC F35_p func35 h
def F80_1(R:Rt)(p0:Option Addr)(ds:Ds)(w:World):Prop:=
 alE (.cells #[.int .i64 0,.slice none 0 0,.slice none 0 0] 35) w λr2 w1=>
 zQh p0 λa2=>
 ∃l9:SV,w1.cell? (a2.add 5)=some (l9.v)/\
 Br ((l9.len:Int) == 0) (
 stA prog 35 (⟨r2,0,none⟩:Addr) #[.int .i64 0,.slice none 0 0,.slice none 0 0] w1 λw3=>
 zQc prog ds w3 λw4=>
 ∃ag,w4.cell? ((⟨r2,0,none⟩:Addr).add 0)=some (.int .i64 ag)/\
 ∃ab:SV,w4.cell? ((⟨r2,0,none⟩:Addr).add 1)=some (ab.v)/\
 ∃ae:SV,w4.cell? ((⟨r2,0,none⟩:Addr).add 2)=some (ae.v)/\
 R (.returned (.tuple #[.agg #[.int .i64 ag,ab.v,ae.v],.int .i64 9])) w4) (
 zQh p0 λa5=>
 ∃dk:SV,w1.cell? (a5.add 5)=some (dk.v)/\
 ∃a6,dk.a=some a6/\0<=(IntKind.i64.wrap ((l9.len:Int) - 1))/\(IntKind.i64.wrap ((l9.len:Int) - 1))<(dk.len:Int)/\
 ∃dJ,w1.cell? ((a6.add ((IntKind.i64.wrap ((l9.len:Int) - 1)).toNat * 3)).add 0)=some (.int .i64 dJ)/\
 ∃c9:SV,w1.cell? ((a6.add ((IntKind.i64.wrap ((l9.len:Int) - 1)).toNat * 3)).add 1)=some (c9.v)/\
 ∃fP:SV,w1.cell? ((a6.add ((IntKind.i64.wrap ((l9.len:Int) - 1)).toNat * 3)).add 2)=some (fP.v)/\
 alE (.cells #[.int .i64 0,.slice none 0 0,.slice none 0 0] 35) w1 λr5 w7=>
 stA prog 35 (⟨r5,0,none⟩:Addr) #[.int .i64 dJ,c9.v,fP.v] w7 λw8=>
 zQh p0 λa9=>
 ∃dP:SV,w8.cell? (a9.add 5)=some (dP.v)/\
 0<=(IntKind.i64.wrap ((l9.len:Int) - 1))/\(IntKind.i64.wrap ((l9.len:Int) - 1)).toNat<=dP.cap/\0<=(IntKind.i64.wrap ((l9.len:Int) - 1)).toNat/\
 zQh p0 λeu=>
 st1 (eu.add 5) (.slice (if dP.cap=0 then dP.a else dP.a.map (λx=>x.add (0 * 3))) ((IntKind.i64.wrap ((l9.len:Int) - 1)).toNat - 0) (dP.cap - 0)) w8 λaV=>
 ∃jR,aV.cell? ((⟨r5,0,none⟩:Addr).add 0)=some (.int .i64 jR)/\
 ∃lU:SV,aV.cell? ((⟨r5,0,none⟩:Addr).add 1)=some (lU.v)/\
 ∃fN:SV,aV.cell? ((⟨r5,0,none⟩:Addr).add 2)=some (fN.v)/\
 stA prog 35 (⟨r2,0,none⟩:Addr) #[.int .i64 jR,lU.v,fN.v] aV λaO=>
 zQc prog ds aO λaI=>
 ∃ag,aI.cell? ((⟨r2,0,none⟩:Addr).add 0)=some (.int .i64 ag)/\
 ∃ab:SV,aI.cell? ((⟨r2,0,none⟩:Addr).add 1)=some (ab.v)/\
 ∃ae:SV,aI.cell? ((⟨r2,0,none⟩:Addr).add 2)=some (ae.v)/\
 R (.returned (.tuple #[.agg #[.int .i64 ag,ab.v,ae.v],.int .i64 0])) aI)
theorem F80_p:Pl prog f80 [pS 0] F80_1:=λR=>
 lf
theorem xXV (p0:Option Addr) (w:World) (R:Rt) (h:F80_1 R p0 [] w):Calls prog 80 #[.pointer p0] w R:=
 plC F80_p func80 h
def F36_1(R:Rt)(p0:Option Addr)(ds:Ds)(w:World):Prop:=
 Calls prog 55 #[.pointer p0] w λe w1=>
 ∃rP:Value,∃ed:Int,e=.returned (.tuple #[rP,.int .i64 ed])/\
 fnE rP λfx firstx capx=>
 Br (ed != 0) (
 zQc prog ({ target:=.fn (.func fx) capx,args:=(firstx.toList ++ ([]:List Value)).toArray } :: ds) w1 λw2=>
 R (.returned (.int .i64 ed)) w2) (
 Calls prog 80 #[.pointer p0] w1 λe w3=>
 ∃pW:Int,∃ie:SV,∃ig:SV,∃gf:Int,e=.returned (.tuple #[.agg #[.int .i64 pW,ie.v,ig.v],.int .i64 gf])/\
 alE (.cells #[.int .i64 0,.slice none 0 0,.slice none 0 0] 35) w3 λr5 w4=>
 stA prog 35 (⟨r5,0,none⟩:Addr) #[.int .i64 pW,ie.v,ig.v] w4 λw5=>
 Br (gf != 0) (
 zQc prog ({ target:=.fn (.func fx) capx,args:=(firstx.toList ++ ([]:List Value)).toArray } :: ds) w5 λw6=>
 R (.returned (.int .i64 gf)) w6) (
 Calls prog 79 #[.pointer p0] w5 λe w7=>
 e=.returned (.tuple #[])/\
 zQc prog ({ target:=.fn (.func fx) capx,args:=(firstx.toList ++ ([]:List Value)).toArray } :: ds) w7 λw8=>
 R (.returned (.int .i64 0)) w8))
theorem F36_p:Pl prog f36 [pS 0] F36_1:=λR=>
 lf
theorem xX9 (p0:Option Addr) (w:World) (R:Rt) (h:F36_1 R p0 [] w):Calls prog 36 #[.pointer p0] w R:=
 plC F36_p func36 h
def F37_1(R:Rt)(p0:Option Addr)(ds:Ds)(w:World):Prop:=
 Calls prog 55 #[.pointer p0] w λe w1=>
 ∃v8_0:Value,∃lj:Int,e=.returned (.tuple #[v8_0,.int .i64 lj])/\
 fnE v8_0 λfx firstx capx=>
 Br (lj != 0) (
 zQc prog ({ target:=.fn (.func fx) capx,args:=(firstx.toList ++ ([]:List Value)).toArray } :: ds) w1 λw2=>
 R (.returned (.int .i64 lj)) w2) (
 Calls prog 80 #[.pointer p0] w1 λe w3=>
 ∃pX:Int,∃ii:SV,∃ij:SV,∃iy:Int,e=.returned (.tuple #[.agg #[.int .i64 pX,ii.v,ij.v],.int .i64 iy])/\
 alE (.cells #[.int .i64 0,.slice none 0 0,.slice none 0 0] 35) w3 λr5 w4=>
 stA prog 35 (⟨r5,0,none⟩:Addr) #[.int .i64 pX,ii.v,ij.v] w4 λw5=>
 Br (iy != 0) (
 zQc prog ({ target:=.fn (.func fx) capx,args:=(firstx.toList ++ ([]:List Value)).toArray } :: ds) w5 λw6=>
 R (.returned (.int .i64 iy)) w6) (
 ∃gM,w5.cell? ((⟨r5,0,none⟩:Addr).add 0)=some (.int .i64 gM)/\
 ∃bE:SV,w5.cell? ((⟨r5,0,none⟩:Addr).add 1)=some (bE.v)/\
 ∃db:SV,w5.cell? ((⟨r5,0,none⟩:Addr).add 2)=some (db.v)/\
 zQh p0 λa7=>
 stA prog 35 (a7.add 2) #[.int .i64 gM,bE.v,db.v] w5 λw8=>
 zQc prog ({ target:=.fn (.func fx) capx,args:=(firstx.toList ++ ([]:List Value)).toArray } :: ds) w8 λw9=>
 R (.returned (.int .i64 0)) w9))
theorem F37_p:Pl prog f37 [pS 0] F37_1:=λR=>
 lf
theorem xQq (p0:Option Addr) (w:World) (R:Rt) (h:F37_1 R p0 [] w):Calls prog 37 #[.pointer p0] w R:=
 plC F37_p func37 h
def F84_1(R:Rt)(p0:Option Addr)(bF cp:Int)(cu:SV)(ds:Ds)(w:World):Prop:=
 alE (.cells #[.int .i64 bF,.int .i64 cp,cu.v] 90) w λr3 w1=>
 dwE w1 λw2=>
 ∃S1:World->Prop,S1 w2/\
 zQh p0 λa3=>
 ∃l8:SV,(∀w',S1 w'->w'.cell? (a3.add 9)=some (l8.v))/\
 ∃ip,(∀w',S1 w'->w'.cell? ((⟨r3,0,none⟩:Addr).add 0)=some (.int .i64 ip))/\
 ∃ed,(∀w',S1 w'->w'.cell? ((⟨r3,0,none⟩:Addr).add 1)=some (.int .i64 ed))/\
 ∃je:SV,(∀w',S1 w'->w'.cell? ((⟨r3,0,none⟩:Addr).add 2)=some (je.v))/\
 alE (.cells #[.int .i64 ip,.int .i64 ed,je.v] 90) w2 λdF w4=>
 S1 w4/\
 ∃bW:SV,∃w5,(Builtin.append_ #[87,87] 87 #[l8.v,.slice (some ⟨dF,0,none⟩) 1 1]).run prog w4=.ok (bW.v) w5/\
 zQh p0 λa6=>
 st1 (a6.add 9) (bW.v) w5 λw7=>
 dwE w7 λw8=>
 zQh p0 λa9=>
 ∃dr:SV,w8.cell? (a9.add 8)=some (dr.v)/\
 ∃dE,w8.cell? ((⟨r3,0,none⟩:Addr).add 0)=some (.int .i64 dE)/\
 ∃bT,w8.cell? ((⟨r3,0,none⟩:Addr).add 1)=some (.int .i64 bT)/\
 ∃cQ:SV,w8.cell? ((⟨r3,0,none⟩:Addr).add 2)=some (cQ.v)/\
 Calls prog 49 #[dr.v,.agg #[.int .i64 dE,.int .i64 bT,cQ.v]] w8 λe aN=>
 ∃dS:SV,e=.returned (dS.v)/\
 zQh p0 λdR=>
 st1 (dR.add 8) (dS.v) aN λaO=>
 zQc prog ds aO λaI=>
 R (.returned (.tuple #[])) aI
theorem F84_p:Pl prog f84 [pS 0,aS 1 [.int .i64,.int .i64,.slice]] F84_1:=λR=>
 lf
theorem xXb (p0:Option Addr) (bF cp:Int) (cu:SV) (w:World) (R:Rt) (h:F84_1 R p0 bF cp cu [] w):Calls prog 84 #[.pointer p0,.agg #[.int .i64 bF,.int .i64 cp,cu.v]] w R:=
 plC F84_p func84 h
def F79_1(R:Rt)(p0:Option Addr)(ds:Ds)(w:World):Prop:=
 dwE w λw1=>
 ∃S1:World->Prop,S1 w1/\
 zQh p0 λa2=>
 ∃l8:SV,(∀w',S1 w'->w'.cell? (a2.add 6)=some (l8.v))/\
 zQh p0 λa3=>
 ∃io:SV,(∀w',S1 w'->w'.cell? (a3.add 6)=some (io.v))/\
 ∃a4,l8.a=some a4/\0<=(IntKind.i64.wrap ((io.len:Int) - 1))/\(IntKind.i64.wrap ((io.len:Int) - 1))<(l8.len:Int)/\
 ∃kH,(∀w',S1 w'->w'.cell? ((a4.add ((IntKind.i64.wrap ((io.len:Int) - 1)).toNat * 3)).add 0)=some (.int .i64 kH))/\
 ∃lV:SV,(∀w',S1 w'->w'.cell? ((a4.add ((IntKind.i64.wrap ((io.len:Int) - 1)).toNat * 3)).add 1)=some (lV.v))/\
 ∃lW:SV,(∀w',S1 w'->w'.cell? ((a4.add ((IntKind.i64.wrap ((io.len:Int) - 1)).toNat * 3)).add 2)=some (lW.v))/\
 alE (.cells #[.int .i64 0,.slice none 0 0,.slice none 0 0] 35) w1 λr2 w5=>
 S1 w5/\
 stA prog 35 (⟨r2,0,none⟩:Addr) #[.int .i64 kH,lV.v,lW.v] w5 λw6=>
 dwE w6 λw7=>
 ∃gw,w7.cell? ((⟨r2,0,none⟩:Addr).add 0)=some (.int .i64 gw)/\
 ∃bZ:SV,w7.cell? ((⟨r2,0,none⟩:Addr).add 1)=some (bZ.v)/\
 ∃c8:SV,w7.cell? ((⟨r2,0,none⟩:Addr).add 2)=some (c8.v)/\
 zQh p0 λa8=>
 ∃jW,w7.cell? ((a8.add 2).add 0)=some (.int .i64 jW)/\
 ∃cf:SV,w7.cell? ((a8.add 2).add 1)=some (cf.v)/\
 ∃cS:SV,w7.cell? ((a8.add 2).add 2)=some (cS.v)/\
 Calls prog 72 #[.agg #[.int .i64 gw,bZ.v,c8.v],.agg #[.int .i64 jW,cf.v,cS.v]] w7 λe w9=>
 ∃kJ:SV,∃dY:Int,e=.returned (.tuple #[kJ.v,.int .i64 dY])/\
 zQh p0 λeu=>
 ∃i6:SV,w9.cell? (eu.add 5)=some (i6.v)/\
 Br (decide ((i6.len:Int) > 0)) (
 zQc prog ds w9 λaV=>
 R (.returned (.tuple #[])) aV) (
 Br ((kJ.len:Int) == 0) (
 zQc prog ds w9 λaO=>
 R (.returned (.tuple #[])) aO) (
 dwE w9 λaI=>
 ∃S3:World->Prop,S3 aI/\
 zQh p0 λga=>
 ∃nF:SV,(∀w',S3 w'->w'.cell? (ga.add 8)=some (nF.v))/\
 ∃jA,nF.a=some jA/\0<=(1:Int)/\(1:Int)<(nF.len:Int)/\
 ∃nE:SV,(∀w',S3 w'->w'.cell? (jA.add ((1:Int).toNat * 1))=some (nE.v))/\
 zQh p0 λiJ=>
 ∃vH,(∀w',S3 w'->w'.cell? ((iJ.add 2).add 0)=some (.int .i64 vH))/\
 ∃dK:SV,(∀w',S3 w'->w'.cell? ((iJ.add 2).add 1)=some (dK.v))/\
 ∃lX:SV,(∀w',S3 w'->w'.cell? ((iJ.add 2).add 2)=some (lX.v))/\
 Calls prog 112 #[.agg #[.int .i64 vH,dK.v,lX.v],kJ.v] aI λe bJ=>
 ∃yn:SV,e=.returned (yn.v)/\
 S3 bJ/\
 Calls prog 111 #[.int .u8 99,yn.v] bJ λe bR=>
 ∃rE:SV,e=.returned (rE.v)/\
 S3 bR/\
 Calls prog 84 #[.pointer p0,.agg #[.int .i64 1,.int .i64 (nE.len:Int),rE.v]] bR λe cK=>
 e=.returned (.tuple #[])/\
 dwE cK λcj=>
 ∃S4:World->Prop,S4 cj/\
 zQh p0 λa21=>
 ∃pb:SV,(∀w',S4 w'->w'.cell? (a21.add 6)=some (pb.v))/\
 zQh p0 λo2=>
 ∃dG,(∀w',S4 w'->w'.cell? ((o2.add 2).add 0)=some (.int .i64 dG))/\
 ∃bD:SV,(∀w',S4 w'->w'.cell? ((o2.add 2).add 1)=some (bD.v))/\
 ∃fL:SV,(∀w',S4 w'->w'.cell? ((o2.add 2).add 2)=some (fL.v))/\
 Calls prog 56 #[.agg #[.int .i64 dG,bD.v,fL.v]] cj λe dQ=>
 ∃vI:Int,∃lY:SV,∃lZ:SV,e=.returned (.agg #[.int .i64 vI,lY.v,lZ.v])/\
 S4 dQ/\
 alE (.cells #[.int .i64 vI,lY.v,lZ.v] 35) dQ λr64 dx=>
 S4 dx/\
 ∃jV:SV,∃gj,(Builtin.append_ #[106,106] 106 #[pb.v,.slice (some ⟨r64,0,none⟩) 1 1]).run prog dx=.ok (jV.v) gj/\
 zQh p0 λxu=>
 st1 (xu.add 6) (jV.v) gj λgS=>
 dwE gS λcy=>
 ∃S5:World->Prop,S5 cy/\
 zQh p0 λpN=>
 ∃nj:SV,(∀w',S5 w'->w'.cell? (pN.add 10)=some (nj.v))/\
 zQh p0 λo3=>
 ∃oX:SV,(∀w',S5 w'->w'.cell? (o3.add 9)=some (oX.v))/\
 alE (.cells #[.int .i64 (oX.len:Int)] 3) cy λr78 fX=>
 S5 fX/\
 ∃i7:SV,∃gz,(Builtin.append_ #[52,52] 52 #[nj.v,.slice (some ⟨r78,0,none⟩) 1 1]).run prog fX=.ok (i7.v) gz/\
 zQh p0 λa33=>
 st1 (a33.add 10) (i7.v) gz λfo=>
 zQc prog ds fo λiN=>
 R (.returned (.tuple #[])) iN))
theorem F79_p:Pl prog f79 [pS 0] F79_1:=λR=>
 lf
theorem xXo (p0:Option Addr) (w:World) (R:Rt) (h:F79_1 R p0 [] w):Calls prog 79 #[.pointer p0] w R:=
 plC F79_p func79 h
def F81_1(R:Rt)(p0:Option Addr)(n1:Int)(ds:Ds)(w:World):Prop:=
 Br (decide (n1 >= 1)) (
 zQh p0 λa1=>
 ∃cz:SV,w.cell? ((a1.add 2).add 2)=some (cz.v)/\
 zQc prog ds w λw2=>
 R (.returned (.bool (decide (n1<=(cz.len:Int))))) w2) (
 zQc prog ds w λw3=>
 R (.returned (.bool false)) w3)
theorem F81_p:Pl prog f81 [pS 0,iS 1] F81_1:=λR=>
 lf
theorem xXf (p0:Option Addr) (n1:Int) (w:World) (R:Rt) (h:F81_1 R p0 n1 [] w):Calls prog 81 #[.pointer p0,.int .i64 n1] w R:=
 plC F81_p func81 h
def F77_1(R:Rt)(p0:Option Addr)(ei:Bool)(bh:SV)(ds:Ds)(w:World):Prop:=
 alE (.cells #[.bool ei,bh.v] 67) w λr3 w1=>
 dwE w1 λw2=>
 ∃S1:World->Prop,S1 w2/\
 zQh p0 λa3=>
 ∃n9,(∀w',S1 w'->w'.cell? (a3.add 2)=some (.int .i64 n9))/\
 zQh p0 λa4=>
 ∃aW:SV,(∀w',S1 w'->w'.cell? ((a4.add 2).add 1)=some (aW.v))/\
 ∃vJ,(∀w',S1 w'->w'.cell? ((⟨r3,0,none⟩:Addr).add 0)=some (.bool vJ))/\
 ∃ft:SV,(∀w',S1 w'->w'.cell? ((⟨r3,0,none⟩:Addr).add 1)=some (ft.v))/\
 alE (.cells #[.bool vJ,ft.v] 67) w2 λxv w5=>
 S1 w5/\
 Calls prog 106 #[.agg #[.int .i64 n9,aW.v,.slice (some ⟨xv,0,none⟩) 1 1]] w5 λe w6=>
 ∃iI:Int,e=.returned (.int .i64 iI)/\
 zQc prog ds w6 λw7=>
 R (.returned (.int .i64 iI)) w7
theorem F77_p:Pl prog f77 [pS 0,aS 1 [.bool,.slice]] F77_1:=λR=>
 lf
theorem xQe (p0:Option Addr) (ei:Bool) (bh:SV) (w:World) (R:Rt) (h:F77_1 R p0 ei bh [] w):Calls prog 77 #[.pointer p0,.agg #[.bool ei,bh.v]] w R:=
 plC F77_p func77 h
end Go.Proofs.YtaeecpjhfmcliaaGreatDoor
/- Shallow texts of functions, printed by program, each checked by the kernel against the loaded code. No condition. -/
namespace Go.Proofs.YtaeecpjhfmcliaaGreatDoor
open Go.Sh Tryz
def F34_1(R:Rt)(p0:Option Addr)(ei:Bool)(bh:SV)(ds:Ds)(w:World):Prop:=
 alE (.cells #[.bool ei,bh.v] 67) w λr3 w1=>
 Calls prog 55 #[.pointer p0] w1 λe w2=>
 ∃oA:Value,∃dV:Int,e=.returned (.tuple #[oA,.int .i64 dV])/\
 fnE oA λfx firstx capx=>
 Br (dV != 0) (
 zQc prog ({ target:=.fn (.func fx) capx,args:=(firstx.toList ++ ([]:List Value)).toArray } :: ds) w2 λw3=>
 R (.returned (.tuple #[.int .i64 0,.int .i64 dV])) w3) (
 zQh p0 λa4=>
 ∃dv:SV,w2.cell? ((a4.add 2).add 2)=some (dv.v)/\
 Br (decide ((dv.len:Int) >= 300)) (
 zQc prog ({ target:=.fn (.func fx) capx,args:=(firstx.toList ++ ([]:List Value)).toArray } :: ds) w2 λw5=>
 R (.returned (.tuple #[.int .i64 0,.int .i64 3])) w5) (
 ∃oB,w2.cell? ((⟨r3,0,none⟩:Addr).add 0)=some (.bool oB)/\
 ∃bB:SV,w2.cell? ((⟨r3,0,none⟩:Addr).add 1)=some (bB.v)/\
 Calls prog 77 #[.pointer p0,.agg #[.bool oB,bB.v]] w2 λe w6=>
 ∃gn:Int,e=.returned (.int .i64 gn)/\
 Br (gn != 0) (
 zQc prog ({ target:=.fn (.func fx) capx,args:=(firstx.toList ++ ([]:List Value)).toArray } :: ds) w6 λw7=>
 R (.returned (.tuple #[.int .i64 0,.int .i64 gn])) w7) (
 dwE w6 λw8=>
 ∃S1:World->Prop,S1 w8/\
 zQh p0 λa9=>
 ∃iF:SV,(∀w',S1 w'->w'.cell? ((a9.add 2).add 2)=some (iF.v))/\
 ∃b38,(∀w',S1 w'->w'.cell? (⟨r3,0,none⟩:Addr)=some (.bool b38))/\
 ∃bK:SV,(∀w',S1 w'->w'.cell? ((⟨r3,0,none⟩:Addr).add 1)=some (bK.v))/\
 Calls prog 78 #[bK.v] w8 λe aN=>
 ∃nF:SV,e=.returned (nF.v)/\
 S1 aN/\
 alE (.cells #[.bool b38,nF.v] 67) aN λr43 aV=>
 S1 aV/\
 ∃rO:SV,∃aO,(Builtin.append_ #[33,33] 33 #[iF.v,.slice (some ⟨r43,0,none⟩) 1 1]).run prog aV=.ok (rO.v) aO/\
 zQh p0 λlq=>
 st1 ((lq.add 2).add 2) (rO.v) aO λbt=>
 Calls prog 79 #[.pointer p0] bt λe br=>
 e=.returned (.tuple #[])/\
 zQh p0 λiJ=>
 ∃l54:SV,br.cell? ((iJ.add 2).add 2)=some (l54.v)/\
 zQc prog ({ target:=.fn (.func fx) capx,args:=(firstx.toList ++ ([]:List Value)).toArray } :: ds) br λbJ=>
 R (.returned (.tuple #[.int .i64 (l54.len:Int),.int .i64 0])) bJ)))
theorem F34_p:Pl prog f34 [pS 0,aS 1 [.bool,.slice]] F34_1:=λR=>
 lf
theorem xQW (p0:Option Addr) (ei:Bool) (bh:SV) (w:World) (R:Rt) (h:F34_1 R p0 ei bh [] w):Calls prog 34 #[.pointer p0,.agg #[.bool ei,bh.v]] w R:=
 plC F34_p func34 h
def F38_1(R:Rt)(p0:Option Addr)(n1:Int)(gc:Bool)(bL:SV)(ds:Ds)(w:World):Prop:=
 alE (.cells #[.bool gc,bL.v] 67) w λr5 w1=>
 Calls prog 55 #[.pointer p0] w1 λe w2=>
 ∃vK:Value,∃d7:Int,e=.returned (.tuple #[vK,.int .i64 d7])/\
 fnE vK λfx firstx capx=>
 Br (d7 != 0) (
 zQc prog ({ target:=.fn (.func fx) capx,args:=(firstx.toList ++ ([]:List Value)).toArray } :: ds) w2 λw3=>
 R (.returned (.int .i64 d7)) w3) (
 Calls prog 81 #[.pointer p0,.int .i64 n1] w2 λe w4=>
 ∃u6:Bool,e=.returned (.bool u6)/\
 Br (!u6) (
 zQc prog ({ target:=.fn (.func fx) capx,args:=(firstx.toList ++ ([]:List Value)).toArray } :: ds) w4 λw5=>
 R (.returned (.int .i64 4)) w5) (
 ∃oz,w4.cell? ((⟨r5,0,none⟩:Addr).add 0)=some (.bool oz)/\
 ∃bE:SV,w4.cell? ((⟨r5,0,none⟩:Addr).add 1)=some (bE.v)/\
 Calls prog 77 #[.pointer p0,.agg #[.bool oz,bE.v]] w4 λe w6=>
 ∃cn:Int,e=.returned (.int .i64 cn)/\
 Br (cn != 0) (
 zQc prog ({ target:=.fn (.func fx) capx,args:=(firstx.toList ++ ([]:List Value)).toArray } :: ds) w6 λw7=>
 R (.returned (.int .i64 cn)) w7) (
 dwE w6 λw8=>
 ∃S1:World->Prop,S1 w8/\
 zQh p0 λa9=>
 ∃iK:SV,(∀w',S1 w'->w'.cell? ((a9.add 2).add 2)=some (iK.v))/\
 ∃u0,(∀w',S1 w'->w'.cell? (⟨r5,0,none⟩:Addr)=some (.bool u0))/\
 ∃gk:SV,(∀w',S1 w'->w'.cell? ((⟨r5,0,none⟩:Addr).add 1)=some (gk.v))/\
 Calls prog 78 #[gk.v] w8 λe aN=>
 ∃bK:SV,e=.returned (bK.v)/\
 S1 aN/\
 ∃dR,iK.a=some dR/\0<=(IntKind.i64.wrap (n1 - 1))/\(IntKind.i64.wrap (n1 - 1))<(iK.len:Int)/\
 stA prog 67 (dR.add ((IntKind.i64.wrap (n1 - 1)).toNat * 2)) #[.bool u0,bK.v] aN λaO=>
 Calls prog 79 #[.pointer p0] aO λe aI=>
 e=.returned (.tuple #[])/\
 zQc prog ({ target:=.fn (.func fx) capx,args:=(firstx.toList ++ ([]:List Value)).toArray } :: ds) aI λbt=>
 R (.returned (.int .i64 0)) bt)))
theorem F38_p:Pl prog f38 [pS 0,iS 1,aS 2 [.bool,.slice]] F38_1:=λR=>
 lf
theorem xQy (p0:Option Addr) (n1:Int) (gc:Bool) (bL:SV) (w:World) (R:Rt) (h:F38_1 R p0 n1 gc bL [] w):Calls prog 38 #[.pointer p0,.int .i64 n1,.agg #[.bool gc,bL.v]] w R:=
 plC F38_p func38 h
def F39_1(R:Rt)(p0:Option Addr)(n1:Int)(b2:Bool)(ds:Ds)(w:World):Prop:=
 Calls prog 55 #[.pointer p0] w λe w1=>
 ∃oA:Value,∃dV:Int,e=.returned (.tuple #[oA,.int .i64 dV])/\
 fnE oA λfx firstx capx=>
 Br (dV != 0) (
 zQc prog ({ target:=.fn (.func fx) capx,args:=(firstx.toList ++ ([]:List Value)).toArray } :: ds) w1 λw2=>
 R (.returned (.int .i64 dV)) w2) (
 Calls prog 81 #[.pointer p0,.int .i64 n1] w1 λe w3=>
 ∃b20:Bool,e=.returned (.bool b20)/\
 Br (!b20) (
 zQc prog ({ target:=.fn (.func fx) capx,args:=(firstx.toList ++ ([]:List Value)).toArray } :: ds) w3 λw4=>
 R (.returned (.int .i64 4)) w4) (
 zQh p0 λa5=>
 ∃dP:SV,w3.cell? ((a5.add 2).add 2)=some (dP.v)/\
 ∃a6,dP.a=some a6/\0<=(IntKind.i64.wrap (n1 - 1))/\(IntKind.i64.wrap (n1 - 1))<(dP.len:Int)/\
 st1 (a6.add ((IntKind.i64.wrap (n1 - 1)).toNat * 2)) (.bool b2) w3 λw7=>
 Calls prog 79 #[.pointer p0] w7 λe w8=>
 e=.returned (.tuple #[])/\
 zQc prog ({ target:=.fn (.func fx) capx,args:=(firstx.toList ++ ([]:List Value)).toArray } :: ds) w8 λw9=>
 R (.returned (.int .i64 0)) w9))
theorem F39_p:Pl prog f39 [pS 0,iS 1,bS 2] F39_1:=λR=>
 lf
theorem yYl (p0:Option Addr) (n1:Int) (b2:Bool) (w:World) (R:Rt) (h:F39_1 R p0 n1 b2 [] w):Calls prog 39 #[.pointer p0,.int .i64 n1,.bool b2] w R:=
 plC F39_p func39 h
def F40_1(R:Rt)(p0:Option Addr)(n1:Int)(s2:ByteArray)(iV gB:Int)(nl:ByteArray)(ds:Ds)(w:World):Prop:=
 alE (.cells #[.int .i64 iV,.int .i64 gB,.string nl] 73) w λr7 w1=>
 Calls prog 55 #[.pointer p0] w1 λe w2=>
 ∃vL:Value,∃gC:Int,e=.returned (.tuple #[vL,.int .i64 gC])/\
 fnE vL λfx firstx capx=>
 Br (gC != 0) (
 zQc prog ({ target:=.fn (.func fx) capx,args:=(firstx.toList ++ ([]:List Value)).toArray } :: ds) w2 λw3=>
 R (.returned (.int .i64 gC)) w3) (
 zQh p0 λa4=>
 ∃bV:SV,w2.cell? ((a4.add 2).add 1)=some (bV.v)/\
 Calls prog 82 #[bV.v,.string s2] w2 λe w5=>
 ∃cO:Int,∃oC:Bool,e=.returned (.tuple #[.int .i64 cO,.bool oC])/\
 Br (!oC) (
 zQc prog ({ target:=.fn (.func fx) capx,args:=(firstx.toList ++ ([]:List Value)).toArray } :: ds) w5 λw6=>
 R (.returned (.int .i64 4)) w6) (
 Calls prog 81 #[.pointer p0,.int .i64 n1] w5 λe w7=>
 ∃u0:Bool,e=.returned (.bool u0)/\
 Br (!u0) (
 zQc prog ({ target:=.fn (.func fx) capx,args:=(firstx.toList ++ ([]:List Value)).toArray } :: ds) w7 λw8=>
 R (.returned (.int .i64 4)) w8) (
 dwE w7 λw9=>
 zQh p0 λeu=>
 ∃sN:SV,w9.cell? ((eu.add 2).add 1)=some (sN.v)/\
 ∃dR,sN.a=some dR/\0<=cO/\cO<(sN.len:Int)/\
 ∃vM,w9.cell? ((dR.add (cO.toNat * 4)).add 0)=some (.string vM)/\
 ∃vN,w9.cell? ((dR.add (cO.toNat * 4)).add 1)=some (.int .i64 vN)/\
 ∃oD,w9.cell? ((dR.add (cO.toNat * 4)).add 2)=some (.int .i64 oD)/\
 ∃vO,w9.cell? ((dR.add (cO.toNat * 4)).add 3)=some (.bool vO)/\
 zQh p0 λkQ=>
 ∃lr,w9.cell? (kQ.add 2)=some (.int .i64 lr)/\
 ∃oE,w9.cell? ((⟨r7,0,none⟩:Addr).add 0)=some (.int .i64 oE)/\
 ∃oF,w9.cell? ((⟨r7,0,none⟩:Addr).add 1)=some (.int .i64 oF)/\
 ∃vP,w9.cell? ((⟨r7,0,none⟩:Addr).add 2)=some (.string vP)/\
 Calls prog 83 #[.agg #[.string vM,.int .i64 vN,.int .i64 oD,.bool vO],.int .i64 lr,.agg #[.int .i64 oE,.int .i64 oF,.string vP]] w9 λe aI=>
 ∃pY:Int,∃pZ:Int,∃qa:ByteArray,∃iU:Int,e=.returned (.tuple #[.agg #[.int .i64 pY,.int .i64 pZ,.string qa],.int .i64 iU])/\
 stA prog 73 (⟨r7,0,none⟩:Addr) #[.int .i64 pY,.int .i64 pZ,.string qa] aI λbt=>
 Br (iU != 0) (
 zQc prog ({ target:=.fn (.func fx) capx,args:=(firstx.toList ++ ([]:List Value)).toArray } :: ds) bt λbr=>
 R (.returned (.int .i64 iU)) br) (
 dwE bt λbI=>
 zQh p0 λrF=>
 ∃jV:SV,bI.cell? ((rF.add 2).add 2)=some (jV.v)/\
 ∃jz,jV.a=some jz/\0<=(IntKind.i64.wrap (n1 - 1))/\(IntKind.i64.wrap (n1 - 1))<(jV.len:Int)/\
 ∃nh:SV,bI.cell? ((jz.add ((IntKind.i64.wrap (n1 - 1)).toNat * 2)).add 1)=some (nh.v)/\
 ∃vQ,bI.cell? ((⟨r7,0,none⟩:Addr).add 0)=some (.int .i64 vQ)/\
 ∃vR,bI.cell? ((⟨r7,0,none⟩:Addr).add 1)=some (.int .i64 vR)/\
 ∃vT,bI.cell? ((⟨r7,0,none⟩:Addr).add 2)=some (.string vT)/\
 ∃ke,nh.a=some ke/\0<=cO/\cO<(nh.len:Int)/\
 stA prog 73 (ke.add (cO.toNat * 3)) #[.int .i64 vQ,.int .i64 vR,.string vT] bI λcj=>
 Calls prog 79 #[.pointer p0] cj λe cr=>
 e=.returned (.tuple #[])/\
 zQc prog ({ target:=.fn (.func fx) capx,args:=(firstx.toList ++ ([]:List Value)).toArray } :: ds) cr λdX=>
 R (.returned (.int .i64 0)) dX))))
theorem F40_p:Pl prog f40 [pS 0,iS 1,sS 2,aS 3 [.int .i64,.int .i64,.str]] F40_1:=λR=>
 lf
theorem xQ3 (p0:Option Addr) (n1:Int) (s2:ByteArray) (iV gB:Int) (nl:ByteArray) (w:World) (R:Rt) (h:F40_1 R p0 n1 s2 iV gB nl [] w):Calls prog 40 #[.pointer p0,.int .i64 n1,.string s2,.agg #[.int .i64 iV,.int .i64 gB,.string nl]] w R:=
 plC F40_p func40 h
def F41_1(R:Rt)(ds:Ds)(w:World):Prop:=
 zQc prog ds w λw1=>
 R (.returned (.int .i64 0)) w1
def F41_2 (R:Rt) (J1:(Int)->World->Prop) (p0:Option Addr) (sO:SV) (j5 o1:Int) (ds:Ds) (w:World):Prop:=
 Br (decide (o1<j5)) (
 ∃a2,sO.a=some a2/\0<=o1/\o1<(sO.len:Int)/\
 ∃oE,w.cell? ((a2.add (o1.toNat * 3)).add 0)=some (.int .i64 oE)/\
 ∃oF,w.cell? ((a2.add (o1.toNat * 3)).add 1)=some (.int .i64 oF)/\
 ∃mc:SV,w.cell? ((a2.add (o1.toNat * 3)).add 2)=some (mc.v)/\
 alE (.cells #[.int .i64 0,.int .i64 0,.slice none 0 0] 90) w λr6 w3=>
 stA prog 90 (⟨r6,0,none⟩:Addr) #[.int .i64 oE,.int .i64 oF,mc.v] w3 λw4=>
 ∃vU,w4.cell? ((⟨r6,0,none⟩:Addr).add 0)=some (.int .i64 vU)/\
 ∃vV,w4.cell? ((⟨r6,0,none⟩:Addr).add 1)=some (.int .i64 vV)/\
 ∃md:SV,w4.cell? ((⟨r6,0,none⟩:Addr).add 2)=some (md.v)/\
 Calls prog 84 #[.pointer p0,.agg #[.int .i64 vU,.int .i64 vV,md.v]] w4 λe w5=>
 e=.returned (.tuple #[])/\
 J1 (IntKind.i64.wrap (o1+1)) w5) (
 F41_1 R ds w)
def F41_3(R:Rt)(p0:Option Addr)(sO:SV)(j5 o1:Int)(ds:Ds)(w:World):Prop:=
 zQF (λ(J1:(Int)->World->Prop) (s:Int) (w:World)=>F41_2 R J1 p0 sO j5 s ds w) o1 w
def F41_5(R:Rt)(p0:Option Addr)(ds:Ds)(w:World):Prop:=
 Calls prog 55 #[.pointer p0] w λe w6=>
 ∃rP:Value,∃ed:Int,e=.returned (.tuple #[rP,.int .i64 ed])/\
 fnE rP λfx firstx capx=>
 Br (ed != 0) (
 zQc prog ({ target:=.fn (.func fx) capx,args:=(firstx.toList ++ ([]:List Value)).toArray } :: ds) w6 λw7=>
 R (.returned (.int .i64 ed)) w7) (
 zQh p0 λa8=>
 ∃dg:SV,w6.cell? (a8.add 5)=some (dg.v)/\
 Br (decide ((dg.len:Int) > 0)) (
 zQc prog ({ target:=.fn (.func fx) capx,args:=(firstx.toList ++ ([]:List Value)).toArray } :: ds) w6 λw9=>
 R (.returned (.int .i64 9)) w9) (
 zQh p0 λeu=>
 ∃dZ:SV,w6.cell? (eu.add 8)=some (dZ.v)/\
 ∃dR,dZ.a=some dR/\0<=(1:Int)/\(1:Int)<(dZ.len:Int)/\
 ∃bV:SV,w6.cell? (dR.add ((1:Int).toNat * 1))=some (bV.v)/\
 Br ((bV.len:Int) == 0) (
 zQc prog ({ target:=.fn (.func fx) capx,args:=(firstx.toList ++ ([]:List Value)).toArray } :: ds) w6 λaO=>
 R (.returned (.int .i64 0)) aO) (
 dwE w6 λaI=>
 ∃S1:World->Prop,S1 aI/\
 zQh p0 λga=>
 ∃kg:SV,(∀w',S1 w'->w'.cell? (ga.add 8)=some (kg.v))/\
 ∃jA,kg.a=some jA/\0<=(1:Int)/\(1:Int)<(kg.len:Int)/\
 ∃iF:SV,(∀w',S1 w'->w'.cell? (jA.add ((1:Int).toNat * 1))=some (iF.v))/\
 zQh p0 λiJ=>
 ∃oe,(∀w',S1 w'->w'.cell? ((iJ.add 2).add 0)=some (.int .i64 oe))/\
 ∃fI:SV,(∀w',S1 w'->w'.cell? ((iJ.add 2).add 1)=some (fI.v))/\
 ∃fJ:SV,(∀w',S1 w'->w'.cell? ((iJ.add 2).add 2)=some (fJ.v))/\
 Calls prog 85 #[.agg #[.int .i64 oe,fI.v,fJ.v]] aI λe bJ=>
 ∃kF:SV,e=.returned (kF.v)/\
 S1 bJ/\
 Calls prog 84 #[.pointer p0,.agg #[.int .i64 1,.int .i64 (iF.len:Int),kF.v]] bJ λe bR=>
 e=.returned (.tuple #[])/\
 zQh p0 λke=>
 ∃nR:SV,bR.cell? (ke.add 8)=some (nR.v)/\
 Calls prog 48 #[nR.v] bR λe cj=>
 ∃sO:SV,e=.returned (sO.v)/\
 F41_3 R p0 sO (sO.len:Int) 0 ({ target:=.fn (.func fx) capx,args:=(firstx.toList ++ ([]:List Value)).toArray } :: ds) cj)))
theorem F41_p:Pl prog f41 [pS 0] F41_5:=λR=>
 pc 11 (rest [pS 0,lS 49,iS 50,iS 51] (F41_3 R) (bk 0 (rest [] (F41_1 R) lf) (lp [iS 51] [pS 0,lS 49,iS 50,iS 51] (F41_2 R) zXN λJ1=>lf)))
theorem xQJ (p0:Option Addr) (w:World) (R:Rt) (h:F41_5 R p0 [] w):Calls prog 41 #[.pointer p0] w R:=
 plC F41_p func41 h
end Go.Proofs.YtaeecpjhfmcliaaGreatDoor
